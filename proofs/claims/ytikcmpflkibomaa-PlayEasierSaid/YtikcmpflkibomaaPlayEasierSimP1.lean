/- The functions compute what the shallow ones say: printed by program. -/
import Derived.Test.YtikcmpflkibomaaPlaySh
import Derived.Test.YtikcmpflkibomaaAmFam2
import Derived.Test.YtikcmpflkibomaaChecked
import Derived.KernelRfl
namespace Go.Am
open Go.Proofs
set_option maxRecDepth 100000
set_option maxHeartbeats 4000000

theorem mix : Try.prog.follows .mixedOrders = true := Checked.mixed Try.checked

theorem agg_25 : IsAgg Try.prog 25 3 := ⟨Try.isAgg25, Try.sizeOf25⟩
theorem sl_26 : SliceTy Try.prog 26 45 3 24 (.agg #[.int .i64 0, .int .i64 0, .int .i64 0]) := ⟨Try.underlying26, ⟨Try.t45, by kernel_rfl, rfl, rfl, rfl⟩, rfl, by decide⟩
theorem sl_27 : SliceTy Try.prog 27 3 1 8 (.int .i64 0) := ⟨Try.underlying27, ⟨Try.t3, by kernel_rfl, rfl, rfl, rfl⟩, rfl, by decide⟩
theorem fld_25_2 : FieldAt Try.prog 25 2 2 := fieldAt_mk Try.runUnderlying25 rfl rfl Try.sizeOf23
theorem one_23 : IsOne Try.prog 23 := ⟨Try.isAgg23, Try.sizeOf23⟩
theorem sl_23 : SliceTy Try.prog 23 36 6 80 (.agg #[.int .i64 0, .int .i64 0, .slice none 0 0, .slice none 0 0, .int .i64 0, .int .i64 0]) := ⟨Try.underlying23, ⟨Try.t36, by kernel_rfl, rfl, rfl, rfl⟩, rfl, by decide⟩
theorem one_3 : IsOne Try.prog 3 := ⟨Try.isAgg3, Try.sizeOf3⟩
theorem fld_36_0 : FieldAt Try.prog 36 0 0 := fieldAt_mk Try.runUnderlying36 rfl rfl Try.sizeOf34
theorem fld_34_0 : FieldAt Try.prog 34 0 0 := fieldAt_mk Try.runUnderlying34 rfl rfl Try.sizeOf3
theorem fld_34_1 : FieldAt Try.prog 34 1 1 := fieldAt_mk Try.runUnderlying34 rfl rfl Try.sizeOf3
theorem sl_37 : SliceTy Try.prog 37 34 2 16 (.agg #[.int .i64 0, .int .i64 0]) := ⟨Try.underlying37, ⟨Try.t34, by kernel_rfl, rfl, rfl, rfl⟩, rfl, by decide⟩
theorem agg_45 : IsAgg Try.prog 45 3 := ⟨Try.isAgg45, Try.sizeOf45⟩
theorem fld_45_0 : FieldAt Try.prog 45 0 0 := fieldAt_mk Try.runUnderlying45 rfl rfl Try.sizeOf3
theorem fld_25_0 : FieldAt Try.prog 25 0 0 := fieldAt_mk Try.runUnderlying25 rfl rfl Try.sizeOf22
theorem one_22 : IsOne Try.prog 22 := ⟨Try.isAgg22, Try.sizeOf22⟩
theorem fld_45_1 : FieldAt Try.prog 45 1 1 := fieldAt_mk Try.runUnderlying45 rfl rfl Try.sizeOf3
theorem sl_22 : SliceTy Try.prog 22 37 1 24 (.slice none 0 0) := ⟨Try.underlying22, ⟨Try.t37, by kernel_rfl, rfl, rfl, rfl⟩, rfl, by decide⟩
theorem one_37 : IsOne Try.prog 37 := ⟨Try.isAgg37, Try.sizeOf37⟩
theorem fld_45_2 : FieldAt Try.prog 45 2 2 := fieldAt_mk Try.runUnderlying45 rfl rfl Try.sizeOf3
theorem fld_36_4 : FieldAt Try.prog 36 4 5 := fieldAt_mk Try.runUnderlying36 rfl rfl Try.sizeOf3
theorem fld_25_1 : FieldAt Try.prog 25 1 1 := fieldAt_mk Try.runUnderlying25 rfl rfl Try.sizeOf3
theorem fld_36_1 : FieldAt Try.prog 36 1 2 := fieldAt_mk Try.runUnderlying36 rfl rfl Try.sizeOf27
theorem one_27 : IsOne Try.prog 27 := ⟨Try.isAgg27, Try.sizeOf27⟩
theorem fld_36_2 : FieldAt Try.prog 36 2 3 := fieldAt_mk Try.runUnderlying36 rfl rfl Try.sizeOf27
theorem agg_34 : IsAgg Try.prog 34 2 := ⟨Try.isAgg34, Try.sizeOf34⟩
theorem agg_36 : IsAgg Try.prog 36 6 := ⟨Try.isAgg36, Try.sizeOf36⟩
theorem fld_36_3 : FieldAt Try.prog 36 3 4 := fieldAt_mk Try.runUnderlying36 rfl rfl Try.sizeOf3
theorem stu_34 : StructAt Try.prog 34 (.agg #[.int .i64 0, .int .i64 0]) [(0, 1), (1, 1)] := ⟨Try.zeroValue34, _, Try.runUnderlying34, fun w => by simp [Try.sizeOf3]⟩
theorem eqt_34 : EqAt Try.prog 34 encApiSpan := by
  rintro ⟨a0, a1⟩ ⟨b0, b1⟩ w
  simp [encApiSpan, zcell, go_sem, Op.eqFields, Program.fieldsOf] <;> (repeat' split) <;> simp_all
theorem stu_36 : StructAt Try.prog 36 (.agg #[.int .i64 0, .int .i64 0, .slice none 0 0, .slice none 0 0, .int .i64 0, .int .i64 0]) [(0, 2), (2, 1), (3, 1), (4, 1), (5, 1)] := ⟨Try.zeroValue36, _, Try.runUnderlying36, fun w => by simp [Try.sizeOf27, Try.sizeOf3, Try.sizeOf34]⟩
theorem stu_25 : StructAt Try.prog 25 (.agg #[.slice none 0 0, .int .i64 0, .slice none 0 0]) [(0, 1), (1, 1), (2, 1)] := ⟨Try.zeroValue25, _, Try.runUnderlying25, fun w => by simp [Try.sizeOf22, Try.sizeOf23, Try.sizeOf3]⟩
theorem stu_45 : StructAt Try.prog 45 (.agg #[.int .i64 0, .int .i64 0, .int .i64 0]) [(0, 1), (1, 1), (2, 1)] := ⟨Try.zeroValue45, _, Try.runUnderlying45, fun w => by simp [Try.sizeOf3]⟩
theorem fld_124_0 : FieldAt Try.prog 124 0 0 := fieldAt_mk Try.runUnderlying124 rfl rfl Try.sizeOf3
theorem stu_124 : StructAt Try.prog 124 (.agg #[.int .i64 0, .int .i64 0, .int .i64 0, .int .i64 0, .int .i64 0, .int .i64 0, .int .i64 0, .int .i64 0, .int .i64 0, .int .i64 0]) [(0, 1), (1, 3), (4, 6)] := ⟨Try.zeroValue124, _, Try.runUnderlying124, fun w => by simp [Try.sizeOf121, Try.sizeOf122, Try.sizeOf3]⟩
theorem fld_124_1 : FieldAt Try.prog 124 1 1 := fieldAt_mk Try.runUnderlying124 rfl rfl Try.sizeOf121
theorem arr_121 : ArrOf Try.prog 121 3 3 1 := ⟨Try.runUnderlying121, Try.sizeOf3⟩
theorem agg_124 : IsAgg Try.prog 124 10 := ⟨Try.isAgg124, Try.sizeOf124⟩
theorem fld_124_2 : FieldAt Try.prog 124 2 4 := fieldAt_mk Try.runUnderlying124 rfl rfl Try.sizeOf122
theorem agg_122 : IsAgg Try.prog 122 6 := ⟨Try.isAgg122, Try.sizeOf122⟩
theorem arr_122 : ArrOf Try.prog 122 6 3 1 := ⟨Try.runUnderlying122, Try.sizeOf3⟩
theorem stu_158 : StructAt Try.prog 158 (.agg #[.slice none 0 0, .int .i64 0, .slice none 0 0, .int .i64 0, .slice none 0 0, .map none]) [(0, 3), (3, 1), (4, 1), (5, 1)] := ⟨Try.zeroValue158, _, Try.runUnderlying158, fun w => by simp [Try.sizeOf156, Try.sizeOf25, Try.sizeOf26, Try.sizeOf3]⟩
theorem stu_161 : StructAt Try.prog 161 (.agg #[.int .i64 0, .int .i64 0, .int .i64 0, .int .i64 0, .int .i64 0, .int .i64 0, .int .i64 0, .int .i64 0, .int .i64 0, .int .i64 0, .int .i64 0, .int .i64 0]) [(0, 10), (10, 1), (11, 1)] := ⟨Try.zeroValue161, _, Try.runUnderlying161, fun w => by simp [Try.sizeOf124, Try.sizeOf3]⟩
theorem fld_161_1 : FieldAt Try.prog 161 1 10 := fieldAt_mk Try.runUnderlying161 rfl rfl Try.sizeOf3
theorem fld_158_0 : FieldAt Try.prog 158 0 0 := fieldAt_mk Try.runUnderlying158 rfl rfl Try.sizeOf25
theorem fld_158_3 : FieldAt Try.prog 158 3 5 := fieldAt_mk Try.runUnderlying158 rfl rfl Try.sizeOf156
theorem one_156 : IsOne Try.prog 156 := ⟨Try.isAgg156, Try.sizeOf156⟩
theorem agg_161 : IsAgg Try.prog 161 12 := ⟨Try.isAgg161, Try.sizeOf161⟩
theorem eqa_121 (d : Nat) (xs ys : Array Value) (w : World) : (Op.equalIn (d + 1) 121 (.agg xs) (.agg ys)).run Try.prog w = (Op.eqItems d 3 1 xs ys [0, 1, 2]).run Try.prog w := run_equalIn_array w d xs ys Try.underlying121 (by kernel_rfl : Try.prog.info? 3 = some Try.t3)
theorem eqa_122 (d : Nat) (xs ys : Array Value) (w : World) : (Op.equalIn (d + 1) 122 (.agg xs) (.agg ys)).run Try.prog w = (Op.eqItems d 3 1 xs ys [0, 1, 2, 3, 4, 5]).run Try.prog w := run_equalIn_array w d xs ys Try.underlying122 (by kernel_rfl : Try.prog.info? 3 = some Try.t3)
theorem eqt_161 : EqAt Try.prog 161 encPlayState := by
  rintro ⟨⟨a1, ⟨a2, a3, a4⟩, ⟨a5, a6, a7, a8, a9, a10⟩⟩, a11, a12⟩ ⟨⟨b1, ⟨b2, b3, b4⟩, ⟨b5, b6, b7, b8, b9, b10⟩⟩, b11, b12⟩ w
  rw [show (10000 : Nat) = 9990 + 10 from rfl]
  generalize (9990 : Nat) = m
  simp [encPlayState, zcell, go_sem, Op.eqFields, Program.fieldsOf, Op.eqItems, eqa_121, eqa_122] <;> (repeat' split) <;> simp_all
theorem chk_161 (b : Bool) (a : PlayState) (w : World) : (Instr.checkKey b 10000 161 (.agg ((encPlayState a).map zcell).toArray)).run Try.prog w = .ok () w := by
  obtain ⟨⟨a1, ⟨a2, a3, a4⟩, ⟨a5, a6, a7, a8, a9, a10⟩⟩, a11, a12⟩ := a
  rw [show (10000 : Nat) = 9990 + 10 from rfl]
  generalize (9990 : Nat) = m
  simp [Instr.checkKey, encPlayState, zcell, go_sem, Program.fieldsOf, Std.Legacy.Range.forIn_eq_forIn_range', Std.Legacy.Range.size, List.range']
theorem key_161 : KeyTy Try.prog 161 (fun a : PlayState => Value.agg ((encPlayState a).map zcell).toArray) :=
  keyTy_struct Try.underlying161 eqt_161 chk_161 (fun a w => keep_agg _ rfl _ _) (by
    rintro ⟨⟨a1, ⟨a2, a3, a4⟩, ⟨a5, a6, a7, a8, a9, a10⟩⟩, a11, a12⟩ ⟨⟨b1, ⟨b2, b3, b4⟩, ⟨b5, b6, b7, b8, b9, b10⟩⟩, b11, b12⟩ h
    simp [encPlayState] at h ⊢
    simp_all) (fun _ => rfl)
theorem fld_161_0 : FieldAt Try.prog 161 0 0 := fieldAt_mk Try.runUnderlying161 rfl rfl Try.sizeOf124
theorem fld_158_1 : FieldAt Try.prog 158 1 3 := fieldAt_mk Try.runUnderlying158 rfl rfl Try.sizeOf3
theorem fld_161_2 : FieldAt Try.prog 161 2 11 := fieldAt_mk Try.runUnderlying161 rfl rfl Try.sizeOf3
theorem fld_158_2 : FieldAt Try.prog 158 2 4 := fieldAt_mk Try.runUnderlying158 rfl rfl Try.sizeOf26
theorem one_26 : IsOne Try.prog 26 := ⟨Try.isAgg26, Try.sizeOf26⟩
theorem eqt_45 : EqAt Try.prog 45 encApiSeat := by
  rintro ⟨a0, a1, a2⟩ ⟨b0, b1, b2⟩ w
  simp [encApiSeat, zcell, go_sem, Op.eqFields, Program.fieldsOf] <;> (repeat' split) <;> simp_all
theorem fld_49_0 : FieldAt Try.prog 49 0 0 := fieldAt_mk Try.runUnderlying49 rfl rfl Try.sizeOf3
theorem fld_49_1 : FieldAt Try.prog 49 1 1 := fieldAt_mk Try.runUnderlying49 rfl rfl Try.sizeOf3
theorem fld_49_2 : FieldAt Try.prog 49 2 2 := fieldAt_mk Try.runUnderlying49 rfl rfl Try.sizeOf3
theorem fld_49_3 : FieldAt Try.prog 49 3 3 := fieldAt_mk Try.runUnderlying49 rfl rfl Try.sizeOf3
theorem fld_49_4 : FieldAt Try.prog 49 4 4 := fieldAt_mk Try.runUnderlying49 rfl rfl Try.sizeOf3

theorem deucelaw08_huge_c (p_0 : ApiProgram) {r : Bool} (h : deucelaw08_huge p_0 = some r) : Fn Try.prog 13 [.agg (encApiProgram p_0)] (.d (.lit (.bool r))) := by
 unfold deucelaw08_huge at h
 refine Fn.of_tr Try.func13 rfl (rs := [.tmp 2]) Try.results13 Try.ntmps13 (Nat.le_of_ble_eq_true rfl) ?_
 refine tr_seq ?_
 refine tr_region ?_
 refine tr_op rfl (s_box (v := .agg (encApiProgram p_0)) (lt_of rfl) rfl rfl rfl) ?_
 rintro _ ⟨b1, rfl⟩
 refine tr1 rfl (s_assign (v := .d (.lit (.bool false))) (lt_of rfl) rfl rfl) ?_
 refine tr_nil ?_
 refine tr_seq ?_
 refine tr_seq ?_
 refine tr_region ?_
 refine tr1 rfl (s_field_bp (lt_of rfl) rfl fld_25_0) ?_
 refine tr1 rfl (s_load_bp (lt_of rfl) rfl (i := 0) rfl rfl one_22) ?_
 refine tr1 rfl (s_lenm (lt_of rfl) rfl sl_22.of) ?_
 refine tr1 rfl (s_cmp (lt_of rfl) rfl rfl rfl) ?_
 refine tr1 rfl (s_move (v := .d (.lit (.bool ((decide (10 < (p_0.Days.length : Int))))))) (lt_of rfl) rfl rfl) ?_
 obtain ⟨b2, h3, h⟩ := bind_some h
 refine tr_guard 5 [1] 14 b2 ?_ ?_
 ·refine bool_cases (decide (10 < (p_0.Days.length : Int))) (fun c22 => ?_) (fun c22 => ?_)
  ·have h3 := cond_tt c22 h3
   refine tr_pass rfl rfl (lt_of rfl) rfl (lt_of rfl) rfl c22 ?_
   refine tr_pass rfl rfl (lt_of rfl) rfl (lt_of rfl) rfl c22 ?_
   refine tr_pass rfl rfl (lt_of rfl) rfl (lt_of rfl) rfl c22 ?_
   refine tr_pass rfl rfl (lt_of rfl) rfl (lt_of rfl) rfl c22 ?_
   refine tr1 rfl (s_pick_t (v := .d (.lit (.bool true))) (lt_of rfl) rfl c22 rfl rfl) ?_
   have h3 := Option.some.inj h3
   subst h3
   refine tr_nil (ent_keep rfl ⟨rfl, trivial⟩ rfl)
  ·have h3 := cond_ff c22 h3
   refine tr_take1 rfl rfl (lt_of rfl) rfl c22 (s_field_bp (lt_of rfl) rfl fld_25_2) ?_
   refine tr_take1 rfl rfl (lt_of rfl) rfl c22 (s_load_bp (lt_of rfl) rfl (i := 0) rfl rfl one_23) ?_
   refine tr_take1 rfl rfl (lt_of rfl) rfl c22 (s_lenm (lt_of rfl) rfl sl_23.of) ?_
   refine tr_take1 rfl rfl (lt_of rfl) rfl c22 (s_cmp (lt_of rfl) rfl rfl rfl) ?_
   refine tr1 rfl (s_pick_f (v := .d (.lit (.bool ((decide (20 < (p_0.Jobs.length : Int))))))) (lt_of rfl) rfl c22 rfl rfl) ?_
   have h3 := Option.some.inj h3
   subst h3
   refine tr_nil (ent_keep rfl ⟨rfl, trivial⟩ rfl)
 ·refine tr_nil ?_
  refine tr_if rfl (fun c4 => ?_) (fun c4 => ?_)
  ·have h := cond_tt c4 h
   refine tr_seq ?_
   refine tr_region ?_
   refine tr1 rfl (s_assign (v := .d (.lit (.bool true))) (lt_of rfl) rfl rfl) ?_
   refine tr_nil ?_
   have h := Option.some.inj h
   subst h
   refine tr_ent (ent_free (ble_keep (l := [2]) ⟨rfl, trivial⟩)) ?_
   exact tr_ret ⟨rfl, _, .one _, rfl, rfl⟩
  ·have h := cond_ff c4 h
   refine tr_skip ?_
   refine tr_seq ?_
   refine tr_seq ?_
   refine tr_region ?_
   refine tr1 rfl (s_assign (v := .d (.lit (.int .i64 0))) (lt_of rfl) rfl rfl) ?_
   refine tr_nil ?_
   refine tr_blk ?_
   refine tr_loopk [1] (fun (s5 : Int) => [(3, .d (.lit (.int .i64 s5)))]) (fun (s5 : Int) => [.box b1 0 (encApiProgram p_0)]) (fun (k : Nat) (s5 : Int) => deucelaw08_huge_L0 p_0 k s5) (fun _ => rfl) (0) h (ent_pick [0] rfl rfl (le_upd rfl (le_keep ⟨rfl, trivial⟩))) ?_
   rintro k6 d_0_5 h
   simp only [deucelaw08_huge_L0] at h
   refine tr_seq ?_
   refine tr_seq ?_
   refine tr_region ?_
   refine tr1 rfl (s_move (v := .d (.lit (.int .i64 d_0_5))) (lt_of rfl) rfl rfl) ?_
   refine tr1 rfl (s_field_bp (lt_of rfl) rfl fld_25_0) ?_
   refine tr1 rfl (s_load_bp (lt_of rfl) rfl (i := 0) rfl rfl one_22) ?_
   refine tr1 rfl (s_lenm (lt_of rfl) rfl sl_22.of) ?_
   refine tr1 rfl (s_cmp (lt_of rfl) rfl rfl rfl) ?_
   refine tr_nil ?_
   refine tr_if rfl (fun c7 => ?_) (fun c7 => ?_)
   ·have h := cond_tt c7 h
    refine tr_skip ?_
    refine tr_seq ?_
    refine tr_blk ?_
    refine tr_seq ?_
    refine tr_region ?_
    refine tr1 rfl (s_field_bp (lt_of rfl) rfl fld_25_0) ?_
    refine tr1 rfl (s_load_bp (lt_of rfl) rfl (i := 0) rfl rfl one_22) ?_
    refine tr1 rfl (s_move (v := .d (.lit (.int .i64 d_0_5))) (lt_of rfl) rfl rfl) ?_
    obtain ⟨x8, h9, h⟩ := bind_some h
    refine tr1 rfl (s_index_sl (lt_of rfl) rfl rfl sl_22.of (idx_map encSl_ApiSpan h9)) ?_
    refine tr1 rfl (s_load_cp (lt_of rfl) rfl one_37) ?_
    refine tr1 rfl (s_lenm (lt_of rfl) rfl sl_37.of) ?_
    refine tr1 rfl (s_cmp (lt_of rfl) rfl rfl rfl) ?_
    refine tr_nil ?_
    refine tr_if rfl (fun c10 => ?_) (fun c10 => ?_)
    ·have h := cond_tt c10 h
     refine tr_seq ?_
     refine tr_region ?_
     refine tr1 rfl (s_assign (v := .d (.lit (.bool true))) (lt_of rfl) rfl rfl) ?_
     refine tr_nil ?_
     have h := Option.some.inj h
     subst h
     refine tr_ent (ent_free (ble_keep (l := [2]) ⟨rfl, trivial⟩)) ?_
     exact tr_ret ⟨rfl, _, .one _, rfl, rfl⟩
    ·have h := cond_ff c10 h
     refine tr_skipb ?_
     refine tr_region ?_
     refine tr1 rfl (s_move (v := .d (.lit (.int .i64 d_0_5))) (lt_of rfl) rfl rfl) ?_
     refine tr1 rfl (s_arith (lt_of rfl) rfl rfl rfl) ?_
     refine tr1 rfl (s_assign (v := .d (.lit (.int .i64 ((w64 (d_0_5 + 1)))))) (lt_of rfl) rfl rfl) ?_
     refine tr_nil ?_
     exact ⟨(w64 (d_0_5 + 1)), h, ent_pick [0] rfl rfl (le_upd rfl (le_keep ⟨rfl, trivial⟩))⟩
   ·have h := cond_ff c7 h
    refine tr_exit ?_
    refine .inl ⟨rfl, ?_⟩
    simp only [deucelaw08_huge_K0] at h
    refine tr_seq ?_
    refine tr_seq ?_
    refine tr_region ?_
    refine tr1 rfl (s_assign (v := .d (.lit (.int .i64 0))) (lt_of rfl) rfl rfl) ?_
    refine tr_nil ?_
    refine tr_blk ?_
    refine tr_loopk [1] (fun (s11 : Int) => [(4, .d (.lit (.int .i64 s11)))]) (fun (s11 : Int) => [.box b1 0 (encApiProgram p_0)]) (fun (k : Nat) (s11 : Int) => deucelaw08_huge_L2 p_0 k s11) (fun _ => rfl) (0) h (ent_pick [0] rfl rfl (le_upd rfl (le_keep ⟨rfl, trivial⟩))) ?_
    rintro k12 i_2_11 h
    simp only [deucelaw08_huge_L2] at h
    refine tr_seq ?_
    refine tr_seq ?_
    refine tr_region ?_
    refine tr1 rfl (s_move (v := .d (.lit (.int .i64 i_2_11))) (lt_of rfl) rfl rfl) ?_
    refine tr1 rfl (s_field_bp (lt_of rfl) rfl fld_25_2) ?_
    refine tr1 rfl (s_load_bp (lt_of rfl) rfl (i := 0) rfl rfl one_23) ?_
    refine tr1 rfl (s_lenm (lt_of rfl) rfl sl_23.of) ?_
    refine tr1 rfl (s_cmp (lt_of rfl) rfl rfl rfl) ?_
    refine tr_nil ?_
    refine tr_if rfl (fun c13 => ?_) (fun c13 => ?_)
    ·have h := cond_tt c13 h
     refine tr_skip ?_
     refine tr_seq ?_
     refine tr_blk ?_
     refine tr_seq ?_
     refine tr_region ?_
     refine tr1 rfl (s_field_bp (lt_of rfl) rfl fld_25_2) ?_
     refine tr1 rfl (s_load_bp (lt_of rfl) rfl (i := 0) rfl rfl one_23) ?_
     refine tr1 rfl (s_move (v := .d (.lit (.int .i64 i_2_11))) (lt_of rfl) rfl rfl) ?_
     obtain ⟨x14, h15, h⟩ := bind_some h
     refine tr1 rfl (s_index_sl (lt_of rfl) rfl rfl sl_23.of (idx_map encApiJob h15)) ?_
     refine tr1 rfl (s_field_cp (lt_of rfl) rfl fld_36_1 (es := [.sl 1 (x14.After.map encI)]) rfl) ?_
     refine tr1 rfl (s_load_cp (lt_of rfl) rfl one_27) ?_
     refine tr1 rfl (s_lenm (lt_of rfl) rfl sl_27.of) ?_
     refine tr1 rfl (s_cmp (lt_of rfl) rfl rfl rfl) ?_
     refine tr1 rfl (s_move (v := .d (.lit (.bool ((decide (20 < (x14.After.length : Int))))))) (lt_of rfl) rfl rfl) ?_
     obtain ⟨b16, h17, h⟩ := bind_some h
     refine tr_guard 9 [1, 4] 53 b16 ?_ ?_
     ·refine bool_cases (decide (20 < (x14.After.length : Int))) (fun c19 => ?_) (fun c19 => ?_)
      ·have h17 := cond_tt c19 h17
       refine tr_pass rfl rfl (lt_of rfl) rfl (lt_of rfl) rfl c19 ?_
       refine tr_pass rfl rfl (lt_of rfl) rfl (lt_of rfl) rfl c19 ?_
       refine tr_pass rfl rfl (lt_of rfl) rfl (lt_of rfl) rfl c19 ?_
       refine tr_pass rfl rfl (lt_of rfl) rfl (lt_of rfl) rfl c19 ?_
       refine tr_pass rfl rfl (lt_of rfl) rfl (lt_of rfl) rfl c19 ?_
       refine tr_pass rfl rfl (lt_of rfl) rfl (lt_of rfl) rfl c19 ?_
       refine tr_pass rfl rfl (lt_of rfl) rfl (lt_of rfl) rfl c19 ?_
       refine tr_pass rfl rfl (lt_of rfl) rfl (lt_of rfl) rfl c19 ?_
       refine tr1 rfl (s_pick_t (v := .d (.lit (.bool true))) (lt_of rfl) rfl c19 rfl rfl) ?_
       have h17 := Option.some.inj h17
       subst h17
       refine tr_nil (ent_keep rfl ⟨rfl, rfl, trivial⟩ rfl)
      ·have h17 := cond_ff c19 h17
       refine tr_take1 rfl rfl (lt_of rfl) rfl c19 (s_field_bp (lt_of rfl) rfl fld_25_2) ?_
       refine tr_take1 rfl rfl (lt_of rfl) rfl c19 (s_load_bp (lt_of rfl) rfl (i := 0) rfl rfl one_23) ?_
       refine tr_take1 rfl rfl (lt_of rfl) rfl c19 (s_move (v := .d (.lit (.int .i64 i_2_11))) (lt_of rfl) rfl rfl) ?_
       obtain ⟨x20, h21, h17⟩ := bind_some h17
       refine tr_take1 rfl rfl (lt_of rfl) rfl c19 (s_index_sl (lt_of rfl) rfl rfl sl_23.of (idx_map encApiJob h21)) ?_
       refine tr_take1 rfl rfl (lt_of rfl) rfl c19 (s_field_cp (lt_of rfl) rfl fld_36_2 (es := [.sl 1 (x20.With.map encI)]) rfl) ?_
       refine tr_take1 rfl rfl (lt_of rfl) rfl c19 (s_load_cp (lt_of rfl) rfl one_27) ?_
       refine tr_take1 rfl rfl (lt_of rfl) rfl c19 (s_lenm (lt_of rfl) rfl sl_27.of) ?_
       refine tr_take1 rfl rfl (lt_of rfl) rfl c19 (s_cmp (lt_of rfl) rfl rfl rfl) ?_
       refine tr1 rfl (s_pick_f (v := .d (.lit (.bool ((decide (20 < (x20.With.length : Int))))))) (lt_of rfl) rfl c19 rfl rfl) ?_
       have h17 := Option.some.inj h17
       subst h17
       refine tr_nil (ent_keep rfl ⟨rfl, rfl, trivial⟩ rfl)
     ·refine tr_nil ?_
      refine tr_if rfl (fun c18 => ?_) (fun c18 => ?_)
      ·have h := cond_tt c18 h
       refine tr_seq ?_
       refine tr_region ?_
       refine tr1 rfl (s_assign (v := .d (.lit (.bool true))) (lt_of rfl) rfl rfl) ?_
       refine tr_nil ?_
       have h := Option.some.inj h
       subst h
       refine tr_ent (ent_free (ble_keep (l := [2]) ⟨rfl, trivial⟩)) ?_
       exact tr_ret ⟨rfl, _, .one _, rfl, rfl⟩
      ·have h := cond_ff c18 h
       refine tr_skipb ?_
       refine tr_region ?_
       refine tr1 rfl (s_move (v := .d (.lit (.int .i64 i_2_11))) (lt_of rfl) rfl rfl) ?_
       refine tr1 rfl (s_arith (lt_of rfl) rfl rfl rfl) ?_
       refine tr1 rfl (s_assign (v := .d (.lit (.int .i64 ((w64 (i_2_11 + 1)))))) (lt_of rfl) rfl rfl) ?_
       refine tr_nil ?_
       exact ⟨(w64 (i_2_11 + 1)), h, ent_pick [0] rfl rfl (le_upd rfl (le_keep ⟨rfl, trivial⟩))⟩
    ·have h := cond_ff c13 h
     refine tr_exit ?_
     refine .inl ⟨rfl, ?_⟩
     simp only [deucelaw08_huge_K2] at h
     refine tr_seq ?_
     refine tr_region ?_
     refine tr1 rfl (s_assign (v := .d (.lit (.bool false))) (lt_of rfl) rfl rfl) ?_
     refine tr_nil ?_
     have h := Option.some.inj h
     subst h
     refine tr_ent (ent_free (ble_keep (l := [2]) ⟨rfl, trivial⟩)) ?_
     exact tr_ret ⟨rfl, _, .one _, rfl, rfl⟩

theorem deuceref08_within_c (n_0 : Int) (low_1 : Int) (high_2 : Int) {r : Bool} (h : deuceref08_within n_0 low_1 high_2 = some r) : Fn Try.prog 46 [.d (.lit (.int .i64 n_0)), .d (.lit (.int .i64 low_1)), .d (.lit (.int .i64 high_2))] (.d (.lit (.bool r))) := by
 unfold deuceref08_within at h
 refine Fn.of_tr Try.func46 rfl (rs := [.tmp 6]) Try.results46 Try.ntmps46 (Nat.le_of_ble_eq_true rfl) ?_
 refine tr_seq ?_
 refine tr_region ?_
 refine tr1 rfl (s_assign (v := .d (.lit (.bool false))) (lt_of rfl) rfl rfl) ?_
 refine tr_nil ?_
 refine tr_seq ?_
 refine tr_region ?_
 refine tr1 rfl (s_move (v := .d (.lit (.int .i64 n_0))) (lt_of rfl) rfl rfl) ?_
 refine tr1 rfl (s_move (v := .d (.lit (.int .i64 low_1))) (lt_of rfl) rfl rfl) ?_
 refine tr1 rfl (s_cmp (lt_of rfl) rfl rfl rfl) ?_
 refine tr1 rfl (s_move (v := .d (.lit (.bool ((decide (low_1 ≤ n_0)))))) (lt_of rfl) rfl rfl) ?_
 obtain ⟨b1, h2, h⟩ := bind_some h
 refine tr_guard 4 [] 14 b1 ?_ ?_
 ·refine bool_cases (decide (low_1 ≤ n_0)) (fun c3 => ?_) (fun c3 => ?_)
  ·have h2 := cond_tt c3 h2
   refine tr_take1 rfl rfl (lt_of rfl) rfl c3 (s_move (v := .d (.lit (.int .i64 n_0))) (lt_of rfl) rfl rfl) ?_
   refine tr_take1 rfl rfl (lt_of rfl) rfl c3 (s_move (v := .d (.lit (.int .i64 high_2))) (lt_of rfl) rfl rfl) ?_
   refine tr_take1 rfl rfl (lt_of rfl) rfl c3 (s_cmp (lt_of rfl) rfl rfl rfl) ?_
   refine tr1 rfl (s_pick_t (v := .d (.lit (.bool ((decide (n_0 ≤ high_2)))))) (lt_of rfl) rfl c3 rfl rfl) ?_
   have h2 := Option.some.inj h2
   subst h2
   refine tr_nil (ent_keep rfl trivial rfl)
  ·have h2 := cond_ff c3 h2
   refine tr_pass rfl rfl (lt_of rfl) rfl (lt_of rfl) rfl c3 ?_
   refine tr_pass rfl rfl (lt_of rfl) rfl (lt_of rfl) rfl c3 ?_
   refine tr_pass rfl rfl (lt_of rfl) rfl (lt_of rfl) rfl c3 ?_
   refine tr1 rfl (s_pick_f (v := .d (.lit (.bool false))) (lt_of rfl) rfl c3 rfl rfl) ?_
   have h2 := Option.some.inj h2
   subst h2
   refine tr_nil (ent_keep rfl trivial rfl)
 ·refine tr1 rfl (s_assign (v := .d (.lit (.bool b1))) (lt_of rfl) rfl rfl) ?_
  refine tr_nil ?_
  have h := Option.some.inj h
  subst h
  exact tr_ret ⟨rfl, _, .one _, rfl, rfl⟩

theorem deuceref08_isLength_c (s_0 : ApiSpan) {r : Bool} (h : deuceref08_isLength s_0 = some r) : Fn Try.prog 79 [.agg (encApiSpan s_0)] (.d (.lit (.bool r))) := by
 unfold deuceref08_isLength at h
 refine Fn.of_tr Try.func79 rfl (rs := [.tmp 2]) Try.results79 Try.ntmps79 (Nat.le_of_ble_eq_true rfl) ?_
 refine tr_seq ?_
 refine tr_region ?_
 refine tr_op rfl (s_box (v := .agg (encApiSpan s_0)) (lt_of rfl) rfl rfl rfl) ?_
 rintro _ ⟨b1, rfl⟩
 refine tr1 rfl (s_assign (v := .d (.lit (.bool false))) (lt_of rfl) rfl rfl) ?_
 refine tr_nil ?_
 refine tr_seq ?_
 refine tr_region ?_
 refine tr1 rfl (s_field_bp (lt_of rfl) rfl fld_34_0) ?_
 refine tr1 rfl (s_load_bp (lt_of rfl) rfl (i := 0) rfl rfl one_3) ?_
 refine tr1 rfl (s_cmp (lt_of rfl) rfl rfl rfl) ?_
 refine tr1 rfl (s_move (v := .d (.lit (.bool ((decide (1 ≤ s_0.Low)))))) (lt_of rfl) rfl rfl) ?_
 obtain ⟨b2, h3, h⟩ := bind_some h
 refine tr_guard 6 [1] 12 b2 ?_ ?_
 ·refine bool_cases (decide (1 ≤ s_0.Low)) (fun c7 => ?_) (fun c7 => ?_)
  ·have h3 := cond_tt c7 h3
   refine tr_take1 rfl rfl (lt_of rfl) rfl c7 (s_field_bp (lt_of rfl) rfl fld_34_0) ?_
   refine tr_take1 rfl rfl (lt_of rfl) rfl c7 (s_load_bp (lt_of rfl) rfl (i := 0) rfl rfl one_3) ?_
   refine tr_take1 rfl rfl (lt_of rfl) rfl c7 (s_field_bp (lt_of rfl) rfl fld_34_1) ?_
   refine tr_take1 rfl rfl (lt_of rfl) rfl c7 (s_load_bp (lt_of rfl) rfl (i := 0) rfl rfl one_3) ?_
   refine tr_take1 rfl rfl (lt_of rfl) rfl c7 (s_cmp (lt_of rfl) rfl rfl rfl) ?_
   refine tr1 rfl (s_pick_t (v := .d (.lit (.bool ((decide (s_0.Low ≤ s_0.High)))))) (lt_of rfl) rfl c7 rfl rfl) ?_
   have h3 := Option.some.inj h3
   subst h3
   refine tr_nil (ent_keep rfl ⟨rfl, trivial⟩ rfl)
  ·have h3 := cond_ff c7 h3
   refine tr_pass rfl rfl (lt_of rfl) rfl (lt_of rfl) rfl c7 ?_
   refine tr_pass rfl rfl (lt_of rfl) rfl (lt_of rfl) rfl c7 ?_
   refine tr_pass rfl rfl (lt_of rfl) rfl (lt_of rfl) rfl c7 ?_
   refine tr_pass rfl rfl (lt_of rfl) rfl (lt_of rfl) rfl c7 ?_
   refine tr_pass rfl rfl (lt_of rfl) rfl (lt_of rfl) rfl c7 ?_
   refine tr1 rfl (s_pick_f (v := .d (.lit (.bool false))) (lt_of rfl) rfl c7 rfl rfl) ?_
   have h3 := Option.some.inj h3
   subst h3
   refine tr_nil (ent_keep rfl ⟨rfl, trivial⟩ rfl)
 ·refine tr1 rfl (s_move (v := .d (.lit (.bool b2))) (lt_of rfl) rfl rfl) ?_
  obtain ⟨b4, h5, h⟩ := bind_some h
  refine tr_guard 4 [] 17 b4 ?_ ?_
  ·refine bool_cases (b2) (fun c6 => ?_) (fun c6 => ?_)
   ·have h5 := cond_tt c6 h5
    refine tr_take1 rfl rfl (lt_of rfl) rfl c6 (s_field_bp (lt_of rfl) rfl fld_34_1) ?_
    refine tr_take1 rfl rfl (lt_of rfl) rfl c6 (s_load_bp (lt_of rfl) rfl (i := 0) rfl rfl one_3) ?_
    refine tr_take1 rfl rfl (lt_of rfl) rfl c6 (s_cmp (lt_of rfl) rfl rfl rfl) ?_
    refine tr1 rfl (s_pick_t (v := .d (.lit (.bool ((decide (s_0.High ≤ 600)))))) (lt_of rfl) rfl c6 rfl rfl) ?_
    have h5 := Option.some.inj h5
    subst h5
    refine tr_nil (ent_keep rfl trivial rfl)
   ·have h5 := cond_ff c6 h5
    refine tr_pass rfl rfl (lt_of rfl) rfl (lt_of rfl) rfl c6 ?_
    refine tr_pass rfl rfl (lt_of rfl) rfl (lt_of rfl) rfl c6 ?_
    refine tr_pass rfl rfl (lt_of rfl) rfl (lt_of rfl) rfl c6 ?_
    refine tr1 rfl (s_pick_f (v := .d (.lit (.bool false))) (lt_of rfl) rfl c6 rfl rfl) ?_
    have h5 := Option.some.inj h5
    subst h5
    refine tr_nil (ent_keep rfl trivial rfl)
  ·refine tr1 rfl (s_assign (v := .d (.lit (.bool b4))) (lt_of rfl) rfl rfl) ?_
   refine tr_nil ?_
   have h := Option.some.inj h
   subst h
   refine tr_ent (ent_free (ble_keep (l := [2]) ⟨rfl, trivial⟩)) ?_
   exact tr_ret ⟨rfl, _, .one _, rfl, rfl⟩

theorem deuceref08_isJob_c (j_0 : ApiJob) (number_1 : Int) (many_2 : Int) {r : Bool} (h : deuceref08_isJob j_0 number_1 many_2 = some r) : Fn Try.prog 47 [.agg (encApiJob j_0), .d (.lit (.int .i64 number_1)), .d (.lit (.int .i64 many_2))] (.d (.lit (.bool r))) := by
 unfold deuceref08_isJob at h
 refine Fn.of_tr Try.func47 rfl (rs := [.tmp 6]) Try.results47 Try.ntmps47 (Nat.le_of_ble_eq_true rfl) ?_
 refine tr_seq ?_
 refine tr_region ?_
 refine tr_op rfl (s_box (v := .agg (encApiJob j_0)) (lt_of rfl) rfl rfl rfl) ?_
 rintro _ ⟨b1, rfl⟩
 refine tr1 rfl (s_assign (v := .d (.lit (.bool false))) (lt_of rfl) rfl rfl) ?_
 refine tr_nil ?_
 refine tr_seq ?_
 refine tr_seq ?_
 refine tr_region ?_
 refine tr1 rfl (s_field_bp (lt_of rfl) rfl fld_36_0) ?_
 refine tr1 rfl (s_loada_bp (lt_of rfl) rfl (i := 0) rfl agg_34 (es := (encApiSpan j_0.Length)) rfl rfl) ?_
 obtain ⟨r2, h3, h⟩ := bind_some h
 refine tr1 rfl (s_call (lt_of rfl) (.func _ _ Try.call79) rfl rfl (BVs.refl _ _) (deuceref08_isLength_c _ h3) rfl) ?_
 refine tr1 rfl (s_not (lt_of rfl) rfl) ?_
 refine tr1 rfl (s_move (v := .d (.lit (.bool (!r2)))) (lt_of rfl) rfl rfl) ?_
 obtain ⟨b4, h5, h⟩ := bind_some h
 refine tr_guard 5 [1, 2, 3] 18 b4 ?_ ?_
 ·refine bool_cases (!r2) (fun c53 => ?_) (fun c53 => ?_)
  ·have h5 := cond_tt c53 h5
   refine tr_pass rfl rfl (lt_of rfl) rfl (lt_of rfl) rfl c53 ?_
   refine tr_pass rfl rfl (lt_of rfl) rfl (lt_of rfl) rfl c53 ?_
   refine tr_pass rfl rfl (lt_of rfl) rfl (lt_of rfl) rfl c53 ?_
   refine tr_pass rfl rfl (lt_of rfl) rfl (lt_of rfl) rfl c53 ?_
   refine tr1 rfl (s_pick_t (v := .d (.lit (.bool true))) (lt_of rfl) rfl c53 rfl rfl) ?_
   have h5 := Option.some.inj h5
   subst h5
   refine tr_nil (ent_keep rfl ⟨rfl, rfl, rfl, trivial⟩ rfl)
  ·have h5 := cond_ff c53 h5
   refine tr_take1 rfl rfl (lt_of rfl) rfl c53 (s_field_bp (lt_of rfl) rfl fld_36_3) ?_
   refine tr_take1 rfl rfl (lt_of rfl) rfl c53 (s_load_bp (lt_of rfl) rfl (i := 0) rfl rfl one_3) ?_
   obtain ⟨r54, h55, h5⟩ := bind_some h5
   refine tr_take1 rfl rfl (lt_of rfl) rfl c53 (s_call (lt_of rfl) (.func _ _ Try.call46) rfl rfl (BVs.refl _ _) (deuceref08_within_c _ _ _ h55) rfl) ?_
   refine tr_take1 rfl rfl (lt_of rfl) rfl c53 (s_not (lt_of rfl) rfl) ?_
   refine tr1 rfl (s_pick_f (v := .d (.lit (.bool (!r54)))) (lt_of rfl) rfl c53 rfl rfl) ?_
   have h5 := Option.some.inj h5
   subst h5
   refine tr_nil (ent_keep rfl ⟨rfl, rfl, rfl, trivial⟩ rfl)
 ·refine tr1 rfl (s_move (v := .d (.lit (.bool b4))) (lt_of rfl) rfl rfl) ?_
  obtain ⟨b6, h7, h⟩ := bind_some h
  refine tr_guard 5 [1, 2, 3] 24 b6 ?_ ?_
  ·refine bool_cases (b4) (fun c50 => ?_) (fun c50 => ?_)
   ·have h7 := cond_tt c50 h7
    refine tr_pass rfl rfl (lt_of rfl) rfl (lt_of rfl) rfl c50 ?_
    refine tr_pass rfl rfl (lt_of rfl) rfl (lt_of rfl) rfl c50 ?_
    refine tr_pass rfl rfl (lt_of rfl) rfl (lt_of rfl) rfl c50 ?_
    refine tr_pass rfl rfl (lt_of rfl) rfl (lt_of rfl) rfl c50 ?_
    refine tr1 rfl (s_pick_t (v := .d (.lit (.bool true))) (lt_of rfl) rfl c50 rfl rfl) ?_
    have h7 := Option.some.inj h7
    subst h7
    refine tr_nil (ent_keep rfl ⟨rfl, rfl, rfl, trivial⟩ rfl)
   ·have h7 := cond_ff c50 h7
    refine tr_take1 rfl rfl (lt_of rfl) rfl c50 (s_field_bp (lt_of rfl) rfl fld_36_4) ?_
    refine tr_take1 rfl rfl (lt_of rfl) rfl c50 (s_load_bp (lt_of rfl) rfl (i := 0) rfl rfl one_3) ?_
    obtain ⟨r51, h52, h7⟩ := bind_some h7
    refine tr_take1 rfl rfl (lt_of rfl) rfl c50 (s_call (lt_of rfl) (.func _ _ Try.call46) rfl rfl (BVs.refl _ _) (deuceref08_within_c _ _ _ h52) rfl) ?_
    refine tr_take1 rfl rfl (lt_of rfl) rfl c50 (s_not (lt_of rfl) rfl) ?_
    refine tr1 rfl (s_pick_f (v := .d (.lit (.bool (!r51)))) (lt_of rfl) rfl c50 rfl rfl) ?_
    have h7 := Option.some.inj h7
    subst h7
    refine tr_nil (ent_keep rfl ⟨rfl, rfl, rfl, trivial⟩ rfl)
  ·refine tr_nil ?_
   refine tr_if rfl (fun c8 => ?_) (fun c8 => ?_)
   ·have h := cond_tt c8 h
    refine tr_seq ?_
    refine tr_region ?_
    refine tr1 rfl (s_assign (v := .d (.lit (.bool false))) (lt_of rfl) rfl rfl) ?_
    refine tr_nil ?_
    have h := Option.some.inj h
    subst h
    refine tr_ent (ent_free (ble_keep (l := [6]) ⟨rfl, trivial⟩)) ?_
    exact tr_ret ⟨rfl, _, .one _, rfl, rfl⟩
   ·have h := cond_ff c8 h
    refine tr_skip ?_
    refine tr_seq ?_
    refine tr_seq ?_
    refine tr_region ?_
    refine tr1 rfl (s_assign (v := .d (.lit (.int .i64 0))) (lt_of rfl) rfl rfl) ?_
    refine tr_nil ?_
    refine tr_blk ?_
    refine tr_loopk [1, 2, 3] (fun (s9 : Int) => [(7, .d (.lit (.int .i64 s9)))]) (fun (s9 : Int) => [.box b1 0 (encApiJob j_0)]) (fun (k : Nat) (s9 : Int) => deuceref08_isJob_L0 number_1 many_2 j_0 k s9) (fun _ => rfl) (0) h (ent_pick [0] rfl rfl (le_upd rfl (le_keep ⟨rfl, rfl, rfl, trivial⟩))) ?_
    rintro k10 i_0_9 h
    simp only [deuceref08_isJob_L0] at h
    refine tr_seq ?_
    refine tr_seq ?_
    refine tr_region ?_
    refine tr1 rfl (s_move (v := .d (.lit (.int .i64 i_0_9))) (lt_of rfl) rfl rfl) ?_
    refine tr1 rfl (s_field_bp (lt_of rfl) rfl fld_36_1) ?_
    refine tr1 rfl (s_load_bp (lt_of rfl) rfl (i := 0) rfl rfl one_27) ?_
    refine tr1 rfl (s_lenm (lt_of rfl) rfl sl_27.of) ?_
    refine tr1 rfl (s_cmp (lt_of rfl) rfl rfl rfl) ?_
    refine tr_nil ?_
    refine tr_if rfl (fun c11 => ?_) (fun c11 => ?_)
    ·have h := cond_tt c11 h
     refine tr_skip ?_
     refine tr_seq ?_
     refine tr_blk ?_
     refine tr_seq ?_
     obtain ⟨x12, h13, h⟩ := bind_some h
     obtain ⟨r14, h15, h⟩ := bind_some h
     obtain ⟨b16, h17, h⟩ := bind_some h
     refine tr_drawk mix 27 [1, 2, 3, 7] [(58, .d (.lit (.bool b16)))] ?_ ?_
     ·refine bool_cases (!r14) (fun c18 => ?_) (fun c18 => ?_)
      ·have h17 := cond_tt c18 h17
       have h17 := Option.some.inj h17
       subst h17
       refine ⟨[(32, 0, .bp b1 0 2), (33, 1, .d (.sl 1 (j_0.After.map encI))), (34, 2, .d (.lit (.int .i64 i_0_9))), (35, 3, .cp [.lit (.int .i64 x12)]), (36, 4, .d (.lit (.int .i64 x12))), (37, 5, .d (.lit (.int .i64 number_1))), (38, 6, .d (.lit (.int .i64 ((w64 (number_1 - 1)))))), (39, 7, .d (.lit (.bool r14))), (40, 8, .d (.lit (.bool (!r14)))), (41, 9, .d (.lit (.bool (!r14)))), (42, 10, .tup []), (43, 11, .tup []), (44, 12, .tup []), (45, 13, .tup []), (46, 14, .tup []), (47, 15, .tup []), (48, 16, .tup []), (49, 17, .tup []), (50, 18, .tup []), (51, 19, .tup []), (52, 20, .tup []), (53, 21, .tup []), (54, 22, .tup []), (55, 23, .tup []), (56, 24, .tup []), (57, 25, .tup []), (58, 26, .d (.lit (.bool true)))], ?_, ?_⟩
       · exact ⟨by kernel_rfl, by kernel_rfl, by kernel_rfl, by kernel_rfl, by kernel_rfl, [([], []), ([0], []), ([], []), ([1, 2], []), ([3], []), ([], []), ([5], []), ([4, 6], []), ([7], []), ([8], []), ([9], []), ([9, 10], []), ([9, 11], []), ([12], []), ([12, 13], []), ([12], []), ([12, 14, 15], []), ([12, 16], []), ([12], []), ([12, 18], []), ([12], []), ([12, 20], []), ([12, 19, 21], []), ([12, 22], []), ([12, 17, 23], []), ([9, 12, 24], []), ([9, 25], [])], by kernel_rfl, ⟨fun S hS => g_fin rfl (g_op rfl (s_field_bp (lt_of rfl) (ov_ev hS rfl) fld_36_1)),
      fun S hS => g_fin rfl (g_op rfl (s_load_bp (lt_of rfl) (ov_ev hS rfl) (i := 0) rfl rfl one_27)),
      fun S hS => g_fin rfl (g_op rfl (s_move (v := .d (.lit (.int .i64 i_0_9))) (lt_of rfl) (ov_ev hS rfl) rfl)),
      fun S hS => g_fin rfl (g_op rfl (s_index_sl (lt_of rfl) (ov_ev hS rfl) (ov_ev hS rfl) sl_27.of (idx_map encI h13))),
      fun S hS => g_fin rfl (g_op rfl (s_load_cp (lt_of rfl) (ov_ev hS rfl) one_3)),
      fun S hS => g_fin rfl (g_op rfl (s_move (v := .d (.lit (.int .i64 number_1))) (lt_of rfl) (ov_ev hS rfl) rfl)),
      fun S hS => g_fin rfl (g_op rfl (s_arith (lt_of rfl) (ov_ev hS rfl) rfl rfl)),
      fun S hS => g_fin rfl (g_op rfl (s_call (lt_of rfl) (.func _ _ Try.call46) (ev2 (ov_ev hS rfl) (ev2 rfl (ev2 (ov_ev hS rfl) evn))) rfl (BVs.refl _ _) (deuceref08_within_c _ _ _ h15) rfl)),
      fun S hS => g_fin rfl (g_op rfl (s_not (lt_of rfl) (ov_ev hS rfl))),
      fun S hS => g_fin rfl (g_op rfl (s_move (v := .d (.lit (.bool (!r14)))) (lt_of rfl) (ov_ev hS rfl) rfl)),
      fun S hS => g_fin rfl (g_pass rfl rfl (lt_of rfl) rfl (lt_of rfl) (ov_en hS rfl) c18),
      fun S hS => g_fin rfl (g_pass rfl rfl (lt_of rfl) rfl (lt_of rfl) (ov_en hS rfl) c18),
      fun S hS => g_fin rfl (g_pass rfl rfl (lt_of rfl) rfl (lt_of rfl) (ov_en hS rfl) c18),
      fun S hS => g_fin rfl (g_pass' rfl rfl (lt_of rfl) rfl (lt_of rfl) (ov_en hS rfl)),
      fun S hS => g_fin rfl (g_pass' rfl rfl (lt_of rfl) rfl (lt_of rfl) (ov_en hS rfl)),
      fun S hS => g_fin rfl (g_pass' rfl rfl (lt_of rfl) rfl (lt_of rfl) (ov_en hS rfl)),
      fun S hS => g_fin rfl (g_pass' rfl rfl (lt_of rfl) rfl (lt_of rfl) (ov_en hS rfl)),
      fun S hS => g_fin rfl (g_pass' rfl rfl (lt_of rfl) rfl (lt_of rfl) (ov_en hS rfl)),
      fun S hS => g_fin rfl (g_pass' rfl rfl (lt_of rfl) rfl (lt_of rfl) (ov_en hS rfl)),
      fun S hS => g_fin rfl (g_pass' rfl rfl (lt_of rfl) rfl (lt_of rfl) (ov_en hS rfl)),
      fun S hS => g_fin rfl (g_pass' rfl rfl (lt_of rfl) rfl (lt_of rfl) (ov_en hS rfl)),
      fun S hS => g_fin rfl (g_pass' rfl rfl (lt_of rfl) rfl (lt_of rfl) (ov_en hS rfl)),
      fun S hS => g_fin rfl (g_pass' rfl rfl (lt_of rfl) rfl (lt_of rfl) (ov_en hS rfl)),
      fun S hS => g_fin rfl (g_pass' rfl rfl (lt_of rfl) rfl (lt_of rfl) (ov_en hS rfl)),
      fun S hS => g_fin rfl (g_pass' rfl rfl (lt_of rfl) rfl (lt_of rfl) (ov_en hS rfl)),
      fun S hS => g_fin rfl (g_pass rfl rfl (lt_of rfl) rfl (lt_of rfl) (ov_en hS rfl) c18),
      fun S hS => g_fin rfl (g_op rfl (s_pick_t (v := .d (.lit (.bool true))) (lt_of rfl) (ov_ev hS rfl) c18 rfl rfl)), trivial⟩⟩
       · exact ent_le (le_upd rfl (le_keep ⟨rfl, rfl, rfl, rfl, trivial⟩))
      ·have h17 := cond_ff c18 h17
       obtain ⟨b19, h20, h17⟩ := bind_some h17
       refine bool_cases (decide (0 < i_0_9)) (fun c21 => ?_) (fun c21 => ?_)
       ·have h20 := cond_tt c21 h20
        obtain ⟨x22, h23, h20⟩ := bind_some h20
        obtain ⟨x24, h25, h20⟩ := bind_some h20
        have h20 := Option.some.inj h20
        subst h20
        have h17 := Option.some.inj h17
        subst h17
        refine ⟨[(32, 0, .bp b1 0 2), (33, 1, .d (.sl 1 (j_0.After.map encI))), (34, 2, .d (.lit (.int .i64 i_0_9))), (35, 3, .cp [.lit (.int .i64 x12)]), (36, 4, .d (.lit (.int .i64 x12))), (37, 5, .d (.lit (.int .i64 number_1))), (38, 6, .d (.lit (.int .i64 ((w64 (number_1 - 1)))))), (39, 7, .d (.lit (.bool r14))), (40, 8, .d (.lit (.bool (!r14)))), (41, 9, .d (.lit (.bool (!r14)))), (42, 10, .d (.lit (.int .i64 i_0_9))), (43, 11, .d (.lit (.bool ((decide (0 < i_0_9)))))), (44, 12, .d (.lit (.bool ((decide (0 < i_0_9)))))), (45, 13, .bp b1 0 2), (46, 14, .d (.sl 1 (j_0.After.map encI))), (47, 15, .d (.lit (.int .i64 i_0_9))), (48, 16, .cp [.lit (.int .i64 x22)]), (49, 17, .d (.lit (.int .i64 x22))), (50, 18, .bp b1 0 2), (51, 19, .d (.sl 1 (j_0.After.map encI))), (52, 20, .d (.lit (.int .i64 i_0_9))), (53, 21, .d (.lit (.int .i64 ((w64 (i_0_9 - 1)))))), (54, 22, .cp [.lit (.int .i64 x24)]), (55, 23, .d (.lit (.int .i64 x24))), (56, 24, .d (.lit (.bool ((decide (x22 ≤ x24)))))), (57, 25, .d (.lit (.bool ((decide (x22 ≤ x24)))))), (58, 26, .d (.lit (.bool (decide (x22 ≤ x24)))))], ?_, ?_⟩
        · exact ⟨by kernel_rfl, by kernel_rfl, by kernel_rfl, by kernel_rfl, by kernel_rfl, [([], []), ([0], []), ([], []), ([1, 2], []), ([3], []), ([], []), ([5], []), ([4, 6], []), ([7], []), ([8], []), ([9], []), ([9, 10], []), ([9, 11], []), ([12], []), ([12, 13], []), ([12], []), ([12, 14, 15], []), ([12, 16], []), ([12], []), ([12, 18], []), ([12], []), ([12, 20], []), ([12, 19, 21], []), ([12, 22], []), ([12, 17, 23], []), ([9, 12, 24], []), ([9, 25], [])], by kernel_rfl, ⟨fun S hS => g_fin rfl (g_op rfl (s_field_bp (lt_of rfl) (ov_ev hS rfl) fld_36_1)),
      fun S hS => g_fin rfl (g_op rfl (s_load_bp (lt_of rfl) (ov_ev hS rfl) (i := 0) rfl rfl one_27)),
      fun S hS => g_fin rfl (g_op rfl (s_move (v := .d (.lit (.int .i64 i_0_9))) (lt_of rfl) (ov_ev hS rfl) rfl)),
      fun S hS => g_fin rfl (g_op rfl (s_index_sl (lt_of rfl) (ov_ev hS rfl) (ov_ev hS rfl) sl_27.of (idx_map encI h13))),
      fun S hS => g_fin rfl (g_op rfl (s_load_cp (lt_of rfl) (ov_ev hS rfl) one_3)),
      fun S hS => g_fin rfl (g_op rfl (s_move (v := .d (.lit (.int .i64 number_1))) (lt_of rfl) (ov_ev hS rfl) rfl)),
      fun S hS => g_fin rfl (g_op rfl (s_arith (lt_of rfl) (ov_ev hS rfl) rfl rfl)),
      fun S hS => g_fin rfl (g_op rfl (s_call (lt_of rfl) (.func _ _ Try.call46) (ev2 (ov_ev hS rfl) (ev2 rfl (ev2 (ov_ev hS rfl) evn))) rfl (BVs.refl _ _) (deuceref08_within_c _ _ _ h15) rfl)),
      fun S hS => g_fin rfl (g_op rfl (s_not (lt_of rfl) (ov_ev hS rfl))),
      fun S hS => g_fin rfl (g_op rfl (s_move (v := .d (.lit (.bool (!r14)))) (lt_of rfl) (ov_ev hS rfl) rfl)),
      fun S hS => g_fin rfl (g_take rfl rfl (lt_of rfl) (ov_en hS rfl) c18 (s_move (v := .d (.lit (.int .i64 i_0_9))) (lt_of rfl) (ov_ev hS rfl) rfl)),
      fun S hS => g_fin rfl (g_take rfl rfl (lt_of rfl) (ov_en hS rfl) c18 (s_cmp (lt_of rfl) (ov_ev hS rfl) rfl rfl)),
      fun S hS => g_fin rfl (g_take rfl rfl (lt_of rfl) (ov_en hS rfl) c18 (s_move (v := .d (.lit (.bool ((decide (0 < i_0_9)))))) (lt_of rfl) (ov_ev hS rfl) rfl)),
      fun S hS => g_fin rfl (g_take rfl rfl (lt_of rfl) (ov_en hS rfl) c21 (s_field_bp (lt_of rfl) (ov_ev hS rfl) fld_36_1)),
      fun S hS => g_fin rfl (g_take rfl rfl (lt_of rfl) (ov_en hS rfl) c21 (s_load_bp (lt_of rfl) (ov_ev hS rfl) (i := 0) rfl rfl one_27)),
      fun S hS => g_fin rfl (g_take rfl rfl (lt_of rfl) (ov_en hS rfl) c21 (s_move (v := .d (.lit (.int .i64 i_0_9))) (lt_of rfl) (ov_ev hS rfl) rfl)),
      fun S hS => g_fin rfl (g_take rfl rfl (lt_of rfl) (ov_en hS rfl) c21 (s_index_sl (lt_of rfl) (ov_ev hS rfl) (ov_ev hS rfl) sl_27.of (idx_map encI h23))),
      fun S hS => g_fin rfl (g_take rfl rfl (lt_of rfl) (ov_en hS rfl) c21 (s_load_cp (lt_of rfl) (ov_ev hS rfl) one_3)),
      fun S hS => g_fin rfl (g_take rfl rfl (lt_of rfl) (ov_en hS rfl) c21 (s_field_bp (lt_of rfl) (ov_ev hS rfl) fld_36_1)),
      fun S hS => g_fin rfl (g_take rfl rfl (lt_of rfl) (ov_en hS rfl) c21 (s_load_bp (lt_of rfl) (ov_ev hS rfl) (i := 0) rfl rfl one_27)),
      fun S hS => g_fin rfl (g_take rfl rfl (lt_of rfl) (ov_en hS rfl) c21 (s_move (v := .d (.lit (.int .i64 i_0_9))) (lt_of rfl) (ov_ev hS rfl) rfl)),
      fun S hS => g_fin rfl (g_take rfl rfl (lt_of rfl) (ov_en hS rfl) c21 (s_arith (lt_of rfl) (ov_ev hS rfl) rfl rfl)),
      fun S hS => g_fin rfl (g_take rfl rfl (lt_of rfl) (ov_en hS rfl) c21 (s_index_sl (lt_of rfl) (ov_ev hS rfl) (ov_ev hS rfl) sl_27.of (idx_map encI h25))),
      fun S hS => g_fin rfl (g_take rfl rfl (lt_of rfl) (ov_en hS rfl) c21 (s_load_cp (lt_of rfl) (ov_ev hS rfl) one_3)),
      fun S hS => g_fin rfl (g_take rfl rfl (lt_of rfl) (ov_en hS rfl) c21 (s_cmp (lt_of rfl) (ov_ev hS rfl) (ov_ev hS rfl) rfl)),
      fun S hS => g_fin rfl (g_take rfl rfl (lt_of rfl) (ov_en hS rfl) c18 (s_pick_t (v := .d (.lit (.bool ((decide (x22 ≤ x24)))))) (lt_of rfl) (ov_ev hS rfl) c21 (ov_ev hS rfl) rfl)),
      fun S hS => g_fin rfl (g_op rfl (s_pick_f (v := .d (.lit (.bool (decide (x22 ≤ x24))))) (lt_of rfl) (ov_ev hS rfl) c18 (ov_ev hS rfl) rfl)), trivial⟩⟩
        · exact ent_le (le_upd rfl (le_keep ⟨rfl, rfl, rfl, rfl, trivial⟩))
       ·have h20 := cond_ff c21 h20
        have h20 := Option.some.inj h20
        subst h20
        have h17 := Option.some.inj h17
        subst h17
        refine ⟨[(32, 0, .bp b1 0 2), (33, 1, .d (.sl 1 (j_0.After.map encI))), (34, 2, .d (.lit (.int .i64 i_0_9))), (35, 3, .cp [.lit (.int .i64 x12)]), (36, 4, .d (.lit (.int .i64 x12))), (37, 5, .d (.lit (.int .i64 number_1))), (38, 6, .d (.lit (.int .i64 ((w64 (number_1 - 1)))))), (39, 7, .d (.lit (.bool r14))), (40, 8, .d (.lit (.bool (!r14)))), (41, 9, .d (.lit (.bool (!r14)))), (42, 10, .d (.lit (.int .i64 i_0_9))), (43, 11, .d (.lit (.bool ((decide (0 < i_0_9)))))), (44, 12, .d (.lit (.bool ((decide (0 < i_0_9)))))), (45, 13, .tup []), (46, 14, .tup []), (47, 15, .tup []), (48, 16, .tup []), (49, 17, .tup []), (50, 18, .tup []), (51, 19, .tup []), (52, 20, .tup []), (53, 21, .tup []), (54, 22, .tup []), (55, 23, .tup []), (56, 24, .tup []), (57, 25, .d (.lit (.bool false))), (58, 26, .d (.lit (.bool (false))))], ?_, ?_⟩
        · exact ⟨by kernel_rfl, by kernel_rfl, by kernel_rfl, by kernel_rfl, by kernel_rfl, [([], []), ([0], []), ([], []), ([1, 2], []), ([3], []), ([], []), ([5], []), ([4, 6], []), ([7], []), ([8], []), ([9], []), ([9, 10], []), ([9, 11], []), ([12], []), ([12, 13], []), ([12], []), ([12, 14, 15], []), ([12, 16], []), ([12], []), ([12, 18], []), ([12], []), ([12, 20], []), ([12, 19, 21], []), ([12, 22], []), ([12, 17, 23], []), ([9, 12, 24], []), ([9, 25], [])], by kernel_rfl, ⟨fun S hS => g_fin rfl (g_op rfl (s_field_bp (lt_of rfl) (ov_ev hS rfl) fld_36_1)),
      fun S hS => g_fin rfl (g_op rfl (s_load_bp (lt_of rfl) (ov_ev hS rfl) (i := 0) rfl rfl one_27)),
      fun S hS => g_fin rfl (g_op rfl (s_move (v := .d (.lit (.int .i64 i_0_9))) (lt_of rfl) (ov_ev hS rfl) rfl)),
      fun S hS => g_fin rfl (g_op rfl (s_index_sl (lt_of rfl) (ov_ev hS rfl) (ov_ev hS rfl) sl_27.of (idx_map encI h13))),
      fun S hS => g_fin rfl (g_op rfl (s_load_cp (lt_of rfl) (ov_ev hS rfl) one_3)),
      fun S hS => g_fin rfl (g_op rfl (s_move (v := .d (.lit (.int .i64 number_1))) (lt_of rfl) (ov_ev hS rfl) rfl)),
      fun S hS => g_fin rfl (g_op rfl (s_arith (lt_of rfl) (ov_ev hS rfl) rfl rfl)),
      fun S hS => g_fin rfl (g_op rfl (s_call (lt_of rfl) (.func _ _ Try.call46) (ev2 (ov_ev hS rfl) (ev2 rfl (ev2 (ov_ev hS rfl) evn))) rfl (BVs.refl _ _) (deuceref08_within_c _ _ _ h15) rfl)),
      fun S hS => g_fin rfl (g_op rfl (s_not (lt_of rfl) (ov_ev hS rfl))),
      fun S hS => g_fin rfl (g_op rfl (s_move (v := .d (.lit (.bool (!r14)))) (lt_of rfl) (ov_ev hS rfl) rfl)),
      fun S hS => g_fin rfl (g_take rfl rfl (lt_of rfl) (ov_en hS rfl) c18 (s_move (v := .d (.lit (.int .i64 i_0_9))) (lt_of rfl) (ov_ev hS rfl) rfl)),
      fun S hS => g_fin rfl (g_take rfl rfl (lt_of rfl) (ov_en hS rfl) c18 (s_cmp (lt_of rfl) (ov_ev hS rfl) rfl rfl)),
      fun S hS => g_fin rfl (g_take rfl rfl (lt_of rfl) (ov_en hS rfl) c18 (s_move (v := .d (.lit (.bool ((decide (0 < i_0_9)))))) (lt_of rfl) (ov_ev hS rfl) rfl)),
      fun S hS => g_fin rfl (g_pass rfl rfl (lt_of rfl) rfl (lt_of rfl) (ov_en hS rfl) c21),
      fun S hS => g_fin rfl (g_pass rfl rfl (lt_of rfl) rfl (lt_of rfl) (ov_en hS rfl) c21),
      fun S hS => g_fin rfl (g_pass rfl rfl (lt_of rfl) rfl (lt_of rfl) (ov_en hS rfl) c21),
      fun S hS => g_fin rfl (g_pass rfl rfl (lt_of rfl) rfl (lt_of rfl) (ov_en hS rfl) c21),
      fun S hS => g_fin rfl (g_pass rfl rfl (lt_of rfl) rfl (lt_of rfl) (ov_en hS rfl) c21),
      fun S hS => g_fin rfl (g_pass rfl rfl (lt_of rfl) rfl (lt_of rfl) (ov_en hS rfl) c21),
      fun S hS => g_fin rfl (g_pass rfl rfl (lt_of rfl) rfl (lt_of rfl) (ov_en hS rfl) c21),
      fun S hS => g_fin rfl (g_pass rfl rfl (lt_of rfl) rfl (lt_of rfl) (ov_en hS rfl) c21),
      fun S hS => g_fin rfl (g_pass rfl rfl (lt_of rfl) rfl (lt_of rfl) (ov_en hS rfl) c21),
      fun S hS => g_fin rfl (g_pass rfl rfl (lt_of rfl) rfl (lt_of rfl) (ov_en hS rfl) c21),
      fun S hS => g_fin rfl (g_pass rfl rfl (lt_of rfl) rfl (lt_of rfl) (ov_en hS rfl) c21),
      fun S hS => g_fin rfl (g_pass rfl rfl (lt_of rfl) rfl (lt_of rfl) (ov_en hS rfl) c21),
      fun S hS => g_fin rfl (g_take rfl rfl (lt_of rfl) (ov_en hS rfl) c18 (s_pick_f (v := .d (.lit (.bool false))) (lt_of rfl) (ov_ev hS rfl) c21 rfl rfl)),
      fun S hS => g_fin rfl (g_op rfl (s_pick_f (v := .d (.lit (.bool (false)))) (lt_of rfl) (ov_ev hS rfl) c18 (ov_ev hS rfl) rfl)), trivial⟩⟩
        · exact ent_le (le_upd rfl (le_keep ⟨rfl, rfl, rfl, rfl, trivial⟩))
     ·refine tr_nil ?_
      refine tr_if rfl (fun c26 => ?_) (fun c26 => ?_)
      ·have h := cond_tt c26 h
       refine tr_seq ?_
       refine tr_region ?_
       refine tr1 rfl (s_assign (v := .d (.lit (.bool false))) (lt_of rfl) rfl rfl) ?_
       refine tr_nil ?_
       have h := Option.some.inj h
       subst h
       refine tr_ent (ent_free (ble_keep (l := [6]) ⟨rfl, trivial⟩)) ?_
       exact tr_ret ⟨rfl, _, .one _, rfl, rfl⟩
      ·have h := cond_ff c26 h
       refine tr_skipb ?_
       refine tr_region ?_
       refine tr1 rfl (s_move (v := .d (.lit (.int .i64 i_0_9))) (lt_of rfl) rfl rfl) ?_
       refine tr1 rfl (s_arith (lt_of rfl) rfl rfl rfl) ?_
       refine tr1 rfl (s_assign (v := .d (.lit (.int .i64 ((w64 (i_0_9 + 1)))))) (lt_of rfl) rfl rfl) ?_
       refine tr_nil ?_
       exact ⟨(w64 (i_0_9 + 1)), h, ent_pick [0] rfl rfl (le_upd rfl (le_keep ⟨rfl, rfl, rfl, trivial⟩))⟩
    ·have h := cond_ff c11 h
     refine tr_exit ?_
     refine .inl ⟨rfl, ?_⟩
     simp only [deuceref08_isJob_K0] at h
     refine tr_seq ?_
     refine tr_seq ?_
     refine tr_region ?_
     refine tr1 rfl (s_assign (v := .d (.lit (.int .i64 0))) (lt_of rfl) rfl rfl) ?_
     refine tr_nil ?_
     refine tr_blk ?_
     refine tr_loopk [1, 2, 3] (fun (s27 : Int) => [(8, .d (.lit (.int .i64 s27)))]) (fun (s27 : Int) => [.box b1 0 (encApiJob j_0)]) (fun (k : Nat) (s27 : Int) => deuceref08_isJob_L2 number_1 many_2 j_0 k s27) (fun _ => rfl) (0) h (ent_pick [0] rfl rfl (le_upd rfl (le_keep ⟨rfl, rfl, rfl, trivial⟩))) ?_
     rintro k28 i_2_27 h
     simp only [deuceref08_isJob_L2] at h
     refine tr_seq ?_
     refine tr_seq ?_
     refine tr_region ?_
     refine tr1 rfl (s_move (v := .d (.lit (.int .i64 i_2_27))) (lt_of rfl) rfl rfl) ?_
     refine tr1 rfl (s_field_bp (lt_of rfl) rfl fld_36_2) ?_
     refine tr1 rfl (s_load_bp (lt_of rfl) rfl (i := 0) rfl rfl one_27) ?_
     refine tr1 rfl (s_lenm (lt_of rfl) rfl sl_27.of) ?_
     refine tr1 rfl (s_cmp (lt_of rfl) rfl rfl rfl) ?_
     refine tr_nil ?_
     refine tr_if rfl (fun c29 => ?_) (fun c29 => ?_)
     ·have h := cond_tt c29 h
      refine tr_skip ?_
      refine tr_seq ?_
      refine tr_blk ?_
      refine tr_seq ?_
      obtain ⟨x30, h31, h⟩ := bind_some h
      obtain ⟨r32, h33, h⟩ := bind_some h
      obtain ⟨b34, h35, h⟩ := bind_some h
      obtain ⟨b39, h40, h⟩ := bind_some h
      refine tr_drawk mix 36 [1, 2, 3, 8] [(101, .d (.lit (.bool b39)))] ?_ ?_
      ·refine bool_cases (!r32) (fun c36 => ?_) (fun c36 => ?_)
       ·have h35 := cond_tt c36 h35
        have h35 := Option.some.inj h35
        subst h35
        have c41 : true = true := rfl
        have h40 := cond_tt c41 h40
        have h40 := Option.some.inj h40
        subst h40
        refine ⟨[(66, 0, .bp b1 0 3), (67, 1, .d (.sl 1 (j_0.With.map encI))), (68, 2, .d (.lit (.int .i64 i_2_27))), (69, 3, .cp [.lit (.int .i64 x30)]), (70, 4, .d (.lit (.int .i64 x30))), (71, 5, .d (.lit (.int .i64 many_2))), (72, 6, .d (.lit (.int .i64 ((w64 (many_2 - 1)))))), (73, 7, .d (.lit (.bool r32))), (74, 8, .d (.lit (.bool (!r32)))), (75, 9, .d (.lit (.bool (!r32)))), (76, 10, .tup []), (77, 11, .tup []), (78, 12, .tup []), (79, 13, .tup []), (80, 14, .tup []), (81, 15, .tup []), (82, 16, .tup []), (83, 17, .d (.lit (.bool true))), (84, 18, .d (.lit (.bool (true)))), (85, 19, .tup []), (86, 20, .tup []), (87, 21, .tup []), (88, 22, .tup []), (89, 23, .tup []), (90, 24, .tup []), (91, 25, .tup []), (92, 26, .tup []), (93, 27, .tup []), (94, 28, .tup []), (95, 29, .tup []), (96, 30, .tup []), (97, 31, .tup []), (98, 32, .tup []), (99, 33, .tup []), (100, 34, .tup []), (101, 35, .d (.lit (.bool true)))], ?_, ?_⟩
        · exact ⟨by kernel_rfl, by kernel_rfl, by kernel_rfl, by kernel_rfl, by kernel_rfl, [([], []), ([0], []), ([], []), ([1, 2], []), ([3], []), ([], []), ([5], []), ([4, 6], []), ([7], []), ([8], []), ([9], []), ([9, 10], []), ([9], []), ([9, 11, 12], []), ([9, 13], []), ([9], []), ([9, 14, 15], []), ([9, 16], []), ([17], []), ([18], []), ([18, 19], []), ([18, 20], []), ([21], []), ([21, 22], []), ([21], []), ([21, 23, 24], []), ([21, 25], []), ([21], []), ([21, 27], []), ([21], []), ([21, 29], []), ([21, 28, 30], []), ([21, 31], []), ([21, 26, 32], []), ([18, 21, 33], []), ([18, 34], [])], by kernel_rfl, ⟨fun S hS => g_fin rfl (g_op rfl (s_field_bp (lt_of rfl) (ov_ev hS rfl) fld_36_2)),
      fun S hS => g_fin rfl (g_op rfl (s_load_bp (lt_of rfl) (ov_ev hS rfl) (i := 0) rfl rfl one_27)),
      fun S hS => g_fin rfl (g_op rfl (s_move (v := .d (.lit (.int .i64 i_2_27))) (lt_of rfl) (ov_ev hS rfl) rfl)),
      fun S hS => g_fin rfl (g_op rfl (s_index_sl (lt_of rfl) (ov_ev hS rfl) (ov_ev hS rfl) sl_27.of (idx_map encI h31))),
      fun S hS => g_fin rfl (g_op rfl (s_load_cp (lt_of rfl) (ov_ev hS rfl) one_3)),
      fun S hS => g_fin rfl (g_op rfl (s_move (v := .d (.lit (.int .i64 many_2))) (lt_of rfl) (ov_ev hS rfl) rfl)),
      fun S hS => g_fin rfl (g_op rfl (s_arith (lt_of rfl) (ov_ev hS rfl) rfl rfl)),
      fun S hS => g_fin rfl (g_op rfl (s_call (lt_of rfl) (.func _ _ Try.call46) (ev2 (ov_ev hS rfl) (ev2 rfl (ev2 (ov_ev hS rfl) evn))) rfl (BVs.refl _ _) (deuceref08_within_c _ _ _ h33) rfl)),
      fun S hS => g_fin rfl (g_op rfl (s_not (lt_of rfl) (ov_ev hS rfl))),
      fun S hS => g_fin rfl (g_op rfl (s_move (v := .d (.lit (.bool (!r32)))) (lt_of rfl) (ov_ev hS rfl) rfl)),
      fun S hS => g_fin rfl (g_pass rfl rfl (lt_of rfl) rfl (lt_of rfl) (ov_en hS rfl) c36),
      fun S hS => g_fin rfl (g_pass rfl rfl (lt_of rfl) rfl (lt_of rfl) (ov_en hS rfl) c36),
      fun S hS => g_fin rfl (g_pass rfl rfl (lt_of rfl) rfl (lt_of rfl) (ov_en hS rfl) c36),
      fun S hS => g_fin rfl (g_pass rfl rfl (lt_of rfl) rfl (lt_of rfl) (ov_en hS rfl) c36),
      fun S hS => g_fin rfl (g_pass rfl rfl (lt_of rfl) rfl (lt_of rfl) (ov_en hS rfl) c36),
      fun S hS => g_fin rfl (g_pass rfl rfl (lt_of rfl) rfl (lt_of rfl) (ov_en hS rfl) c36),
      fun S hS => g_fin rfl (g_pass rfl rfl (lt_of rfl) rfl (lt_of rfl) (ov_en hS rfl) c36),
      fun S hS => g_fin rfl (g_op rfl (s_pick_t (v := .d (.lit (.bool true))) (lt_of rfl) (ov_ev hS rfl) c36 rfl rfl)),
      fun S hS => g_fin rfl (g_op rfl (s_move (v := .d (.lit (.bool (true)))) (lt_of rfl) (ov_ev hS rfl) rfl)),
      fun S hS => g_fin rfl (g_pass rfl rfl (lt_of rfl) rfl (lt_of rfl) (ov_en hS rfl) c41),
      fun S hS => g_fin rfl (g_pass rfl rfl (lt_of rfl) rfl (lt_of rfl) (ov_en hS rfl) c41),
      fun S hS => g_fin rfl (g_pass rfl rfl (lt_of rfl) rfl (lt_of rfl) (ov_en hS rfl) c41),
      fun S hS => g_fin rfl (g_pass' rfl rfl (lt_of rfl) rfl (lt_of rfl) (ov_en hS rfl)),
      fun S hS => g_fin rfl (g_pass' rfl rfl (lt_of rfl) rfl (lt_of rfl) (ov_en hS rfl)),
      fun S hS => g_fin rfl (g_pass' rfl rfl (lt_of rfl) rfl (lt_of rfl) (ov_en hS rfl)),
      fun S hS => g_fin rfl (g_pass' rfl rfl (lt_of rfl) rfl (lt_of rfl) (ov_en hS rfl)),
      fun S hS => g_fin rfl (g_pass' rfl rfl (lt_of rfl) rfl (lt_of rfl) (ov_en hS rfl)),
      fun S hS => g_fin rfl (g_pass' rfl rfl (lt_of rfl) rfl (lt_of rfl) (ov_en hS rfl)),
      fun S hS => g_fin rfl (g_pass' rfl rfl (lt_of rfl) rfl (lt_of rfl) (ov_en hS rfl)),
      fun S hS => g_fin rfl (g_pass' rfl rfl (lt_of rfl) rfl (lt_of rfl) (ov_en hS rfl)),
      fun S hS => g_fin rfl (g_pass' rfl rfl (lt_of rfl) rfl (lt_of rfl) (ov_en hS rfl)),
      fun S hS => g_fin rfl (g_pass' rfl rfl (lt_of rfl) rfl (lt_of rfl) (ov_en hS rfl)),
      fun S hS => g_fin rfl (g_pass' rfl rfl (lt_of rfl) rfl (lt_of rfl) (ov_en hS rfl)),
      fun S hS => g_fin rfl (g_pass' rfl rfl (lt_of rfl) rfl (lt_of rfl) (ov_en hS rfl)),
      fun S hS => g_fin rfl (g_pass rfl rfl (lt_of rfl) rfl (lt_of rfl) (ov_en hS rfl) c41),
      fun S hS => g_fin rfl (g_op rfl (s_pick_t (v := .d (.lit (.bool true))) (lt_of rfl) (ov_ev hS rfl) c41 rfl rfl)), trivial⟩⟩
        · exact ent_le (le_upd rfl (le_keep ⟨rfl, rfl, rfl, rfl, trivial⟩))
       ·have h35 := cond_ff c36 h35
        obtain ⟨x37, h38, h35⟩ := bind_some h35
        have h35 := Option.some.inj h35
        subst h35
        refine bool_cases (decide (x37 = number_1)) (fun c41 => ?_) (fun c41 => ?_)
        ·have h40 := cond_tt c41 h40
         have h40 := Option.some.inj h40
         subst h40
         refine ⟨[(66, 0, .bp b1 0 3), (67, 1, .d (.sl 1 (j_0.With.map encI))), (68, 2, .d (.lit (.int .i64 i_2_27))), (69, 3, .cp [.lit (.int .i64 x30)]), (70, 4, .d (.lit (.int .i64 x30))), (71, 5, .d (.lit (.int .i64 many_2))), (72, 6, .d (.lit (.int .i64 ((w64 (many_2 - 1)))))), (73, 7, .d (.lit (.bool r32))), (74, 8, .d (.lit (.bool (!r32)))), (75, 9, .d (.lit (.bool (!r32)))), (76, 10, .bp b1 0 3), (77, 11, .d (.sl 1 (j_0.With.map encI))), (78, 12, .d (.lit (.int .i64 i_2_27))), (79, 13, .cp [.lit (.int .i64 x37)]), (80, 14, .d (.lit (.int .i64 x37))), (81, 15, .d (.lit (.int .i64 number_1))), (82, 16, .d (.lit (.bool ((decide (x37 = number_1)))))), (83, 17, .d (.lit (.bool ((decide (x37 = number_1)))))), (84, 18, .d (.lit (.bool (decide (x37 = number_1))))), (85, 19, .tup []), (86, 20, .tup []), (87, 21, .tup []), (88, 22, .tup []), (89, 23, .tup []), (90, 24, .tup []), (91, 25, .tup []), (92, 26, .tup []), (93, 27, .tup []), (94, 28, .tup []), (95, 29, .tup []), (96, 30, .tup []), (97, 31, .tup []), (98, 32, .tup []), (99, 33, .tup []), (100, 34, .tup []), (101, 35, .d (.lit (.bool true)))], ?_, ?_⟩
         · exact ⟨by kernel_rfl, by kernel_rfl, by kernel_rfl, by kernel_rfl, by kernel_rfl, [([], []), ([0], []), ([], []), ([1, 2], []), ([3], []), ([], []), ([5], []), ([4, 6], []), ([7], []), ([8], []), ([9], []), ([9, 10], []), ([9], []), ([9, 11, 12], []), ([9, 13], []), ([9], []), ([9, 14, 15], []), ([9, 16], []), ([17], []), ([18], []), ([18, 19], []), ([18, 20], []), ([21], []), ([21, 22], []), ([21], []), ([21, 23, 24], []), ([21, 25], []), ([21], []), ([21, 27], []), ([21], []), ([21, 29], []), ([21, 28, 30], []), ([21, 31], []), ([21, 26, 32], []), ([18, 21, 33], []), ([18, 34], [])], by kernel_rfl, ⟨fun S hS => g_fin rfl (g_op rfl (s_field_bp (lt_of rfl) (ov_ev hS rfl) fld_36_2)),
      fun S hS => g_fin rfl (g_op rfl (s_load_bp (lt_of rfl) (ov_ev hS rfl) (i := 0) rfl rfl one_27)),
      fun S hS => g_fin rfl (g_op rfl (s_move (v := .d (.lit (.int .i64 i_2_27))) (lt_of rfl) (ov_ev hS rfl) rfl)),
      fun S hS => g_fin rfl (g_op rfl (s_index_sl (lt_of rfl) (ov_ev hS rfl) (ov_ev hS rfl) sl_27.of (idx_map encI h31))),
      fun S hS => g_fin rfl (g_op rfl (s_load_cp (lt_of rfl) (ov_ev hS rfl) one_3)),
      fun S hS => g_fin rfl (g_op rfl (s_move (v := .d (.lit (.int .i64 many_2))) (lt_of rfl) (ov_ev hS rfl) rfl)),
      fun S hS => g_fin rfl (g_op rfl (s_arith (lt_of rfl) (ov_ev hS rfl) rfl rfl)),
      fun S hS => g_fin rfl (g_op rfl (s_call (lt_of rfl) (.func _ _ Try.call46) (ev2 (ov_ev hS rfl) (ev2 rfl (ev2 (ov_ev hS rfl) evn))) rfl (BVs.refl _ _) (deuceref08_within_c _ _ _ h33) rfl)),
      fun S hS => g_fin rfl (g_op rfl (s_not (lt_of rfl) (ov_ev hS rfl))),
      fun S hS => g_fin rfl (g_op rfl (s_move (v := .d (.lit (.bool (!r32)))) (lt_of rfl) (ov_ev hS rfl) rfl)),
      fun S hS => g_fin rfl (g_take rfl rfl (lt_of rfl) (ov_en hS rfl) c36 (s_field_bp (lt_of rfl) (ov_ev hS rfl) fld_36_2)),
      fun S hS => g_fin rfl (g_take rfl rfl (lt_of rfl) (ov_en hS rfl) c36 (s_load_bp (lt_of rfl) (ov_ev hS rfl) (i := 0) rfl rfl one_27)),
      fun S hS => g_fin rfl (g_take rfl rfl (lt_of rfl) (ov_en hS rfl) c36 (s_move (v := .d (.lit (.int .i64 i_2_27))) (lt_of rfl) (ov_ev hS rfl) rfl)),
      fun S hS => g_fin rfl (g_take rfl rfl (lt_of rfl) (ov_en hS rfl) c36 (s_index_sl (lt_of rfl) (ov_ev hS rfl) (ov_ev hS rfl) sl_27.of (idx_map encI h38))),
      fun S hS => g_fin rfl (g_take rfl rfl (lt_of rfl) (ov_en hS rfl) c36 (s_load_cp (lt_of rfl) (ov_ev hS rfl) one_3)),
      fun S hS => g_fin rfl (g_take rfl rfl (lt_of rfl) (ov_en hS rfl) c36 (s_move (v := .d (.lit (.int .i64 number_1))) (lt_of rfl) (ov_ev hS rfl) rfl)),
      fun S hS => g_fin rfl (g_take rfl rfl (lt_of rfl) (ov_en hS rfl) c36 (s_cmp (lt_of rfl) (ov_ev hS rfl) (ov_ev hS rfl) rfl)),
      fun S hS => g_fin rfl (g_op rfl (s_pick_f (v := .d (.lit (.bool ((decide (x37 = number_1)))))) (lt_of rfl) (ov_ev hS rfl) c36 (ov_ev hS rfl) rfl)),
      fun S hS => g_fin rfl (g_op rfl (s_move (v := .d (.lit (.bool (decide (x37 = number_1))))) (lt_of rfl) (ov_ev hS rfl) rfl)),
      fun S hS => g_fin rfl (g_pass rfl rfl (lt_of rfl) rfl (lt_of rfl) (ov_en hS rfl) c41),
      fun S hS => g_fin rfl (g_pass rfl rfl (lt_of rfl) rfl (lt_of rfl) (ov_en hS rfl) c41),
      fun S hS => g_fin rfl (g_pass rfl rfl (lt_of rfl) rfl (lt_of rfl) (ov_en hS rfl) c41),
      fun S hS => g_fin rfl (g_pass' rfl rfl (lt_of rfl) rfl (lt_of rfl) (ov_en hS rfl)),
      fun S hS => g_fin rfl (g_pass' rfl rfl (lt_of rfl) rfl (lt_of rfl) (ov_en hS rfl)),
      fun S hS => g_fin rfl (g_pass' rfl rfl (lt_of rfl) rfl (lt_of rfl) (ov_en hS rfl)),
      fun S hS => g_fin rfl (g_pass' rfl rfl (lt_of rfl) rfl (lt_of rfl) (ov_en hS rfl)),
      fun S hS => g_fin rfl (g_pass' rfl rfl (lt_of rfl) rfl (lt_of rfl) (ov_en hS rfl)),
      fun S hS => g_fin rfl (g_pass' rfl rfl (lt_of rfl) rfl (lt_of rfl) (ov_en hS rfl)),
      fun S hS => g_fin rfl (g_pass' rfl rfl (lt_of rfl) rfl (lt_of rfl) (ov_en hS rfl)),
      fun S hS => g_fin rfl (g_pass' rfl rfl (lt_of rfl) rfl (lt_of rfl) (ov_en hS rfl)),
      fun S hS => g_fin rfl (g_pass' rfl rfl (lt_of rfl) rfl (lt_of rfl) (ov_en hS rfl)),
      fun S hS => g_fin rfl (g_pass' rfl rfl (lt_of rfl) rfl (lt_of rfl) (ov_en hS rfl)),
      fun S hS => g_fin rfl (g_pass' rfl rfl (lt_of rfl) rfl (lt_of rfl) (ov_en hS rfl)),
      fun S hS => g_fin rfl (g_pass' rfl rfl (lt_of rfl) rfl (lt_of rfl) (ov_en hS rfl)),
      fun S hS => g_fin rfl (g_pass rfl rfl (lt_of rfl) rfl (lt_of rfl) (ov_en hS rfl) c41),
      fun S hS => g_fin rfl (g_op rfl (s_pick_t (v := .d (.lit (.bool true))) (lt_of rfl) (ov_ev hS rfl) c41 rfl rfl)), trivial⟩⟩
         · exact ent_le (le_upd rfl (le_keep ⟨rfl, rfl, rfl, rfl, trivial⟩))
        ·have h40 := cond_ff c41 h40
         obtain ⟨b42, h43, h40⟩ := bind_some h40
         refine bool_cases (decide (0 < i_2_27)) (fun c44 => ?_) (fun c44 => ?_)
         ·have h43 := cond_tt c44 h43
          obtain ⟨x45, h46, h43⟩ := bind_some h43
          obtain ⟨x47, h48, h43⟩ := bind_some h43
          have h43 := Option.some.inj h43
          subst h43
          have h40 := Option.some.inj h40
          subst h40
          refine ⟨[(66, 0, .bp b1 0 3), (67, 1, .d (.sl 1 (j_0.With.map encI))), (68, 2, .d (.lit (.int .i64 i_2_27))), (69, 3, .cp [.lit (.int .i64 x30)]), (70, 4, .d (.lit (.int .i64 x30))), (71, 5, .d (.lit (.int .i64 many_2))), (72, 6, .d (.lit (.int .i64 ((w64 (many_2 - 1)))))), (73, 7, .d (.lit (.bool r32))), (74, 8, .d (.lit (.bool (!r32)))), (75, 9, .d (.lit (.bool (!r32)))), (76, 10, .bp b1 0 3), (77, 11, .d (.sl 1 (j_0.With.map encI))), (78, 12, .d (.lit (.int .i64 i_2_27))), (79, 13, .cp [.lit (.int .i64 x37)]), (80, 14, .d (.lit (.int .i64 x37))), (81, 15, .d (.lit (.int .i64 number_1))), (82, 16, .d (.lit (.bool ((decide (x37 = number_1)))))), (83, 17, .d (.lit (.bool ((decide (x37 = number_1)))))), (84, 18, .d (.lit (.bool (decide (x37 = number_1))))), (85, 19, .d (.lit (.int .i64 i_2_27))), (86, 20, .d (.lit (.bool ((decide (0 < i_2_27)))))), (87, 21, .d (.lit (.bool ((decide (0 < i_2_27)))))), (88, 22, .bp b1 0 3), (89, 23, .d (.sl 1 (j_0.With.map encI))), (90, 24, .d (.lit (.int .i64 i_2_27))), (91, 25, .cp [.lit (.int .i64 x45)]), (92, 26, .d (.lit (.int .i64 x45))), (93, 27, .bp b1 0 3), (94, 28, .d (.sl 1 (j_0.With.map encI))), (95, 29, .d (.lit (.int .i64 i_2_27))), (96, 30, .d (.lit (.int .i64 ((w64 (i_2_27 - 1)))))), (97, 31, .cp [.lit (.int .i64 x47)]), (98, 32, .d (.lit (.int .i64 x47))), (99, 33, .d (.lit (.bool ((decide (x45 ≤ x47)))))), (100, 34, .d (.lit (.bool ((decide (x45 ≤ x47)))))), (101, 35, .d (.lit (.bool (decide (x45 ≤ x47)))))], ?_, ?_⟩
          · exact ⟨by kernel_rfl, by kernel_rfl, by kernel_rfl, by kernel_rfl, by kernel_rfl, [([], []), ([0], []), ([], []), ([1, 2], []), ([3], []), ([], []), ([5], []), ([4, 6], []), ([7], []), ([8], []), ([9], []), ([9, 10], []), ([9], []), ([9, 11, 12], []), ([9, 13], []), ([9], []), ([9, 14, 15], []), ([9, 16], []), ([17], []), ([18], []), ([18, 19], []), ([18, 20], []), ([21], []), ([21, 22], []), ([21], []), ([21, 23, 24], []), ([21, 25], []), ([21], []), ([21, 27], []), ([21], []), ([21, 29], []), ([21, 28, 30], []), ([21, 31], []), ([21, 26, 32], []), ([18, 21, 33], []), ([18, 34], [])], by kernel_rfl, ⟨fun S hS => g_fin rfl (g_op rfl (s_field_bp (lt_of rfl) (ov_ev hS rfl) fld_36_2)),
      fun S hS => g_fin rfl (g_op rfl (s_load_bp (lt_of rfl) (ov_ev hS rfl) (i := 0) rfl rfl one_27)),
      fun S hS => g_fin rfl (g_op rfl (s_move (v := .d (.lit (.int .i64 i_2_27))) (lt_of rfl) (ov_ev hS rfl) rfl)),
      fun S hS => g_fin rfl (g_op rfl (s_index_sl (lt_of rfl) (ov_ev hS rfl) (ov_ev hS rfl) sl_27.of (idx_map encI h31))),
      fun S hS => g_fin rfl (g_op rfl (s_load_cp (lt_of rfl) (ov_ev hS rfl) one_3)),
      fun S hS => g_fin rfl (g_op rfl (s_move (v := .d (.lit (.int .i64 many_2))) (lt_of rfl) (ov_ev hS rfl) rfl)),
      fun S hS => g_fin rfl (g_op rfl (s_arith (lt_of rfl) (ov_ev hS rfl) rfl rfl)),
      fun S hS => g_fin rfl (g_op rfl (s_call (lt_of rfl) (.func _ _ Try.call46) (ev2 (ov_ev hS rfl) (ev2 rfl (ev2 (ov_ev hS rfl) evn))) rfl (BVs.refl _ _) (deuceref08_within_c _ _ _ h33) rfl)),
      fun S hS => g_fin rfl (g_op rfl (s_not (lt_of rfl) (ov_ev hS rfl))),
      fun S hS => g_fin rfl (g_op rfl (s_move (v := .d (.lit (.bool (!r32)))) (lt_of rfl) (ov_ev hS rfl) rfl)),
      fun S hS => g_fin rfl (g_take rfl rfl (lt_of rfl) (ov_en hS rfl) c36 (s_field_bp (lt_of rfl) (ov_ev hS rfl) fld_36_2)),
      fun S hS => g_fin rfl (g_take rfl rfl (lt_of rfl) (ov_en hS rfl) c36 (s_load_bp (lt_of rfl) (ov_ev hS rfl) (i := 0) rfl rfl one_27)),
      fun S hS => g_fin rfl (g_take rfl rfl (lt_of rfl) (ov_en hS rfl) c36 (s_move (v := .d (.lit (.int .i64 i_2_27))) (lt_of rfl) (ov_ev hS rfl) rfl)),
      fun S hS => g_fin rfl (g_take rfl rfl (lt_of rfl) (ov_en hS rfl) c36 (s_index_sl (lt_of rfl) (ov_ev hS rfl) (ov_ev hS rfl) sl_27.of (idx_map encI h38))),
      fun S hS => g_fin rfl (g_take rfl rfl (lt_of rfl) (ov_en hS rfl) c36 (s_load_cp (lt_of rfl) (ov_ev hS rfl) one_3)),
      fun S hS => g_fin rfl (g_take rfl rfl (lt_of rfl) (ov_en hS rfl) c36 (s_move (v := .d (.lit (.int .i64 number_1))) (lt_of rfl) (ov_ev hS rfl) rfl)),
      fun S hS => g_fin rfl (g_take rfl rfl (lt_of rfl) (ov_en hS rfl) c36 (s_cmp (lt_of rfl) (ov_ev hS rfl) (ov_ev hS rfl) rfl)),
      fun S hS => g_fin rfl (g_op rfl (s_pick_f (v := .d (.lit (.bool ((decide (x37 = number_1)))))) (lt_of rfl) (ov_ev hS rfl) c36 (ov_ev hS rfl) rfl)),
      fun S hS => g_fin rfl (g_op rfl (s_move (v := .d (.lit (.bool (decide (x37 = number_1))))) (lt_of rfl) (ov_ev hS rfl) rfl)),
      fun S hS => g_fin rfl (g_take rfl rfl (lt_of rfl) (ov_en hS rfl) c41 (s_move (v := .d (.lit (.int .i64 i_2_27))) (lt_of rfl) (ov_ev hS rfl) rfl)),
      fun S hS => g_fin rfl (g_take rfl rfl (lt_of rfl) (ov_en hS rfl) c41 (s_cmp (lt_of rfl) (ov_ev hS rfl) rfl rfl)),
      fun S hS => g_fin rfl (g_take rfl rfl (lt_of rfl) (ov_en hS rfl) c41 (s_move (v := .d (.lit (.bool ((decide (0 < i_2_27)))))) (lt_of rfl) (ov_ev hS rfl) rfl)),
      fun S hS => g_fin rfl (g_take rfl rfl (lt_of rfl) (ov_en hS rfl) c44 (s_field_bp (lt_of rfl) (ov_ev hS rfl) fld_36_2)),
      fun S hS => g_fin rfl (g_take rfl rfl (lt_of rfl) (ov_en hS rfl) c44 (s_load_bp (lt_of rfl) (ov_ev hS rfl) (i := 0) rfl rfl one_27)),
      fun S hS => g_fin rfl (g_take rfl rfl (lt_of rfl) (ov_en hS rfl) c44 (s_move (v := .d (.lit (.int .i64 i_2_27))) (lt_of rfl) (ov_ev hS rfl) rfl)),
      fun S hS => g_fin rfl (g_take rfl rfl (lt_of rfl) (ov_en hS rfl) c44 (s_index_sl (lt_of rfl) (ov_ev hS rfl) (ov_ev hS rfl) sl_27.of (idx_map encI h46))),
      fun S hS => g_fin rfl (g_take rfl rfl (lt_of rfl) (ov_en hS rfl) c44 (s_load_cp (lt_of rfl) (ov_ev hS rfl) one_3)),
      fun S hS => g_fin rfl (g_take rfl rfl (lt_of rfl) (ov_en hS rfl) c44 (s_field_bp (lt_of rfl) (ov_ev hS rfl) fld_36_2)),
      fun S hS => g_fin rfl (g_take rfl rfl (lt_of rfl) (ov_en hS rfl) c44 (s_load_bp (lt_of rfl) (ov_ev hS rfl) (i := 0) rfl rfl one_27)),
      fun S hS => g_fin rfl (g_take rfl rfl (lt_of rfl) (ov_en hS rfl) c44 (s_move (v := .d (.lit (.int .i64 i_2_27))) (lt_of rfl) (ov_ev hS rfl) rfl)),
      fun S hS => g_fin rfl (g_take rfl rfl (lt_of rfl) (ov_en hS rfl) c44 (s_arith (lt_of rfl) (ov_ev hS rfl) rfl rfl)),
      fun S hS => g_fin rfl (g_take rfl rfl (lt_of rfl) (ov_en hS rfl) c44 (s_index_sl (lt_of rfl) (ov_ev hS rfl) (ov_ev hS rfl) sl_27.of (idx_map encI h48))),
      fun S hS => g_fin rfl (g_take rfl rfl (lt_of rfl) (ov_en hS rfl) c44 (s_load_cp (lt_of rfl) (ov_ev hS rfl) one_3)),
      fun S hS => g_fin rfl (g_take rfl rfl (lt_of rfl) (ov_en hS rfl) c44 (s_cmp (lt_of rfl) (ov_ev hS rfl) (ov_ev hS rfl) rfl)),
      fun S hS => g_fin rfl (g_take rfl rfl (lt_of rfl) (ov_en hS rfl) c41 (s_pick_t (v := .d (.lit (.bool ((decide (x45 ≤ x47)))))) (lt_of rfl) (ov_ev hS rfl) c44 (ov_ev hS rfl) rfl)),
      fun S hS => g_fin rfl (g_op rfl (s_pick_f (v := .d (.lit (.bool (decide (x45 ≤ x47))))) (lt_of rfl) (ov_ev hS rfl) c41 (ov_ev hS rfl) rfl)), trivial⟩⟩
          · exact ent_le (le_upd rfl (le_keep ⟨rfl, rfl, rfl, rfl, trivial⟩))
         ·have h43 := cond_ff c44 h43
          have h43 := Option.some.inj h43
          subst h43
          have h40 := Option.some.inj h40
          subst h40
          refine ⟨[(66, 0, .bp b1 0 3), (67, 1, .d (.sl 1 (j_0.With.map encI))), (68, 2, .d (.lit (.int .i64 i_2_27))), (69, 3, .cp [.lit (.int .i64 x30)]), (70, 4, .d (.lit (.int .i64 x30))), (71, 5, .d (.lit (.int .i64 many_2))), (72, 6, .d (.lit (.int .i64 ((w64 (many_2 - 1)))))), (73, 7, .d (.lit (.bool r32))), (74, 8, .d (.lit (.bool (!r32)))), (75, 9, .d (.lit (.bool (!r32)))), (76, 10, .bp b1 0 3), (77, 11, .d (.sl 1 (j_0.With.map encI))), (78, 12, .d (.lit (.int .i64 i_2_27))), (79, 13, .cp [.lit (.int .i64 x37)]), (80, 14, .d (.lit (.int .i64 x37))), (81, 15, .d (.lit (.int .i64 number_1))), (82, 16, .d (.lit (.bool ((decide (x37 = number_1)))))), (83, 17, .d (.lit (.bool ((decide (x37 = number_1)))))), (84, 18, .d (.lit (.bool (decide (x37 = number_1))))), (85, 19, .d (.lit (.int .i64 i_2_27))), (86, 20, .d (.lit (.bool ((decide (0 < i_2_27)))))), (87, 21, .d (.lit (.bool ((decide (0 < i_2_27)))))), (88, 22, .tup []), (89, 23, .tup []), (90, 24, .tup []), (91, 25, .tup []), (92, 26, .tup []), (93, 27, .tup []), (94, 28, .tup []), (95, 29, .tup []), (96, 30, .tup []), (97, 31, .tup []), (98, 32, .tup []), (99, 33, .tup []), (100, 34, .d (.lit (.bool false))), (101, 35, .d (.lit (.bool (false))))], ?_, ?_⟩
          · exact ⟨by kernel_rfl, by kernel_rfl, by kernel_rfl, by kernel_rfl, by kernel_rfl, [([], []), ([0], []), ([], []), ([1, 2], []), ([3], []), ([], []), ([5], []), ([4, 6], []), ([7], []), ([8], []), ([9], []), ([9, 10], []), ([9], []), ([9, 11, 12], []), ([9, 13], []), ([9], []), ([9, 14, 15], []), ([9, 16], []), ([17], []), ([18], []), ([18, 19], []), ([18, 20], []), ([21], []), ([21, 22], []), ([21], []), ([21, 23, 24], []), ([21, 25], []), ([21], []), ([21, 27], []), ([21], []), ([21, 29], []), ([21, 28, 30], []), ([21, 31], []), ([21, 26, 32], []), ([18, 21, 33], []), ([18, 34], [])], by kernel_rfl, ⟨fun S hS => g_fin rfl (g_op rfl (s_field_bp (lt_of rfl) (ov_ev hS rfl) fld_36_2)),
      fun S hS => g_fin rfl (g_op rfl (s_load_bp (lt_of rfl) (ov_ev hS rfl) (i := 0) rfl rfl one_27)),
      fun S hS => g_fin rfl (g_op rfl (s_move (v := .d (.lit (.int .i64 i_2_27))) (lt_of rfl) (ov_ev hS rfl) rfl)),
      fun S hS => g_fin rfl (g_op rfl (s_index_sl (lt_of rfl) (ov_ev hS rfl) (ov_ev hS rfl) sl_27.of (idx_map encI h31))),
      fun S hS => g_fin rfl (g_op rfl (s_load_cp (lt_of rfl) (ov_ev hS rfl) one_3)),
      fun S hS => g_fin rfl (g_op rfl (s_move (v := .d (.lit (.int .i64 many_2))) (lt_of rfl) (ov_ev hS rfl) rfl)),
      fun S hS => g_fin rfl (g_op rfl (s_arith (lt_of rfl) (ov_ev hS rfl) rfl rfl)),
      fun S hS => g_fin rfl (g_op rfl (s_call (lt_of rfl) (.func _ _ Try.call46) (ev2 (ov_ev hS rfl) (ev2 rfl (ev2 (ov_ev hS rfl) evn))) rfl (BVs.refl _ _) (deuceref08_within_c _ _ _ h33) rfl)),
      fun S hS => g_fin rfl (g_op rfl (s_not (lt_of rfl) (ov_ev hS rfl))),
      fun S hS => g_fin rfl (g_op rfl (s_move (v := .d (.lit (.bool (!r32)))) (lt_of rfl) (ov_ev hS rfl) rfl)),
      fun S hS => g_fin rfl (g_take rfl rfl (lt_of rfl) (ov_en hS rfl) c36 (s_field_bp (lt_of rfl) (ov_ev hS rfl) fld_36_2)),
      fun S hS => g_fin rfl (g_take rfl rfl (lt_of rfl) (ov_en hS rfl) c36 (s_load_bp (lt_of rfl) (ov_ev hS rfl) (i := 0) rfl rfl one_27)),
      fun S hS => g_fin rfl (g_take rfl rfl (lt_of rfl) (ov_en hS rfl) c36 (s_move (v := .d (.lit (.int .i64 i_2_27))) (lt_of rfl) (ov_ev hS rfl) rfl)),
      fun S hS => g_fin rfl (g_take rfl rfl (lt_of rfl) (ov_en hS rfl) c36 (s_index_sl (lt_of rfl) (ov_ev hS rfl) (ov_ev hS rfl) sl_27.of (idx_map encI h38))),
      fun S hS => g_fin rfl (g_take rfl rfl (lt_of rfl) (ov_en hS rfl) c36 (s_load_cp (lt_of rfl) (ov_ev hS rfl) one_3)),
      fun S hS => g_fin rfl (g_take rfl rfl (lt_of rfl) (ov_en hS rfl) c36 (s_move (v := .d (.lit (.int .i64 number_1))) (lt_of rfl) (ov_ev hS rfl) rfl)),
      fun S hS => g_fin rfl (g_take rfl rfl (lt_of rfl) (ov_en hS rfl) c36 (s_cmp (lt_of rfl) (ov_ev hS rfl) (ov_ev hS rfl) rfl)),
      fun S hS => g_fin rfl (g_op rfl (s_pick_f (v := .d (.lit (.bool ((decide (x37 = number_1)))))) (lt_of rfl) (ov_ev hS rfl) c36 (ov_ev hS rfl) rfl)),
      fun S hS => g_fin rfl (g_op rfl (s_move (v := .d (.lit (.bool (decide (x37 = number_1))))) (lt_of rfl) (ov_ev hS rfl) rfl)),
      fun S hS => g_fin rfl (g_take rfl rfl (lt_of rfl) (ov_en hS rfl) c41 (s_move (v := .d (.lit (.int .i64 i_2_27))) (lt_of rfl) (ov_ev hS rfl) rfl)),
      fun S hS => g_fin rfl (g_take rfl rfl (lt_of rfl) (ov_en hS rfl) c41 (s_cmp (lt_of rfl) (ov_ev hS rfl) rfl rfl)),
      fun S hS => g_fin rfl (g_take rfl rfl (lt_of rfl) (ov_en hS rfl) c41 (s_move (v := .d (.lit (.bool ((decide (0 < i_2_27)))))) (lt_of rfl) (ov_ev hS rfl) rfl)),
      fun S hS => g_fin rfl (g_pass rfl rfl (lt_of rfl) rfl (lt_of rfl) (ov_en hS rfl) c44),
      fun S hS => g_fin rfl (g_pass rfl rfl (lt_of rfl) rfl (lt_of rfl) (ov_en hS rfl) c44),
      fun S hS => g_fin rfl (g_pass rfl rfl (lt_of rfl) rfl (lt_of rfl) (ov_en hS rfl) c44),
      fun S hS => g_fin rfl (g_pass rfl rfl (lt_of rfl) rfl (lt_of rfl) (ov_en hS rfl) c44),
      fun S hS => g_fin rfl (g_pass rfl rfl (lt_of rfl) rfl (lt_of rfl) (ov_en hS rfl) c44),
      fun S hS => g_fin rfl (g_pass rfl rfl (lt_of rfl) rfl (lt_of rfl) (ov_en hS rfl) c44),
      fun S hS => g_fin rfl (g_pass rfl rfl (lt_of rfl) rfl (lt_of rfl) (ov_en hS rfl) c44),
      fun S hS => g_fin rfl (g_pass rfl rfl (lt_of rfl) rfl (lt_of rfl) (ov_en hS rfl) c44),
      fun S hS => g_fin rfl (g_pass rfl rfl (lt_of rfl) rfl (lt_of rfl) (ov_en hS rfl) c44),
      fun S hS => g_fin rfl (g_pass rfl rfl (lt_of rfl) rfl (lt_of rfl) (ov_en hS rfl) c44),
      fun S hS => g_fin rfl (g_pass rfl rfl (lt_of rfl) rfl (lt_of rfl) (ov_en hS rfl) c44),
      fun S hS => g_fin rfl (g_pass rfl rfl (lt_of rfl) rfl (lt_of rfl) (ov_en hS rfl) c44),
      fun S hS => g_fin rfl (g_take rfl rfl (lt_of rfl) (ov_en hS rfl) c41 (s_pick_f (v := .d (.lit (.bool false))) (lt_of rfl) (ov_ev hS rfl) c44 rfl rfl)),
      fun S hS => g_fin rfl (g_op rfl (s_pick_f (v := .d (.lit (.bool (false)))) (lt_of rfl) (ov_ev hS rfl) c41 (ov_ev hS rfl) rfl)), trivial⟩⟩
          · exact ent_le (le_upd rfl (le_keep ⟨rfl, rfl, rfl, rfl, trivial⟩))
      ·refine tr_nil ?_
       refine tr_if rfl (fun c49 => ?_) (fun c49 => ?_)
       ·have h := cond_tt c49 h
        refine tr_seq ?_
        refine tr_region ?_
        refine tr1 rfl (s_assign (v := .d (.lit (.bool false))) (lt_of rfl) rfl rfl) ?_
        refine tr_nil ?_
        have h := Option.some.inj h
        subst h
        refine tr_ent (ent_free (ble_keep (l := [6]) ⟨rfl, trivial⟩)) ?_
        exact tr_ret ⟨rfl, _, .one _, rfl, rfl⟩
       ·have h := cond_ff c49 h
        refine tr_skipb ?_
        refine tr_region ?_
        refine tr1 rfl (s_move (v := .d (.lit (.int .i64 i_2_27))) (lt_of rfl) rfl rfl) ?_
        refine tr1 rfl (s_arith (lt_of rfl) rfl rfl rfl) ?_
        refine tr1 rfl (s_assign (v := .d (.lit (.int .i64 ((w64 (i_2_27 + 1)))))) (lt_of rfl) rfl rfl) ?_
        refine tr_nil ?_
        exact ⟨(w64 (i_2_27 + 1)), h, ent_pick [0] rfl rfl (le_upd rfl (le_keep ⟨rfl, rfl, rfl, trivial⟩))⟩
     ·have h := cond_ff c29 h
      refine tr_exit ?_
      refine .inl ⟨rfl, ?_⟩
      simp only [deuceref08_isJob_K2] at h
      refine tr_seq ?_
      refine tr_region ?_
      refine tr1 rfl (s_assign (v := .d (.lit (.bool true))) (lt_of rfl) rfl rfl) ?_
      refine tr_nil ?_
      have h := Option.some.inj h
      subst h
      refine tr_ent (ent_free (ble_keep (l := [6]) ⟨rfl, trivial⟩)) ?_
      exact tr_ret ⟨rfl, _, .one _, rfl, rfl⟩

theorem deuceref08_Check_c (p_0 : ApiProgram) {r : Int} (h : deuceref08_Check p_0 = some r) : Fn Try.prog 14 [.agg (encApiProgram p_0)] (.d (.lit (.int .i64 r))) := by
 unfold deuceref08_Check at h
 refine Fn.of_tr Try.func14 rfl (rs := [.tmp 2]) Try.results14 Try.ntmps14 (Nat.le_of_ble_eq_true rfl) ?_
 refine tr_seq ?_
 refine tr_region ?_
 refine tr_op rfl (s_box (v := .agg (encApiProgram p_0)) (lt_of rfl) rfl rfl rfl) ?_
 rintro _ ⟨b1, rfl⟩
 refine tr1 rfl (s_assign (v := .d (.lit (.int .i64 0))) (lt_of rfl) rfl rfl) ?_
 refine tr_nil ?_
 refine tr_seq ?_
 refine tr_seq ?_
 refine tr_region ?_
 refine tr1 rfl (s_field_bp (lt_of rfl) rfl fld_25_0) ?_
 refine tr1 rfl (s_load_bp (lt_of rfl) rfl (i := 0) rfl rfl one_22) ?_
 refine tr1 rfl (s_lenm (lt_of rfl) rfl sl_22.of) ?_
 obtain ⟨r2, h3, h⟩ := bind_some h
 refine tr1 rfl (s_call (lt_of rfl) (.func _ _ Try.call46) rfl rfl (BVs.refl _ _) (deuceref08_within_c _ _ _ h3) rfl) ?_
 refine tr1 rfl (s_not (lt_of rfl) rfl) ?_
 refine tr1 rfl (s_move (v := .d (.lit (.bool (!r2)))) (lt_of rfl) rfl rfl) ?_
 obtain ⟨b4, h5, h⟩ := bind_some h
 refine tr_guard 8 [1] 20 b4 ?_ ?_
 ·refine bool_cases (!r2) (fun c48 => ?_) (fun c48 => ?_)
  ·have h5 := cond_tt c48 h5
   refine tr_pass rfl rfl (lt_of rfl) rfl (lt_of rfl) rfl c48 ?_
   refine tr_pass rfl rfl (lt_of rfl) rfl (lt_of rfl) rfl c48 ?_
   refine tr_pass rfl rfl (lt_of rfl) rfl (lt_of rfl) rfl c48 ?_
   refine tr_pass rfl rfl (lt_of rfl) rfl (lt_of rfl) rfl c48 ?_
   refine tr_pass rfl rfl (lt_of rfl) rfl (lt_of rfl) rfl c48 ?_
   refine tr_pass rfl rfl (lt_of rfl) rfl (lt_of rfl) rfl c48 ?_
   refine tr_pass rfl rfl (lt_of rfl) rfl (lt_of rfl) rfl c48 ?_
   refine tr1 rfl (s_pick_t (v := .d (.lit (.bool true))) (lt_of rfl) rfl c48 rfl rfl) ?_
   have h5 := Option.some.inj h5
   subst h5
   refine tr_nil (ent_keep rfl ⟨rfl, trivial⟩ rfl)
  ·have h5 := cond_ff c48 h5
   refine tr_take1 rfl rfl (lt_of rfl) rfl c48 (s_field_bp (lt_of rfl) rfl fld_25_0) ?_
   refine tr_take1 rfl rfl (lt_of rfl) rfl c48 (s_load_bp (lt_of rfl) rfl (i := 0) rfl rfl one_22) ?_
   obtain ⟨x49, h50, h5⟩ := bind_some h5
   refine tr_take1 rfl rfl (lt_of rfl) rfl c48 (s_index_sl (lt_of rfl) rfl rfl sl_22.of (idx_map encSl_ApiSpan h50)) ?_
   refine tr_take1 rfl rfl (lt_of rfl) rfl c48 (s_load_cp (lt_of rfl) rfl one_37) ?_
   refine tr_take1 rfl rfl (lt_of rfl) rfl c48 (s_lenm (lt_of rfl) rfl sl_37.of) ?_
   obtain ⟨r51, h52, h5⟩ := bind_some h5
   refine tr_take1 rfl rfl (lt_of rfl) rfl c48 (s_call (lt_of rfl) (.func _ _ Try.call46) rfl rfl (BVs.refl _ _) (deuceref08_within_c _ _ _ h52) rfl) ?_
   refine tr_take1 rfl rfl (lt_of rfl) rfl c48 (s_not (lt_of rfl) rfl) ?_
   refine tr1 rfl (s_pick_f (v := .d (.lit (.bool (!r51)))) (lt_of rfl) rfl c48 rfl rfl) ?_
   have h5 := Option.some.inj h5
   subst h5
   refine tr_nil (ent_keep rfl ⟨rfl, trivial⟩ rfl)
 ·refine tr1 rfl (s_move (v := .d (.lit (.bool b4))) (lt_of rfl) rfl rfl) ?_
  obtain ⟨b6, h7, h⟩ := bind_some h
  refine tr_guard 5 [1] 26 b6 ?_ ?_
  ·refine bool_cases (b4) (fun c45 => ?_) (fun c45 => ?_)
   ·have h7 := cond_tt c45 h7
    refine tr_pass rfl rfl (lt_of rfl) rfl (lt_of rfl) rfl c45 ?_
    refine tr_pass rfl rfl (lt_of rfl) rfl (lt_of rfl) rfl c45 ?_
    refine tr_pass rfl rfl (lt_of rfl) rfl (lt_of rfl) rfl c45 ?_
    refine tr_pass rfl rfl (lt_of rfl) rfl (lt_of rfl) rfl c45 ?_
    refine tr1 rfl (s_pick_t (v := .d (.lit (.bool true))) (lt_of rfl) rfl c45 rfl rfl) ?_
    have h7 := Option.some.inj h7
    subst h7
    refine tr_nil (ent_keep rfl ⟨rfl, trivial⟩ rfl)
   ·have h7 := cond_ff c45 h7
    refine tr_take1 rfl rfl (lt_of rfl) rfl c45 (s_field_bp (lt_of rfl) rfl fld_25_1) ?_
    refine tr_take1 rfl rfl (lt_of rfl) rfl c45 (s_load_bp (lt_of rfl) rfl (i := 0) rfl rfl one_3) ?_
    obtain ⟨r46, h47, h7⟩ := bind_some h7
    refine tr_take1 rfl rfl (lt_of rfl) rfl c45 (s_call (lt_of rfl) (.func _ _ Try.call46) rfl rfl (BVs.refl _ _) (deuceref08_within_c _ _ _ h47) rfl) ?_
    refine tr_take1 rfl rfl (lt_of rfl) rfl c45 (s_not (lt_of rfl) rfl) ?_
    refine tr1 rfl (s_pick_f (v := .d (.lit (.bool (!r46)))) (lt_of rfl) rfl c45 rfl rfl) ?_
    have h7 := Option.some.inj h7
    subst h7
    refine tr_nil (ent_keep rfl ⟨rfl, trivial⟩ rfl)
  ·refine tr1 rfl (s_move (v := .d (.lit (.bool b6))) (lt_of rfl) rfl rfl) ?_
   obtain ⟨b8, h9, h⟩ := bind_some h
   refine tr_guard 5 [1] 32 b8 ?_ ?_
   ·refine bool_cases (b6) (fun c44 => ?_) (fun c44 => ?_)
    ·have h9 := cond_tt c44 h9
     refine tr_pass rfl rfl (lt_of rfl) rfl (lt_of rfl) rfl c44 ?_
     refine tr_pass rfl rfl (lt_of rfl) rfl (lt_of rfl) rfl c44 ?_
     refine tr_pass rfl rfl (lt_of rfl) rfl (lt_of rfl) rfl c44 ?_
     refine tr_pass rfl rfl (lt_of rfl) rfl (lt_of rfl) rfl c44 ?_
     refine tr1 rfl (s_pick_t (v := .d (.lit (.bool true))) (lt_of rfl) rfl c44 rfl rfl) ?_
     have h9 := Option.some.inj h9
     subst h9
     refine tr_nil (ent_keep rfl ⟨rfl, trivial⟩ rfl)
    ·have h9 := cond_ff c44 h9
     refine tr_take1 rfl rfl (lt_of rfl) rfl c44 (s_field_bp (lt_of rfl) rfl fld_25_2) ?_
     refine tr_take1 rfl rfl (lt_of rfl) rfl c44 (s_load_bp (lt_of rfl) rfl (i := 0) rfl rfl one_23) ?_
     refine tr_take1 rfl rfl (lt_of rfl) rfl c44 (s_lenm (lt_of rfl) rfl sl_23.of) ?_
     refine tr_take1 rfl rfl (lt_of rfl) rfl c44 (s_cmp (lt_of rfl) rfl rfl rfl) ?_
     refine tr1 rfl (s_pick_f (v := .d (.lit (.bool ((decide (6 < (p_0.Jobs.length : Int))))))) (lt_of rfl) rfl c44 rfl rfl) ?_
     have h9 := Option.some.inj h9
     subst h9
     refine tr_nil (ent_keep rfl ⟨rfl, trivial⟩ rfl)
   ·refine tr_nil ?_
    refine tr_if rfl (fun c10 => ?_) (fun c10 => ?_)
    ·have h := cond_tt c10 h
     refine tr_seq ?_
     refine tr_region ?_
     refine tr1 rfl (s_assign (v := .d (.lit (.int .i64 80))) (lt_of rfl) rfl rfl) ?_
     refine tr_nil ?_
     have h := Option.some.inj h
     subst h
     refine tr_ent (ent_free (ble_keep (l := [2]) ⟨rfl, trivial⟩)) ?_
     exact tr_ret ⟨rfl, _, .one _, rfl, rfl⟩
    ·have h := cond_ff c10 h
     refine tr_skip ?_
     refine tr_seq ?_
     refine tr_seq ?_
     refine tr_region ?_
     refine tr1 rfl (s_assign (v := .d (.lit (.int .i64 0))) (lt_of rfl) rfl rfl) ?_
     refine tr_nil ?_
     refine tr_blk ?_
     refine tr_loopk [1] (fun (s11 : Int) => [(3, .d (.lit (.int .i64 s11)))]) (fun (s11 : Int) => [.box b1 0 (encApiProgram p_0)]) (fun (k : Nat) (s11 : Int) => deuceref08_Check_L0 p_0 k s11) (fun _ => rfl) (0) h (ent_pick [0] rfl rfl (le_upd rfl (le_keep ⟨rfl, trivial⟩))) ?_
     rintro k12 d_0_11 h
     simp only [deuceref08_Check_L0] at h
     refine tr_seq ?_
     refine tr_seq ?_
     refine tr_region ?_
     refine tr1 rfl (s_move (v := .d (.lit (.int .i64 d_0_11))) (lt_of rfl) rfl rfl) ?_
     refine tr1 rfl (s_field_bp (lt_of rfl) rfl fld_25_0) ?_
     refine tr1 rfl (s_load_bp (lt_of rfl) rfl (i := 0) rfl rfl one_22) ?_
     refine tr1 rfl (s_lenm (lt_of rfl) rfl sl_22.of) ?_
     refine tr1 rfl (s_cmp (lt_of rfl) rfl rfl rfl) ?_
     refine tr_nil ?_
     refine tr_if rfl (fun c13 => ?_) (fun c13 => ?_)
     ·have h := cond_tt c13 h
      refine tr_skip ?_
      refine tr_seq ?_
      refine tr_blk ?_
      refine tr_seq ?_
      refine tr_seq ?_
      obtain ⟨x14, h15, h⟩ := bind_some h
      obtain ⟨x16, h17, h⟩ := bind_some h
      refine tr_drawk mix 11 [1, 3] [(45, .d (.lit (.int .i64 ((x14.length : Int))))), (50, .d (.lit (.int .i64 ((x16.length : Int)))))] ?_ ?_
      ·refine ⟨[(40, 0, .bp b1 0 0), (41, 1, .d (.sl 1 (p_0.Days.map encSl_ApiSpan))), (42, 2, .d (.lit (.int .i64 d_0_11))), (43, 3, .cp [.sl 2 (x14.map encApiSpan)]), (44, 4, .d (.sl 2 (x14.map encApiSpan))), (45, 5, .d (.lit (.int .i64 ((x14.length : Int))))), (46, 6, .bp b1 0 0), (47, 7, .d (.sl 1 (p_0.Days.map encSl_ApiSpan))), (48, 8, .cp [.sl 2 (x16.map encApiSpan)]), (49, 9, .d (.sl 2 (x16.map encApiSpan))), (50, 10, .d (.lit (.int .i64 ((x16.length : Int)))))], ?_, ?_⟩
       · exact ⟨by kernel_rfl, by kernel_rfl, by kernel_rfl, by kernel_rfl, by kernel_rfl, [([], []), ([0], []), ([], []), ([1, 2], []), ([3], []), ([4], []), ([], []), ([6], []), ([7], []), ([8], []), ([9], [])], by kernel_rfl, ⟨fun S hS => g_fin rfl (g_op rfl (s_field_bp (lt_of rfl) (ov_ev hS rfl) fld_25_0)),
      fun S hS => g_fin rfl (g_op rfl (s_load_bp (lt_of rfl) (ov_ev hS rfl) (i := 0) rfl rfl one_22)),
      fun S hS => g_fin rfl (g_op rfl (s_move (v := .d (.lit (.int .i64 d_0_11))) (lt_of rfl) (ov_ev hS rfl) rfl)),
      fun S hS => g_fin rfl (g_op rfl (s_index_sl (lt_of rfl) (ov_ev hS rfl) (ov_ev hS rfl) sl_22.of (idx_map encSl_ApiSpan h15))),
      fun S hS => g_fin rfl (g_op rfl (s_load_cp (lt_of rfl) (ov_ev hS rfl) one_37)),
      fun S hS => g_fin rfl (g_op rfl (s_lenm (lt_of rfl) (ov_ev hS rfl) sl_37.of)),
      fun S hS => g_fin rfl (g_op rfl (s_field_bp (lt_of rfl) (ov_ev hS rfl) fld_25_0)),
      fun S hS => g_fin rfl (g_op rfl (s_load_bp (lt_of rfl) (ov_ev hS rfl) (i := 0) rfl rfl one_22)),
      fun S hS => g_fin rfl (g_op rfl (s_index_sl (lt_of rfl) (ov_ev hS rfl) rfl sl_22.of (idx_map encSl_ApiSpan h17))),
      fun S hS => g_fin rfl (g_op rfl (s_load_cp (lt_of rfl) (ov_ev hS rfl) one_37)),
      fun S hS => g_fin rfl (g_op rfl (s_lenm (lt_of rfl) (ov_ev hS rfl) sl_37.of)), trivial⟩⟩
       · exact ent_le (le_upd rfl (le_upd rfl (le_keep ⟨rfl, rfl, trivial⟩)))
      ·refine tr1 rfl (s_cmp (lt_of rfl) rfl rfl rfl) ?_
       refine tr_nil ?_
       refine tr_if rfl (fun c18 => ?_) (fun c18 => ?_)
       ·have h := cond_tt c18 h
        refine tr_seq ?_
        refine tr_region ?_
        refine tr1 rfl (s_assign (v := .d (.lit (.int .i64 80))) (lt_of rfl) rfl rfl) ?_
        refine tr_nil ?_
        have h := Option.some.inj h
        subst h
        refine tr_ent (ent_free (ble_keep (l := [2]) ⟨rfl, trivial⟩)) ?_
        exact tr_ret ⟨rfl, _, .one _, rfl, rfl⟩
       ·have h := cond_ff c18 h
        refine tr_skip ?_
        refine tr_seq ?_
        refine tr_region ?_
        refine tr1 rfl (s_assign (v := .d (.lit (.int .i64 0))) (lt_of rfl) rfl rfl) ?_
        refine tr_nil ?_
        refine tr_blkb ?_
        refine tr_loopk [1, 3] (fun (s19 : Int) => [(4, .d (.lit (.int .i64 s19)))]) (fun (s19 : Int) => [.box b1 0 (encApiProgram p_0)]) (fun (k : Nat) (s19 : Int) => deuceref08_Check_L2 (deuceref08_Check_L0 p_0 k12) d_0_11 p_0 k s19) (fun _ => rfl) (0) h (ent_pick [0] rfl rfl (le_upd rfl (le_keep ⟨rfl, rfl, trivial⟩))) ?_
        rintro k20 c_2_19 h
        simp only [deuceref08_Check_L2] at h
        refine tr_seq ?_
        refine tr_seq ?_
        refine tr_region ?_
        refine tr1 rfl (s_move (v := .d (.lit (.int .i64 c_2_19))) (lt_of rfl) rfl rfl) ?_
        refine tr1 rfl (s_field_bp (lt_of rfl) rfl fld_25_0) ?_
        refine tr1 rfl (s_load_bp (lt_of rfl) rfl (i := 0) rfl rfl one_22) ?_
        refine tr1 rfl (s_move (v := .d (.lit (.int .i64 d_0_11))) (lt_of rfl) rfl rfl) ?_
        obtain ⟨x21, h22, h⟩ := bind_some h
        refine tr1 rfl (s_index_sl (lt_of rfl) rfl rfl sl_22.of (idx_map encSl_ApiSpan h22)) ?_
        refine tr1 rfl (s_load_cp (lt_of rfl) rfl one_37) ?_
        refine tr1 rfl (s_lenm (lt_of rfl) rfl sl_37.of) ?_
        refine tr1 rfl (s_cmp (lt_of rfl) rfl rfl rfl) ?_
        refine tr_nil ?_
        refine tr_if rfl (fun c23 => ?_) (fun c23 => ?_)
        ·have h := cond_tt c23 h
         refine tr_skip ?_
         refine tr_seq ?_
         refine tr_blk ?_
         refine tr_seq ?_
         refine tr_region ?_
         refine tr1 rfl (s_field_bp (lt_of rfl) rfl fld_25_0) ?_
         refine tr1 rfl (s_load_bp (lt_of rfl) rfl (i := 0) rfl rfl one_22) ?_
         refine tr1 rfl (s_move (v := .d (.lit (.int .i64 d_0_11))) (lt_of rfl) rfl rfl) ?_
         obtain ⟨x24, h25, h⟩ := bind_some h
         refine tr1 rfl (s_index_sl (lt_of rfl) rfl rfl sl_22.of (idx_map encSl_ApiSpan h25)) ?_
         refine tr1 rfl (s_load_cp (lt_of rfl) rfl one_37) ?_
         refine tr1 rfl (s_move (v := .d (.lit (.int .i64 c_2_19))) (lt_of rfl) rfl rfl) ?_
         obtain ⟨x26, h27, h⟩ := bind_some h
         refine tr1 rfl (s_index_sl (lt_of rfl) rfl rfl sl_37.of (idx_map encApiSpan h27)) ?_
         refine tr1 rfl (s_loada_cp (lt_of rfl) rfl agg_34 (es := (encApiSpan x26)) rfl rfl) ?_
         refine tr_op rfl (s_alloc (zs := [.lit (.int .i64 0), .lit (.int .i64 0)]) (lt_of rfl) Try.zeroValue34 rfl rfl) ?_
         rintro _ ⟨b28, rfl⟩
         refine tr1 rfl (s_store_bp (i := 1) rfl rfl rfl rfl rfl Try.sizeOf34 rfl (lt_of rfl) (Nat.le_of_ble_eq_true rfl) (ds' := (encApiSpan x26)) rfl) ?_
         refine tr_nil ?_
         refine tr_seq ?_
         refine tr_region ?_
         refine tr1 rfl (s_field_bp (lt_of rfl) rfl fld_34_0) ?_
         refine tr1 rfl (s_load_bp (lt_of rfl) rfl (i := 1) rfl rfl one_3) ?_
         refine tr1 rfl (s_cmp (lt_of rfl) rfl rfl rfl) ?_
         refine tr1 rfl (s_move (v := .d (.lit (.bool ((decide (x26.Low < 0)))))) (lt_of rfl) rfl rfl) ?_
         obtain ⟨b29, h30, h⟩ := bind_some h
         refine tr_guard 6 [1, 3, 4, 5] 79 b29 ?_ ?_
         ·refine bool_cases (decide (x26.Low < 0)) (fun c35 => ?_) (fun c35 => ?_)
          ·have h30 := cond_tt c35 h30
           refine tr_pass rfl rfl (lt_of rfl) rfl (lt_of rfl) rfl c35 ?_
           refine tr_pass rfl rfl (lt_of rfl) rfl (lt_of rfl) rfl c35 ?_
           refine tr_pass rfl rfl (lt_of rfl) rfl (lt_of rfl) rfl c35 ?_
           refine tr_pass rfl rfl (lt_of rfl) rfl (lt_of rfl) rfl c35 ?_
           refine tr_pass rfl rfl (lt_of rfl) rfl (lt_of rfl) rfl c35 ?_
           refine tr1 rfl (s_pick_t (v := .d (.lit (.bool true))) (lt_of rfl) rfl c35 rfl rfl) ?_
           have h30 := Option.some.inj h30
           subst h30
           refine tr_nil (ent_keep rfl ⟨rfl, rfl, rfl, rfl, trivial⟩ rfl)
          ·have h30 := cond_ff c35 h30
           refine tr_take1 rfl rfl (lt_of rfl) rfl c35 (s_field_bp (lt_of rfl) rfl fld_34_0) ?_
           refine tr_take1 rfl rfl (lt_of rfl) rfl c35 (s_load_bp (lt_of rfl) rfl (i := 1) rfl rfl one_3) ?_
           refine tr_take1 rfl rfl (lt_of rfl) rfl c35 (s_field_bp (lt_of rfl) rfl fld_34_1) ?_
           refine tr_take1 rfl rfl (lt_of rfl) rfl c35 (s_load_bp (lt_of rfl) rfl (i := 1) rfl rfl one_3) ?_
           refine tr_take1 rfl rfl (lt_of rfl) rfl c35 (s_cmp (lt_of rfl) rfl rfl rfl) ?_
           refine tr1 rfl (s_pick_f (v := .d (.lit (.bool ((decide (x26.High < x26.Low)))))) (lt_of rfl) rfl c35 rfl rfl) ?_
           have h30 := Option.some.inj h30
           subst h30
           refine tr_nil (ent_keep rfl ⟨rfl, rfl, rfl, rfl, trivial⟩ rfl)
         ·refine tr1 rfl (s_move (v := .d (.lit (.bool b29))) (lt_of rfl) rfl rfl) ?_
          obtain ⟨b31, h32, h⟩ := bind_some h
          refine tr_guard 4 [1, 3, 4] 84 b31 ?_ ?_
          ·refine bool_cases (b29) (fun c34 => ?_) (fun c34 => ?_)
           ·have h32 := cond_tt c34 h32
            refine tr_pass rfl rfl (lt_of rfl) rfl (lt_of rfl) rfl c34 ?_
            refine tr_pass rfl rfl (lt_of rfl) rfl (lt_of rfl) rfl c34 ?_
            refine tr_pass rfl rfl (lt_of rfl) rfl (lt_of rfl) rfl c34 ?_
            refine tr1 rfl (s_pick_t (v := .d (.lit (.bool true))) (lt_of rfl) rfl c34 rfl rfl) ?_
            have h32 := Option.some.inj h32
            subst h32
            refine tr_nil (ent_keep rfl ⟨rfl, rfl, rfl, trivial⟩ rfl)
           ·have h32 := cond_ff c34 h32
            refine tr_take1 rfl rfl (lt_of rfl) rfl c34 (s_field_bp (lt_of rfl) rfl fld_34_1) ?_
            refine tr_take1 rfl rfl (lt_of rfl) rfl c34 (s_load_bp (lt_of rfl) rfl (i := 1) rfl rfl one_3) ?_
            refine tr_take1 rfl rfl (lt_of rfl) rfl c34 (s_cmp (lt_of rfl) rfl rfl rfl) ?_
            refine tr1 rfl (s_pick_f (v := .d (.lit (.bool ((decide (1440 < x26.High)))))) (lt_of rfl) rfl c34 rfl rfl) ?_
            have h32 := Option.some.inj h32
            subst h32
            refine tr_nil (ent_keep rfl ⟨rfl, rfl, rfl, trivial⟩ rfl)
          ·refine tr_nil ?_
           refine tr_if rfl (fun c33 => ?_) (fun c33 => ?_)
           ·have h := cond_tt c33 h
            refine tr_seq ?_
            refine tr_region ?_
            refine tr1 rfl (s_assign (v := .d (.lit (.int .i64 80))) (lt_of rfl) rfl rfl) ?_
            refine tr_nil ?_
            have h := Option.some.inj h
            subst h
            refine tr_ent (ent_free (ble_keep (l := [2]) ⟨rfl, trivial⟩)) ?_
            exact tr_ret ⟨rfl, _, .one _, rfl, rfl⟩
           ·have h := cond_ff c33 h
            refine tr_skipb ?_
            refine tr_region ?_
            refine tr1 rfl (s_move (v := .d (.lit (.int .i64 c_2_19))) (lt_of rfl) rfl rfl) ?_
            refine tr1 rfl (s_arith (lt_of rfl) rfl rfl rfl) ?_
            refine tr1 rfl (s_assign (v := .d (.lit (.int .i64 ((w64 (c_2_19 + 1)))))) (lt_of rfl) rfl rfl) ?_
            refine tr_nil ?_
            exact ⟨(w64 (c_2_19 + 1)), h, ent_pick [0] rfl rfl (le_upd rfl (le_keep ⟨rfl, rfl, trivial⟩))⟩
        ·have h := cond_ff c23 h
         refine tr_exit ?_
         refine .inl ⟨rfl, ?_⟩
         simp only [deuceref08_Check_K2] at h
         simp only [deuceref08_Check_K1] at h
         refine tr_region ?_
         refine tr1 rfl (s_move (v := .d (.lit (.int .i64 d_0_11))) (lt_of rfl) rfl rfl) ?_
         refine tr1 rfl (s_arith (lt_of rfl) rfl rfl rfl) ?_
         refine tr1 rfl (s_assign (v := .d (.lit (.int .i64 ((w64 (d_0_11 + 1)))))) (lt_of rfl) rfl rfl) ?_
         refine tr_nil ?_
         exact ⟨(w64 (d_0_11 + 1)), h, ent_pick [0] rfl rfl (le_upd rfl (le_keep ⟨rfl, trivial⟩))⟩
     ·have h := cond_ff c13 h
      refine tr_exit ?_
      refine .inl ⟨rfl, ?_⟩
      simp only [deuceref08_Check_K0] at h
      refine tr_seq ?_
      refine tr_seq ?_
      refine tr_region ?_
      refine tr1 rfl (s_assign (v := .d (.lit (.int .i64 0))) (lt_of rfl) rfl rfl) ?_
      refine tr_nil ?_
      refine tr_blk ?_
      refine tr_loopk [1] (fun (s36 : Int) => [(6, .d (.lit (.int .i64 s36)))]) (fun (s36 : Int) => [.box b1 0 (encApiProgram p_0)]) (fun (k : Nat) (s36 : Int) => deuceref08_Check_L4 p_0 k s36) (fun _ => rfl) (0) h (ent_pick [0] rfl rfl (le_upd rfl (le_keep ⟨rfl, trivial⟩))) ?_
      rintro k37 i_4_36 h
      simp only [deuceref08_Check_L4] at h
      refine tr_seq ?_
      refine tr_seq ?_
      refine tr_region ?_
      refine tr1 rfl (s_move (v := .d (.lit (.int .i64 i_4_36))) (lt_of rfl) rfl rfl) ?_
      refine tr1 rfl (s_field_bp (lt_of rfl) rfl fld_25_2) ?_
      refine tr1 rfl (s_load_bp (lt_of rfl) rfl (i := 0) rfl rfl one_23) ?_
      refine tr1 rfl (s_lenm (lt_of rfl) rfl sl_23.of) ?_
      refine tr1 rfl (s_cmp (lt_of rfl) rfl rfl rfl) ?_
      refine tr_nil ?_
      refine tr_if rfl (fun c38 => ?_) (fun c38 => ?_)
      ·have h := cond_tt c38 h
       refine tr_skip ?_
       refine tr_seq ?_
       refine tr_blk ?_
       refine tr_seq ?_
       obtain ⟨x39, h40, h⟩ := bind_some h
       refine tr_drawk mix 9 [1, 6] [(96, .agg (encApiJob x39)), (97, .d (.lit (.int .i64 i_4_36))), (100, .d (.lit (.int .i64 ((p_0.Jobs.length : Int)))))] ?_ ?_
       ·refine ⟨[(92, 0, .bp b1 0 2), (93, 1, .d (.sl 6 (p_0.Jobs.map encApiJob))), (94, 2, .d (.lit (.int .i64 i_4_36))), (95, 3, .cp [.lit (.int .i64 x39.Length.Low), .lit (.int .i64 x39.Length.High), .sl 1 (x39.After.map encI), .sl 1 (x39.With.map encI), .lit (.int .i64 x39.Due), .lit (.int .i64 x39.Earliest)]), (96, 4, .agg (encApiJob x39)), (97, 5, .d (.lit (.int .i64 i_4_36))), (98, 6, .bp b1 0 2), (99, 7, .d (.sl 6 (p_0.Jobs.map encApiJob))), (100, 8, .d (.lit (.int .i64 ((p_0.Jobs.length : Int)))))], ?_, ?_⟩
        · exact ⟨by kernel_rfl, by kernel_rfl, by kernel_rfl, by kernel_rfl, by kernel_rfl, [([], []), ([0], []), ([], []), ([1, 2], []), ([3], []), ([], []), ([], []), ([6], []), ([7], [])], by kernel_rfl, ⟨fun S hS => g_fin rfl (g_op rfl (s_field_bp (lt_of rfl) (ov_ev hS rfl) fld_25_2)),
      fun S hS => g_fin rfl (g_op rfl (s_load_bp (lt_of rfl) (ov_ev hS rfl) (i := 0) rfl rfl one_23)),
      fun S hS => g_fin rfl (g_op rfl (s_move (v := .d (.lit (.int .i64 i_4_36))) (lt_of rfl) (ov_ev hS rfl) rfl)),
      fun S hS => g_fin rfl (g_op rfl (s_index_sl (lt_of rfl) (ov_ev hS rfl) (ov_ev hS rfl) sl_23.of (idx_map encApiJob h40))),
      fun S hS => g_fin rfl (g_op rfl (s_loada_cp (lt_of rfl) (ov_ev hS rfl) agg_36 (es := (encApiJob x39)) rfl rfl)),
      fun S hS => g_fin rfl (g_op rfl (s_move (v := .d (.lit (.int .i64 i_4_36))) (lt_of rfl) (ov_ev hS rfl) rfl)),
      fun S hS => g_fin rfl (g_op rfl (s_field_bp (lt_of rfl) (ov_ev hS rfl) fld_25_2)),
      fun S hS => g_fin rfl (g_op rfl (s_load_bp (lt_of rfl) (ov_ev hS rfl) (i := 0) rfl rfl one_23)),
      fun S hS => g_fin rfl (g_op rfl (s_lenm (lt_of rfl) (ov_ev hS rfl) sl_23.of)), trivial⟩⟩
        · exact ent_le (le_upd rfl (le_upd rfl (le_upd rfl (le_keep ⟨rfl, rfl, trivial⟩))))
       ·obtain ⟨r41, h42, h⟩ := bind_some h
        refine tr1 rfl (s_call (lt_of rfl) (.func _ _ Try.call47) rfl rfl (BVs.refl _ _) (deuceref08_isJob_c _ _ _ h42) rfl) ?_
        refine tr1 rfl (s_not (lt_of rfl) rfl) ?_
        refine tr_nil ?_
        refine tr_if rfl (fun c43 => ?_) (fun c43 => ?_)
        ·have h := cond_tt c43 h
         refine tr_seq ?_
         refine tr_region ?_
         refine tr1 rfl (s_assign (v := .d (.lit (.int .i64 80))) (lt_of rfl) rfl rfl) ?_
         refine tr_nil ?_
         have h := Option.some.inj h
         subst h
         refine tr_ent (ent_free (ble_keep (l := [2]) ⟨rfl, trivial⟩)) ?_
         exact tr_ret ⟨rfl, _, .one _, rfl, rfl⟩
        ·have h := cond_ff c43 h
         refine tr_skipb ?_
         refine tr_region ?_
         refine tr1 rfl (s_move (v := .d (.lit (.int .i64 i_4_36))) (lt_of rfl) rfl rfl) ?_
         refine tr1 rfl (s_arith (lt_of rfl) rfl rfl rfl) ?_
         refine tr1 rfl (s_assign (v := .d (.lit (.int .i64 ((w64 (i_4_36 + 1)))))) (lt_of rfl) rfl rfl) ?_
         refine tr_nil ?_
         exact ⟨(w64 (i_4_36 + 1)), h, ent_pick [0] rfl rfl (le_upd rfl (le_keep ⟨rfl, trivial⟩))⟩
      ·have h := cond_ff c38 h
       refine tr_exit ?_
       refine .inl ⟨rfl, ?_⟩
       simp only [deuceref08_Check_K4] at h
       refine tr_seq ?_
       refine tr_region ?_
       refine tr1 rfl (s_assign (v := .d (.lit (.int .i64 0))) (lt_of rfl) rfl rfl) ?_
       refine tr_nil ?_
       have h := Option.some.inj h
       subst h
       refine tr_ent (ent_free (ble_keep (l := [2]) ⟨rfl, trivial⟩)) ?_
       exact tr_ret ⟨rfl, _, .one _, rfl, rfl⟩

theorem deuceref08_has_c (order_0 : List ApiSeat) (job_1 : Int) {r : Bool} (h : deuceref08_has order_0 job_1 = some r) : Fn Try.prog 67 [.d (.sl 3 (order_0.map encApiSeat)), .d (.lit (.int .i64 job_1))] (.d (.lit (.bool r))) := by
 unfold deuceref08_has at h
 refine Fn.of_tr Try.func67 rfl (rs := [.tmp 4]) Try.results67 Try.ntmps67 (Nat.le_of_ble_eq_true rfl) ?_
 refine tr_seq ?_
 refine tr_region ?_
 refine tr1 rfl (s_assign (v := .d (.lit (.bool false))) (lt_of rfl) rfl rfl) ?_
 refine tr_nil ?_
 refine tr_seq ?_
 refine tr_seq ?_
 refine tr_region ?_
 refine tr1 rfl (s_assign (v := .d (.lit (.int .i64 0))) (lt_of rfl) rfl rfl) ?_
 refine tr_nil ?_
 refine tr_blk ?_
 refine tr_loopk [0, 1] (fun (s1 : Int) => [(5, .d (.lit (.int .i64 s1)))]) (fun (s1 : Int) => []) (fun (k : Nat) (s1 : Int) => deuceref08_has_L0 order_0 job_1 k s1) (fun _ => rfl) (0) h (ent_pick [] rfl rfl (le_upd rfl (le_keep ⟨rfl, rfl, trivial⟩))) ?_
 rintro k2 i_0_1 h
 simp only [deuceref08_has_L0] at h
 refine tr_seq ?_
 refine tr_seq ?_
 refine tr_region ?_
 refine tr1 rfl (s_move (v := .d (.lit (.int .i64 i_0_1))) (lt_of rfl) rfl rfl) ?_
 refine tr1 rfl (s_move (v := .d (.sl 3 (order_0.map encApiSeat))) (lt_of rfl) rfl rfl) ?_
 refine tr1 rfl (s_lenm (lt_of rfl) rfl sl_26.of) ?_
 refine tr1 rfl (s_cmp (lt_of rfl) rfl rfl rfl) ?_
 refine tr_nil ?_
 refine tr_if rfl (fun c3 => ?_) (fun c3 => ?_)
 ·have h := cond_tt c3 h
  refine tr_skip ?_
  refine tr_seq ?_
  refine tr_blk ?_
  refine tr_seq ?_
  refine tr_region ?_
  refine tr1 rfl (s_move (v := .d (.sl 3 (order_0.map encApiSeat))) (lt_of rfl) rfl rfl) ?_
  refine tr1 rfl (s_move (v := .d (.lit (.int .i64 i_0_1))) (lt_of rfl) rfl rfl) ?_
  obtain ⟨x4, h5, h⟩ := bind_some h
  refine tr1 rfl (s_index_sl (lt_of rfl) rfl rfl sl_26.of (idx_map encApiSeat h5)) ?_
  refine tr1 rfl (s_field_cp (lt_of rfl) rfl fld_45_0 (es := [.lit (.int .i64 x4.Job)]) rfl) ?_
  refine tr1 rfl (s_load_cp (lt_of rfl) rfl one_3) ?_
  refine tr1 rfl (s_move (v := .d (.lit (.int .i64 job_1))) (lt_of rfl) rfl rfl) ?_
  refine tr1 rfl (s_cmp (lt_of rfl) rfl rfl rfl) ?_
  refine tr_nil ?_
  refine tr_if rfl (fun c6 => ?_) (fun c6 => ?_)
  ·have h := cond_tt c6 h
   refine tr_seq ?_
   refine tr_region ?_
   refine tr1 rfl (s_assign (v := .d (.lit (.bool true))) (lt_of rfl) rfl rfl) ?_
   refine tr_nil ?_
   have h := Option.some.inj h
   subst h
   exact tr_ret ⟨rfl, _, .one _, rfl, rfl⟩
  ·have h := cond_ff c6 h
   refine tr_skipb ?_
   refine tr_region ?_
   refine tr1 rfl (s_move (v := .d (.lit (.int .i64 i_0_1))) (lt_of rfl) rfl rfl) ?_
   refine tr1 rfl (s_arith (lt_of rfl) rfl rfl rfl) ?_
   refine tr1 rfl (s_assign (v := .d (.lit (.int .i64 ((w64 (i_0_1 + 1)))))) (lt_of rfl) rfl rfl) ?_
   refine tr_nil ?_
   exact ⟨(w64 (i_0_1 + 1)), h, ent_pick [] rfl rfl (le_upd rfl (le_keep ⟨rfl, rfl, trivial⟩))⟩
 ·have h := cond_ff c3 h
  refine tr_exit ?_
  refine .inl ⟨rfl, ?_⟩
  simp only [deuceref08_has_K0] at h
  refine tr_seq ?_
  refine tr_region ?_
  refine tr1 rfl (s_assign (v := .d (.lit (.bool false))) (lt_of rfl) rfl rfl) ?_
  refine tr_nil ?_
  have h := Option.some.inj h
  subst h
  exact tr_ret ⟨rfl, _, .one _, rfl, rfl⟩

theorem deuceref08_MayCome_c (p_0 : ApiProgram) (order_1 : List ApiSeat) (s_2 : ApiSeat) {r : Bool} (h : deuceref08_MayCome p_0 order_1 s_2 = some r) : Fn Try.prog 48 [.agg (encApiProgram p_0), .d (.sl 3 (order_1.map encApiSeat)), .agg (encApiSeat s_2)] (.d (.lit (.bool r))) := by
 unfold deuceref08_MayCome at h
 refine Fn.of_tr Try.func48 rfl (rs := [.tmp 6]) Try.results48 Try.ntmps48 (Nat.le_of_ble_eq_true rfl) ?_
 refine tr_seq ?_
 refine tr_region ?_
 refine tr_op rfl (s_box (v := .agg (encApiProgram p_0)) (lt_of rfl) rfl rfl rfl) ?_
 rintro _ ⟨b1, rfl⟩
 refine tr_op rfl (s_box (v := .agg (encApiSeat s_2)) (lt_of rfl) rfl rfl rfl) ?_
 rintro _ ⟨b2, rfl⟩
 refine tr1 rfl (s_assign (v := .d (.lit (.bool false))) (lt_of rfl) rfl rfl) ?_
 refine tr_nil ?_
 refine tr_seq ?_
 refine tr_seq ?_
 obtain ⟨r3, h4, h⟩ := bind_some h
 obtain ⟨b5, h6, h⟩ := bind_some h
 obtain ⟨b10, h11, h⟩ := bind_some h
 obtain ⟨b17, h18, h⟩ := bind_some h
 refine tr_drawk mix 44 [1, 3, 5] [(52, .d (.lit (.bool b17)))] ?_ ?_
 ·refine bool_cases (!r3) (fun c7 => ?_) (fun c7 => ?_)
  ·have h6 := cond_tt c7 h6
   have h6 := Option.some.inj h6
   subst h6
   have c12 : true = true := rfl
   have h11 := cond_tt c12 h11
   have h11 := Option.some.inj h11
   subst h11
   have c19 : true = true := rfl
   have h18 := cond_tt c19 h18
   have h18 := Option.some.inj h18
   subst h18
   refine ⟨[(9, 0, .bp b2 0 0), (10, 1, .d (.lit (.int .i64 s_2.Job))), (11, 2, .bp b1 0 2), (12, 3, .d (.sl 6 (p_0.Jobs.map encApiJob))), (13, 4, .d (.lit (.int .i64 ((p_0.Jobs.length : Int))))), (14, 5, .d (.lit (.int .i64 ((w64 ((p_0.Jobs.length : Int) - 1)))))), (15, 6, .d (.lit (.bool r3))), (16, 7, .d (.lit (.bool (!r3)))), (17, 8, .d (.lit (.bool (!r3)))), (18, 9, .tup []), (19, 10, .tup []), (20, 11, .tup []), (21, 12, .tup []), (22, 13, .d (.lit (.bool true))), (23, 14, .d (.lit (.bool (true)))), (24, 15, .tup []), (25, 16, .tup []), (26, 17, .tup []), (27, 18, .tup []), (28, 19, .tup []), (29, 20, .tup []), (30, 21, .tup []), (31, 22, .tup []), (32, 23, .tup []), (33, 24, .tup []), (34, 25, .tup []), (35, 26, .tup []), (36, 27, .tup []), (37, 28, .tup []), (38, 29, .tup []), (39, 30, .tup []), (40, 31, .d (.lit (.bool true))), (41, 32, .d (.lit (.bool (true)))), (42, 33, .tup []), (43, 34, .tup []), (44, 35, .tup []), (45, 36, .tup []), (46, 37, .tup []), (47, 38, .tup []), (48, 39, .tup []), (49, 40, .tup []), (50, 41, .tup []), (51, 42, .tup []), (52, 43, .d (.lit (.bool true)))], ?_, ?_⟩
   · exact ⟨by kernel_rfl, by kernel_rfl, by kernel_rfl, by kernel_rfl, by kernel_rfl, [([], []), ([0], []), ([], []), ([2], []), ([3], []), ([4], []), ([1, 5], []), ([6], []), ([7], []), ([8], []), ([8], []), ([8, 10], []), ([8, 9, 11], []), ([8, 12], []), ([13], []), ([14], []), ([14, 15], []), ([14], []), ([14, 17], []), ([14, 18], []), ([14, 19], []), ([14], []), ([14, 21], []), ([14], []), ([14, 23], []), ([14, 22, 24], []), ([14, 25], []), ([14, 26], []), ([14, 20, 27], []), ([14, 16, 28], []), ([14, 29], []), ([14, 30], []), ([31], []), ([32], []), ([32, 33], []), ([32], []), ([32, 35], []), ([32, 36], []), ([32, 37], []), ([32, 38], []), ([32, 39], []), ([32, 34, 40], []), ([32, 41], []), ([32, 42], [])], by kernel_rfl, ⟨fun S hS => g_fin rfl (g_op rfl (s_field_bp (lt_of rfl) (ov_ev hS rfl) fld_45_0)),
      fun S hS => g_fin rfl (g_op rfl (s_load_bp (lt_of rfl) (ov_ev hS rfl) (i := 1) rfl rfl one_3)),
      fun S hS => g_fin rfl (g_op rfl (s_field_bp (lt_of rfl) (ov_ev hS rfl) fld_25_2)),
      fun S hS => g_fin rfl (g_op rfl (s_load_bp (lt_of rfl) (ov_ev hS rfl) (i := 0) rfl rfl one_23)),
      fun S hS => g_fin rfl (g_op rfl (s_lenm (lt_of rfl) (ov_ev hS rfl) sl_23.of)),
      fun S hS => g_fin rfl (g_op rfl (s_arith (lt_of rfl) (ov_ev hS rfl) rfl rfl)),
      fun S hS => g_fin rfl (g_op rfl (s_call (lt_of rfl) (.func _ _ Try.call46) (ev2 (ov_ev hS rfl) (ev2 rfl (ev2 (ov_ev hS rfl) evn))) rfl (BVs.refl _ _) (deuceref08_within_c _ _ _ h4) rfl)),
      fun S hS => g_fin rfl (g_op rfl (s_not (lt_of rfl) (ov_ev hS rfl))),
      fun S hS => g_fin rfl (g_op rfl (s_move (v := .d (.lit (.bool (!r3)))) (lt_of rfl) (ov_ev hS rfl) rfl)),
      fun S hS => g_fin rfl (g_pass rfl rfl (lt_of rfl) rfl (lt_of rfl) (ov_en hS rfl) c7),
      fun S hS => g_fin rfl (g_pass rfl rfl (lt_of rfl) rfl (lt_of rfl) (ov_en hS rfl) c7),
      fun S hS => g_fin rfl (g_pass rfl rfl (lt_of rfl) rfl (lt_of rfl) (ov_en hS rfl) c7),
      fun S hS => g_fin rfl (g_pass rfl rfl (lt_of rfl) rfl (lt_of rfl) (ov_en hS rfl) c7),
      fun S hS => g_fin rfl (g_op rfl (s_pick_t (v := .d (.lit (.bool true))) (lt_of rfl) (ov_ev hS rfl) c7 rfl rfl)),
      fun S hS => g_fin rfl (g_op rfl (s_move (v := .d (.lit (.bool (true)))) (lt_of rfl) (ov_ev hS rfl) rfl)),
      fun S hS => g_fin rfl (g_pass rfl rfl (lt_of rfl) rfl (lt_of rfl) (ov_en hS rfl) c12),
      fun S hS => g_fin rfl (g_pass rfl rfl (lt_of rfl) rfl (lt_of rfl) (ov_en hS rfl) c12),
      fun S hS => g_fin rfl (g_pass rfl rfl (lt_of rfl) rfl (lt_of rfl) (ov_en hS rfl) c12),
      fun S hS => g_fin rfl (g_pass rfl rfl (lt_of rfl) rfl (lt_of rfl) (ov_en hS rfl) c12),
      fun S hS => g_fin rfl (g_pass rfl rfl (lt_of rfl) rfl (lt_of rfl) (ov_en hS rfl) c12),
      fun S hS => g_fin rfl (g_pass rfl rfl (lt_of rfl) rfl (lt_of rfl) (ov_en hS rfl) c12),
      fun S hS => g_fin rfl (g_pass rfl rfl (lt_of rfl) rfl (lt_of rfl) (ov_en hS rfl) c12),
      fun S hS => g_fin rfl (g_pass rfl rfl (lt_of rfl) rfl (lt_of rfl) (ov_en hS rfl) c12),
      fun S hS => g_fin rfl (g_pass rfl rfl (lt_of rfl) rfl (lt_of rfl) (ov_en hS rfl) c12),
      fun S hS => g_fin rfl (g_pass rfl rfl (lt_of rfl) rfl (lt_of rfl) (ov_en hS rfl) c12),
      fun S hS => g_fin rfl (g_pass rfl rfl (lt_of rfl) rfl (lt_of rfl) (ov_en hS rfl) c12),
      fun S hS => g_fin rfl (g_pass rfl rfl (lt_of rfl) rfl (lt_of rfl) (ov_en hS rfl) c12),
      fun S hS => g_fin rfl (g_pass rfl rfl (lt_of rfl) rfl (lt_of rfl) (ov_en hS rfl) c12),
      fun S hS => g_fin rfl (g_pass rfl rfl (lt_of rfl) rfl (lt_of rfl) (ov_en hS rfl) c12),
      fun S hS => g_fin rfl (g_pass rfl rfl (lt_of rfl) rfl (lt_of rfl) (ov_en hS rfl) c12),
      fun S hS => g_fin rfl (g_pass rfl rfl (lt_of rfl) rfl (lt_of rfl) (ov_en hS rfl) c12),
      fun S hS => g_fin rfl (g_op rfl (s_pick_t (v := .d (.lit (.bool true))) (lt_of rfl) (ov_ev hS rfl) c12 rfl rfl)),
      fun S hS => g_fin rfl (g_op rfl (s_move (v := .d (.lit (.bool (true)))) (lt_of rfl) (ov_ev hS rfl) rfl)),
      fun S hS => g_fin rfl (g_pass rfl rfl (lt_of rfl) rfl (lt_of rfl) (ov_en hS rfl) c19),
      fun S hS => g_fin rfl (g_pass rfl rfl (lt_of rfl) rfl (lt_of rfl) (ov_en hS rfl) c19),
      fun S hS => g_fin rfl (g_pass rfl rfl (lt_of rfl) rfl (lt_of rfl) (ov_en hS rfl) c19),
      fun S hS => g_fin rfl (g_pass rfl rfl (lt_of rfl) rfl (lt_of rfl) (ov_en hS rfl) c19),
      fun S hS => g_fin rfl (g_pass rfl rfl (lt_of rfl) rfl (lt_of rfl) (ov_en hS rfl) c19),
      fun S hS => g_fin rfl (g_pass rfl rfl (lt_of rfl) rfl (lt_of rfl) (ov_en hS rfl) c19),
      fun S hS => g_fin rfl (g_pass rfl rfl (lt_of rfl) rfl (lt_of rfl) (ov_en hS rfl) c19),
      fun S hS => g_fin rfl (g_pass rfl rfl (lt_of rfl) rfl (lt_of rfl) (ov_en hS rfl) c19),
      fun S hS => g_fin rfl (g_pass rfl rfl (lt_of rfl) rfl (lt_of rfl) (ov_en hS rfl) c19),
      fun S hS => g_fin rfl (g_pass rfl rfl (lt_of rfl) rfl (lt_of rfl) (ov_en hS rfl) c19),
      fun S hS => g_fin rfl (g_op rfl (s_pick_t (v := .d (.lit (.bool true))) (lt_of rfl) (ov_ev hS rfl) c19 rfl rfl)), trivial⟩⟩
   · exact ent_le (le_upd rfl (le_keep ⟨rfl, rfl, rfl, trivial⟩))
  ·have h6 := cond_ff c7 h6
   obtain ⟨r8, h9, h6⟩ := bind_some h6
   have h6 := Option.some.inj h6
   subst h6
   refine bool_cases (r8) (fun c12 => ?_) (fun c12 => ?_)
   ·have h11 := cond_tt c12 h11
    have h11 := Option.some.inj h11
    subst h11
    have c19 : true = true := rfl
    have h18 := cond_tt c19 h18
    have h18 := Option.some.inj h18
    subst h18
    refine ⟨[(9, 0, .bp b2 0 0), (10, 1, .d (.lit (.int .i64 s_2.Job))), (11, 2, .bp b1 0 2), (12, 3, .d (.sl 6 (p_0.Jobs.map encApiJob))), (13, 4, .d (.lit (.int .i64 ((p_0.Jobs.length : Int))))), (14, 5, .d (.lit (.int .i64 ((w64 ((p_0.Jobs.length : Int) - 1)))))), (15, 6, .d (.lit (.bool r3))), (16, 7, .d (.lit (.bool (!r3)))), (17, 8, .d (.lit (.bool (!r3)))), (18, 9, .d (.sl 3 (order_1.map encApiSeat))), (19, 10, .bp b2 0 0), (20, 11, .d (.lit (.int .i64 s_2.Job))), (21, 12, .d (.lit (.bool r8))), (22, 13, .d (.lit (.bool r8))), (23, 14, .d (.lit (.bool (r8)))), (24, 15, .tup []), (25, 16, .tup []), (26, 17, .tup []), (27, 18, .tup []), (28, 19, .tup []), (29, 20, .tup []), (30, 21, .tup []), (31, 22, .tup []), (32, 23, .tup []), (33, 24, .tup []), (34, 25, .tup []), (35, 26, .tup []), (36, 27, .tup []), (37, 28, .tup []), (38, 29, .tup []), (39, 30, .tup []), (40, 31, .d (.lit (.bool true))), (41, 32, .d (.lit (.bool (true)))), (42, 33, .tup []), (43, 34, .tup []), (44, 35, .tup []), (45, 36, .tup []), (46, 37, .tup []), (47, 38, .tup []), (48, 39, .tup []), (49, 40, .tup []), (50, 41, .tup []), (51, 42, .tup []), (52, 43, .d (.lit (.bool true)))], ?_, ?_⟩
    · exact ⟨by kernel_rfl, by kernel_rfl, by kernel_rfl, by kernel_rfl, by kernel_rfl, [([], []), ([0], []), ([], []), ([2], []), ([3], []), ([4], []), ([1, 5], []), ([6], []), ([7], []), ([8], []), ([8], []), ([8, 10], []), ([8, 9, 11], []), ([8, 12], []), ([13], []), ([14], []), ([14, 15], []), ([14], []), ([14, 17], []), ([14, 18], []), ([14, 19], []), ([14], []), ([14, 21], []), ([14], []), ([14, 23], []), ([14, 22, 24], []), ([14, 25], []), ([14, 26], []), ([14, 20, 27], []), ([14, 16, 28], []), ([14, 29], []), ([14, 30], []), ([31], []), ([32], []), ([32, 33], []), ([32], []), ([32, 35], []), ([32, 36], []), ([32, 37], []), ([32, 38], []), ([32, 39], []), ([32, 34, 40], []), ([32, 41], []), ([32, 42], [])], by kernel_rfl, ⟨fun S hS => g_fin rfl (g_op rfl (s_field_bp (lt_of rfl) (ov_ev hS rfl) fld_45_0)),
      fun S hS => g_fin rfl (g_op rfl (s_load_bp (lt_of rfl) (ov_ev hS rfl) (i := 1) rfl rfl one_3)),
      fun S hS => g_fin rfl (g_op rfl (s_field_bp (lt_of rfl) (ov_ev hS rfl) fld_25_2)),
      fun S hS => g_fin rfl (g_op rfl (s_load_bp (lt_of rfl) (ov_ev hS rfl) (i := 0) rfl rfl one_23)),
      fun S hS => g_fin rfl (g_op rfl (s_lenm (lt_of rfl) (ov_ev hS rfl) sl_23.of)),
      fun S hS => g_fin rfl (g_op rfl (s_arith (lt_of rfl) (ov_ev hS rfl) rfl rfl)),
      fun S hS => g_fin rfl (g_op rfl (s_call (lt_of rfl) (.func _ _ Try.call46) (ev2 (ov_ev hS rfl) (ev2 rfl (ev2 (ov_ev hS rfl) evn))) rfl (BVs.refl _ _) (deuceref08_within_c _ _ _ h4) rfl)),
      fun S hS => g_fin rfl (g_op rfl (s_not (lt_of rfl) (ov_ev hS rfl))),
      fun S hS => g_fin rfl (g_op rfl (s_move (v := .d (.lit (.bool (!r3)))) (lt_of rfl) (ov_ev hS rfl) rfl)),
      fun S hS => g_fin rfl (g_take rfl rfl (lt_of rfl) (ov_en hS rfl) c7 (s_move (v := .d (.sl 3 (order_1.map encApiSeat))) (lt_of rfl) (ov_ev hS rfl) rfl)),
      fun S hS => g_fin rfl (g_take rfl rfl (lt_of rfl) (ov_en hS rfl) c7 (s_field_bp (lt_of rfl) (ov_ev hS rfl) fld_45_0)),
      fun S hS => g_fin rfl (g_take rfl rfl (lt_of rfl) (ov_en hS rfl) c7 (s_load_bp (lt_of rfl) (ov_ev hS rfl) (i := 1) rfl rfl one_3)),
      fun S hS => g_fin rfl (g_take rfl rfl (lt_of rfl) (ov_en hS rfl) c7 (s_call (lt_of rfl) (.func _ _ Try.call67) (ev2 (ov_ev hS rfl) (ev2 (ov_ev hS rfl) evn)) rfl (BVs.refl _ _) (deuceref08_has_c _ _ h9) rfl)),
      fun S hS => g_fin rfl (g_op rfl (s_pick_f (v := .d (.lit (.bool r8))) (lt_of rfl) (ov_ev hS rfl) c7 (ov_ev hS rfl) rfl)),
      fun S hS => g_fin rfl (g_op rfl (s_move (v := .d (.lit (.bool (r8)))) (lt_of rfl) (ov_ev hS rfl) rfl)),
      fun S hS => g_fin rfl (g_pass rfl rfl (lt_of rfl) rfl (lt_of rfl) (ov_en hS rfl) c12),
      fun S hS => g_fin rfl (g_pass rfl rfl (lt_of rfl) rfl (lt_of rfl) (ov_en hS rfl) c12),
      fun S hS => g_fin rfl (g_pass rfl rfl (lt_of rfl) rfl (lt_of rfl) (ov_en hS rfl) c12),
      fun S hS => g_fin rfl (g_pass rfl rfl (lt_of rfl) rfl (lt_of rfl) (ov_en hS rfl) c12),
      fun S hS => g_fin rfl (g_pass rfl rfl (lt_of rfl) rfl (lt_of rfl) (ov_en hS rfl) c12),
      fun S hS => g_fin rfl (g_pass rfl rfl (lt_of rfl) rfl (lt_of rfl) (ov_en hS rfl) c12),
      fun S hS => g_fin rfl (g_pass rfl rfl (lt_of rfl) rfl (lt_of rfl) (ov_en hS rfl) c12),
      fun S hS => g_fin rfl (g_pass rfl rfl (lt_of rfl) rfl (lt_of rfl) (ov_en hS rfl) c12),
      fun S hS => g_fin rfl (g_pass rfl rfl (lt_of rfl) rfl (lt_of rfl) (ov_en hS rfl) c12),
      fun S hS => g_fin rfl (g_pass rfl rfl (lt_of rfl) rfl (lt_of rfl) (ov_en hS rfl) c12),
      fun S hS => g_fin rfl (g_pass rfl rfl (lt_of rfl) rfl (lt_of rfl) (ov_en hS rfl) c12),
      fun S hS => g_fin rfl (g_pass rfl rfl (lt_of rfl) rfl (lt_of rfl) (ov_en hS rfl) c12),
      fun S hS => g_fin rfl (g_pass rfl rfl (lt_of rfl) rfl (lt_of rfl) (ov_en hS rfl) c12),
      fun S hS => g_fin rfl (g_pass rfl rfl (lt_of rfl) rfl (lt_of rfl) (ov_en hS rfl) c12),
      fun S hS => g_fin rfl (g_pass rfl rfl (lt_of rfl) rfl (lt_of rfl) (ov_en hS rfl) c12),
      fun S hS => g_fin rfl (g_pass rfl rfl (lt_of rfl) rfl (lt_of rfl) (ov_en hS rfl) c12),
      fun S hS => g_fin rfl (g_op rfl (s_pick_t (v := .d (.lit (.bool true))) (lt_of rfl) (ov_ev hS rfl) c12 rfl rfl)),
      fun S hS => g_fin rfl (g_op rfl (s_move (v := .d (.lit (.bool (true)))) (lt_of rfl) (ov_ev hS rfl) rfl)),
      fun S hS => g_fin rfl (g_pass rfl rfl (lt_of rfl) rfl (lt_of rfl) (ov_en hS rfl) c19),
      fun S hS => g_fin rfl (g_pass rfl rfl (lt_of rfl) rfl (lt_of rfl) (ov_en hS rfl) c19),
      fun S hS => g_fin rfl (g_pass rfl rfl (lt_of rfl) rfl (lt_of rfl) (ov_en hS rfl) c19),
      fun S hS => g_fin rfl (g_pass rfl rfl (lt_of rfl) rfl (lt_of rfl) (ov_en hS rfl) c19),
      fun S hS => g_fin rfl (g_pass rfl rfl (lt_of rfl) rfl (lt_of rfl) (ov_en hS rfl) c19),
      fun S hS => g_fin rfl (g_pass rfl rfl (lt_of rfl) rfl (lt_of rfl) (ov_en hS rfl) c19),
      fun S hS => g_fin rfl (g_pass rfl rfl (lt_of rfl) rfl (lt_of rfl) (ov_en hS rfl) c19),
      fun S hS => g_fin rfl (g_pass rfl rfl (lt_of rfl) rfl (lt_of rfl) (ov_en hS rfl) c19),
      fun S hS => g_fin rfl (g_pass rfl rfl (lt_of rfl) rfl (lt_of rfl) (ov_en hS rfl) c19),
      fun S hS => g_fin rfl (g_pass rfl rfl (lt_of rfl) rfl (lt_of rfl) (ov_en hS rfl) c19),
      fun S hS => g_fin rfl (g_op rfl (s_pick_t (v := .d (.lit (.bool true))) (lt_of rfl) (ov_ev hS rfl) c19 rfl rfl)), trivial⟩⟩
    · exact ent_le (le_upd rfl (le_keep ⟨rfl, rfl, rfl, trivial⟩))
   ·have h11 := cond_ff c12 h11
    obtain ⟨x13, h14, h11⟩ := bind_some h11
    obtain ⟨r15, h16, h11⟩ := bind_some h11
    have h11 := Option.some.inj h11
    subst h11
    refine bool_cases (!r15) (fun c19 => ?_) (fun c19 => ?_)
    ·have h18 := cond_tt c19 h18
     have h18 := Option.some.inj h18
     subst h18
     refine ⟨[(9, 0, .bp b2 0 0), (10, 1, .d (.lit (.int .i64 s_2.Job))), (11, 2, .bp b1 0 2), (12, 3, .d (.sl 6 (p_0.Jobs.map encApiJob))), (13, 4, .d (.lit (.int .i64 ((p_0.Jobs.length : Int))))), (14, 5, .d (.lit (.int .i64 ((w64 ((p_0.Jobs.length : Int) - 1)))))), (15, 6, .d (.lit (.bool r3))), (16, 7, .d (.lit (.bool (!r3)))), (17, 8, .d (.lit (.bool (!r3)))), (18, 9, .d (.sl 3 (order_1.map encApiSeat))), (19, 10, .bp b2 0 0), (20, 11, .d (.lit (.int .i64 s_2.Job))), (21, 12, .d (.lit (.bool r8))), (22, 13, .d (.lit (.bool r8))), (23, 14, .d (.lit (.bool (r8)))), (24, 15, .bp b2 0 1), (25, 16, .d (.lit (.int .i64 s_2.Day))), (26, 17, .bp b1 0 0), (27, 18, .d (.sl 1 (p_0.Days.map encSl_ApiSpan))), (28, 19, .d (.lit (.int .i64 ((p_0.Days.length : Int))))), (29, 20, .d (.lit (.int .i64 ((w64 ((p_0.Days.length : Int) - 1)))))), (30, 21, .bp b1 0 2), (31, 22, .d (.sl 6 (p_0.Jobs.map encApiJob))), (32, 23, .bp b2 0 0), (33, 24, .d (.lit (.int .i64 s_2.Job))), (34, 25, .cp [.lit (.int .i64 x13.Length.Low), .lit (.int .i64 x13.Length.High), .sl 1 (x13.After.map encI), .sl 1 (x13.With.map encI), .lit (.int .i64 x13.Due), .lit (.int .i64 x13.Earliest)]), (35, 26, .cp [.lit (.int .i64 x13.Due)]), (36, 27, .d (.lit (.int .i64 x13.Due))), (37, 28, .d (.lit (.int .i64 ((min (w64 ((p_0.Days.length : Int) - 1)) x13.Due))))), (38, 29, .d (.lit (.bool r15))), (39, 30, .d (.lit (.bool (!r15)))), (40, 31, .d (.lit (.bool (!r15)))), (41, 32, .d (.lit (.bool (!r15)))), (42, 33, .tup []), (43, 34, .tup []), (44, 35, .tup []), (45, 36, .tup []), (46, 37, .tup []), (47, 38, .tup []), (48, 39, .tup []), (49, 40, .tup []), (50, 41, .tup []), (51, 42, .tup []), (52, 43, .d (.lit (.bool true)))], ?_, ?_⟩
     · exact ⟨by kernel_rfl, by kernel_rfl, by kernel_rfl, by kernel_rfl, by kernel_rfl, [([], []), ([0], []), ([], []), ([2], []), ([3], []), ([4], []), ([1, 5], []), ([6], []), ([7], []), ([8], []), ([8], []), ([8, 10], []), ([8, 9, 11], []), ([8, 12], []), ([13], []), ([14], []), ([14, 15], []), ([14], []), ([14, 17], []), ([14, 18], []), ([14, 19], []), ([14], []), ([14, 21], []), ([14], []), ([14, 23], []), ([14, 22, 24], []), ([14, 25], []), ([14, 26], []), ([14, 20, 27], []), ([14, 16, 28], []), ([14, 29], []), ([14, 30], []), ([31], []), ([32], []), ([32, 33], []), ([32], []), ([32, 35], []), ([32, 36], []), ([32, 37], []), ([32, 38], []), ([32, 39], []), ([32, 34, 40], []), ([32, 41], []), ([32, 42], [])], by kernel_rfl, ⟨fun S hS => g_fin rfl (g_op rfl (s_field_bp (lt_of rfl) (ov_ev hS rfl) fld_45_0)),
      fun S hS => g_fin rfl (g_op rfl (s_load_bp (lt_of rfl) (ov_ev hS rfl) (i := 1) rfl rfl one_3)),
      fun S hS => g_fin rfl (g_op rfl (s_field_bp (lt_of rfl) (ov_ev hS rfl) fld_25_2)),
      fun S hS => g_fin rfl (g_op rfl (s_load_bp (lt_of rfl) (ov_ev hS rfl) (i := 0) rfl rfl one_23)),
      fun S hS => g_fin rfl (g_op rfl (s_lenm (lt_of rfl) (ov_ev hS rfl) sl_23.of)),
      fun S hS => g_fin rfl (g_op rfl (s_arith (lt_of rfl) (ov_ev hS rfl) rfl rfl)),
      fun S hS => g_fin rfl (g_op rfl (s_call (lt_of rfl) (.func _ _ Try.call46) (ev2 (ov_ev hS rfl) (ev2 rfl (ev2 (ov_ev hS rfl) evn))) rfl (BVs.refl _ _) (deuceref08_within_c _ _ _ h4) rfl)),
      fun S hS => g_fin rfl (g_op rfl (s_not (lt_of rfl) (ov_ev hS rfl))),
      fun S hS => g_fin rfl (g_op rfl (s_move (v := .d (.lit (.bool (!r3)))) (lt_of rfl) (ov_ev hS rfl) rfl)),
      fun S hS => g_fin rfl (g_take rfl rfl (lt_of rfl) (ov_en hS rfl) c7 (s_move (v := .d (.sl 3 (order_1.map encApiSeat))) (lt_of rfl) (ov_ev hS rfl) rfl)),
      fun S hS => g_fin rfl (g_take rfl rfl (lt_of rfl) (ov_en hS rfl) c7 (s_field_bp (lt_of rfl) (ov_ev hS rfl) fld_45_0)),
      fun S hS => g_fin rfl (g_take rfl rfl (lt_of rfl) (ov_en hS rfl) c7 (s_load_bp (lt_of rfl) (ov_ev hS rfl) (i := 1) rfl rfl one_3)),
      fun S hS => g_fin rfl (g_take rfl rfl (lt_of rfl) (ov_en hS rfl) c7 (s_call (lt_of rfl) (.func _ _ Try.call67) (ev2 (ov_ev hS rfl) (ev2 (ov_ev hS rfl) evn)) rfl (BVs.refl _ _) (deuceref08_has_c _ _ h9) rfl)),
      fun S hS => g_fin rfl (g_op rfl (s_pick_f (v := .d (.lit (.bool r8))) (lt_of rfl) (ov_ev hS rfl) c7 (ov_ev hS rfl) rfl)),
      fun S hS => g_fin rfl (g_op rfl (s_move (v := .d (.lit (.bool (r8)))) (lt_of rfl) (ov_ev hS rfl) rfl)),
      fun S hS => g_fin rfl (g_take rfl rfl (lt_of rfl) (ov_en hS rfl) c12 (s_field_bp (lt_of rfl) (ov_ev hS rfl) fld_45_1)),
      fun S hS => g_fin rfl (g_take rfl rfl (lt_of rfl) (ov_en hS rfl) c12 (s_load_bp (lt_of rfl) (ov_ev hS rfl) (i := 1) rfl rfl one_3)),
      fun S hS => g_fin rfl (g_take rfl rfl (lt_of rfl) (ov_en hS rfl) c12 (s_field_bp (lt_of rfl) (ov_ev hS rfl) fld_25_0)),
      fun S hS => g_fin rfl (g_take rfl rfl (lt_of rfl) (ov_en hS rfl) c12 (s_load_bp (lt_of rfl) (ov_ev hS rfl) (i := 0) rfl rfl one_22)),
      fun S hS => g_fin rfl (g_take rfl rfl (lt_of rfl) (ov_en hS rfl) c12 (s_lenm (lt_of rfl) (ov_ev hS rfl) sl_22.of)),
      fun S hS => g_fin rfl (g_take rfl rfl (lt_of rfl) (ov_en hS rfl) c12 (s_arith (lt_of rfl) (ov_ev hS rfl) rfl rfl)),
      fun S hS => g_fin rfl (g_take rfl rfl (lt_of rfl) (ov_en hS rfl) c12 (s_field_bp (lt_of rfl) (ov_ev hS rfl) fld_25_2)),
      fun S hS => g_fin rfl (g_take rfl rfl (lt_of rfl) (ov_en hS rfl) c12 (s_load_bp (lt_of rfl) (ov_ev hS rfl) (i := 0) rfl rfl one_23)),
      fun S hS => g_fin rfl (g_take rfl rfl (lt_of rfl) (ov_en hS rfl) c12 (s_field_bp (lt_of rfl) (ov_ev hS rfl) fld_45_0)),
      fun S hS => g_fin rfl (g_take rfl rfl (lt_of rfl) (ov_en hS rfl) c12 (s_load_bp (lt_of rfl) (ov_ev hS rfl) (i := 1) rfl rfl one_3)),
      fun S hS => g_fin rfl (g_take rfl rfl (lt_of rfl) (ov_en hS rfl) c12 (s_index_sl (lt_of rfl) (ov_ev hS rfl) (ov_ev hS rfl) sl_23.of (idx_map encApiJob h14))),
      fun S hS => g_fin rfl (g_take rfl rfl (lt_of rfl) (ov_en hS rfl) c12 (s_field_cp (lt_of rfl) (ov_ev hS rfl) fld_36_3 (es := [.lit (.int .i64 x13.Due)]) rfl)),
      fun S hS => g_fin rfl (g_take rfl rfl (lt_of rfl) (ov_en hS rfl) c12 (s_load_cp (lt_of rfl) (ov_ev hS rfl) one_3)),
      fun S hS => g_fin rfl (g_take rfl rfl (lt_of rfl) (ov_en hS rfl) c12 (s_min (lt_of rfl) (ov_ev hS rfl) (ov_ev hS rfl))),
      fun S hS => g_fin rfl (g_take rfl rfl (lt_of rfl) (ov_en hS rfl) c12 (s_call (lt_of rfl) (.func _ _ Try.call46) (ev2 (ov_ev hS rfl) (ev2 rfl (ev2 (ov_ev hS rfl) evn))) rfl (BVs.refl _ _) (deuceref08_within_c _ _ _ h16) rfl)),
      fun S hS => g_fin rfl (g_take rfl rfl (lt_of rfl) (ov_en hS rfl) c12 (s_not (lt_of rfl) (ov_ev hS rfl))),
      fun S hS => g_fin rfl (g_op rfl (s_pick_f (v := .d (.lit (.bool (!r15)))) (lt_of rfl) (ov_ev hS rfl) c12 (ov_ev hS rfl) rfl)),
      fun S hS => g_fin rfl (g_op rfl (s_move (v := .d (.lit (.bool (!r15)))) (lt_of rfl) (ov_ev hS rfl) rfl)),
      fun S hS => g_fin rfl (g_pass rfl rfl (lt_of rfl) rfl (lt_of rfl) (ov_en hS rfl) c19),
      fun S hS => g_fin rfl (g_pass rfl rfl (lt_of rfl) rfl (lt_of rfl) (ov_en hS rfl) c19),
      fun S hS => g_fin rfl (g_pass rfl rfl (lt_of rfl) rfl (lt_of rfl) (ov_en hS rfl) c19),
      fun S hS => g_fin rfl (g_pass rfl rfl (lt_of rfl) rfl (lt_of rfl) (ov_en hS rfl) c19),
      fun S hS => g_fin rfl (g_pass rfl rfl (lt_of rfl) rfl (lt_of rfl) (ov_en hS rfl) c19),
      fun S hS => g_fin rfl (g_pass rfl rfl (lt_of rfl) rfl (lt_of rfl) (ov_en hS rfl) c19),
      fun S hS => g_fin rfl (g_pass rfl rfl (lt_of rfl) rfl (lt_of rfl) (ov_en hS rfl) c19),
      fun S hS => g_fin rfl (g_pass rfl rfl (lt_of rfl) rfl (lt_of rfl) (ov_en hS rfl) c19),
      fun S hS => g_fin rfl (g_pass rfl rfl (lt_of rfl) rfl (lt_of rfl) (ov_en hS rfl) c19),
      fun S hS => g_fin rfl (g_pass rfl rfl (lt_of rfl) rfl (lt_of rfl) (ov_en hS rfl) c19),
      fun S hS => g_fin rfl (g_op rfl (s_pick_t (v := .d (.lit (.bool true))) (lt_of rfl) (ov_ev hS rfl) c19 rfl rfl)), trivial⟩⟩
     · exact ent_le (le_upd rfl (le_keep ⟨rfl, rfl, rfl, trivial⟩))
    ·have h18 := cond_ff c19 h18
     obtain ⟨x20, h21, h18⟩ := bind_some h18
     obtain ⟨r22, h23, h18⟩ := bind_some h18
     have h18 := Option.some.inj h18
     subst h18
     refine ⟨[(9, 0, .bp b2 0 0), (10, 1, .d (.lit (.int .i64 s_2.Job))), (11, 2, .bp b1 0 2), (12, 3, .d (.sl 6 (p_0.Jobs.map encApiJob))), (13, 4, .d (.lit (.int .i64 ((p_0.Jobs.length : Int))))), (14, 5, .d (.lit (.int .i64 ((w64 ((p_0.Jobs.length : Int) - 1)))))), (15, 6, .d (.lit (.bool r3))), (16, 7, .d (.lit (.bool (!r3)))), (17, 8, .d (.lit (.bool (!r3)))), (18, 9, .d (.sl 3 (order_1.map encApiSeat))), (19, 10, .bp b2 0 0), (20, 11, .d (.lit (.int .i64 s_2.Job))), (21, 12, .d (.lit (.bool r8))), (22, 13, .d (.lit (.bool r8))), (23, 14, .d (.lit (.bool (r8)))), (24, 15, .bp b2 0 1), (25, 16, .d (.lit (.int .i64 s_2.Day))), (26, 17, .bp b1 0 0), (27, 18, .d (.sl 1 (p_0.Days.map encSl_ApiSpan))), (28, 19, .d (.lit (.int .i64 ((p_0.Days.length : Int))))), (29, 20, .d (.lit (.int .i64 ((w64 ((p_0.Days.length : Int) - 1)))))), (30, 21, .bp b1 0 2), (31, 22, .d (.sl 6 (p_0.Jobs.map encApiJob))), (32, 23, .bp b2 0 0), (33, 24, .d (.lit (.int .i64 s_2.Job))), (34, 25, .cp [.lit (.int .i64 x13.Length.Low), .lit (.int .i64 x13.Length.High), .sl 1 (x13.After.map encI), .sl 1 (x13.With.map encI), .lit (.int .i64 x13.Due), .lit (.int .i64 x13.Earliest)]), (35, 26, .cp [.lit (.int .i64 x13.Due)]), (36, 27, .d (.lit (.int .i64 x13.Due))), (37, 28, .d (.lit (.int .i64 ((min (w64 ((p_0.Days.length : Int) - 1)) x13.Due))))), (38, 29, .d (.lit (.bool r15))), (39, 30, .d (.lit (.bool (!r15)))), (40, 31, .d (.lit (.bool (!r15)))), (41, 32, .d (.lit (.bool (!r15)))), (42, 33, .bp b2 0 2), (43, 34, .d (.lit (.int .i64 s_2.Court))), (44, 35, .bp b1 0 0), (45, 36, .d (.sl 1 (p_0.Days.map encSl_ApiSpan))), (46, 37, .cp [.sl 2 (x20.map encApiSpan)]), (47, 38, .d (.sl 2 (x20.map encApiSpan))), (48, 39, .d (.lit (.int .i64 ((x20.length : Int))))), (49, 40, .d (.lit (.int .i64 ((w64 ((x20.length : Int) - 1)))))), (50, 41, .d (.lit (.bool r22))), (51, 42, .d (.lit (.bool (!r22)))), (52, 43, .d (.lit (.bool (!r22))))], ?_, ?_⟩
     · exact ⟨by kernel_rfl, by kernel_rfl, by kernel_rfl, by kernel_rfl, by kernel_rfl, [([], []), ([0], []), ([], []), ([2], []), ([3], []), ([4], []), ([1, 5], []), ([6], []), ([7], []), ([8], []), ([8], []), ([8, 10], []), ([8, 9, 11], []), ([8, 12], []), ([13], []), ([14], []), ([14, 15], []), ([14], []), ([14, 17], []), ([14, 18], []), ([14, 19], []), ([14], []), ([14, 21], []), ([14], []), ([14, 23], []), ([14, 22, 24], []), ([14, 25], []), ([14, 26], []), ([14, 20, 27], []), ([14, 16, 28], []), ([14, 29], []), ([14, 30], []), ([31], []), ([32], []), ([32, 33], []), ([32], []), ([32, 35], []), ([32, 36], []), ([32, 37], []), ([32, 38], []), ([32, 39], []), ([32, 34, 40], []), ([32, 41], []), ([32, 42], [])], by kernel_rfl, ⟨fun S hS => g_fin rfl (g_op rfl (s_field_bp (lt_of rfl) (ov_ev hS rfl) fld_45_0)),
      fun S hS => g_fin rfl (g_op rfl (s_load_bp (lt_of rfl) (ov_ev hS rfl) (i := 1) rfl rfl one_3)),
      fun S hS => g_fin rfl (g_op rfl (s_field_bp (lt_of rfl) (ov_ev hS rfl) fld_25_2)),
      fun S hS => g_fin rfl (g_op rfl (s_load_bp (lt_of rfl) (ov_ev hS rfl) (i := 0) rfl rfl one_23)),
      fun S hS => g_fin rfl (g_op rfl (s_lenm (lt_of rfl) (ov_ev hS rfl) sl_23.of)),
      fun S hS => g_fin rfl (g_op rfl (s_arith (lt_of rfl) (ov_ev hS rfl) rfl rfl)),
      fun S hS => g_fin rfl (g_op rfl (s_call (lt_of rfl) (.func _ _ Try.call46) (ev2 (ov_ev hS rfl) (ev2 rfl (ev2 (ov_ev hS rfl) evn))) rfl (BVs.refl _ _) (deuceref08_within_c _ _ _ h4) rfl)),
      fun S hS => g_fin rfl (g_op rfl (s_not (lt_of rfl) (ov_ev hS rfl))),
      fun S hS => g_fin rfl (g_op rfl (s_move (v := .d (.lit (.bool (!r3)))) (lt_of rfl) (ov_ev hS rfl) rfl)),
      fun S hS => g_fin rfl (g_take rfl rfl (lt_of rfl) (ov_en hS rfl) c7 (s_move (v := .d (.sl 3 (order_1.map encApiSeat))) (lt_of rfl) (ov_ev hS rfl) rfl)),
      fun S hS => g_fin rfl (g_take rfl rfl (lt_of rfl) (ov_en hS rfl) c7 (s_field_bp (lt_of rfl) (ov_ev hS rfl) fld_45_0)),
      fun S hS => g_fin rfl (g_take rfl rfl (lt_of rfl) (ov_en hS rfl) c7 (s_load_bp (lt_of rfl) (ov_ev hS rfl) (i := 1) rfl rfl one_3)),
      fun S hS => g_fin rfl (g_take rfl rfl (lt_of rfl) (ov_en hS rfl) c7 (s_call (lt_of rfl) (.func _ _ Try.call67) (ev2 (ov_ev hS rfl) (ev2 (ov_ev hS rfl) evn)) rfl (BVs.refl _ _) (deuceref08_has_c _ _ h9) rfl)),
      fun S hS => g_fin rfl (g_op rfl (s_pick_f (v := .d (.lit (.bool r8))) (lt_of rfl) (ov_ev hS rfl) c7 (ov_ev hS rfl) rfl)),
      fun S hS => g_fin rfl (g_op rfl (s_move (v := .d (.lit (.bool (r8)))) (lt_of rfl) (ov_ev hS rfl) rfl)),
      fun S hS => g_fin rfl (g_take rfl rfl (lt_of rfl) (ov_en hS rfl) c12 (s_field_bp (lt_of rfl) (ov_ev hS rfl) fld_45_1)),
      fun S hS => g_fin rfl (g_take rfl rfl (lt_of rfl) (ov_en hS rfl) c12 (s_load_bp (lt_of rfl) (ov_ev hS rfl) (i := 1) rfl rfl one_3)),
      fun S hS => g_fin rfl (g_take rfl rfl (lt_of rfl) (ov_en hS rfl) c12 (s_field_bp (lt_of rfl) (ov_ev hS rfl) fld_25_0)),
      fun S hS => g_fin rfl (g_take rfl rfl (lt_of rfl) (ov_en hS rfl) c12 (s_load_bp (lt_of rfl) (ov_ev hS rfl) (i := 0) rfl rfl one_22)),
      fun S hS => g_fin rfl (g_take rfl rfl (lt_of rfl) (ov_en hS rfl) c12 (s_lenm (lt_of rfl) (ov_ev hS rfl) sl_22.of)),
      fun S hS => g_fin rfl (g_take rfl rfl (lt_of rfl) (ov_en hS rfl) c12 (s_arith (lt_of rfl) (ov_ev hS rfl) rfl rfl)),
      fun S hS => g_fin rfl (g_take rfl rfl (lt_of rfl) (ov_en hS rfl) c12 (s_field_bp (lt_of rfl) (ov_ev hS rfl) fld_25_2)),
      fun S hS => g_fin rfl (g_take rfl rfl (lt_of rfl) (ov_en hS rfl) c12 (s_load_bp (lt_of rfl) (ov_ev hS rfl) (i := 0) rfl rfl one_23)),
      fun S hS => g_fin rfl (g_take rfl rfl (lt_of rfl) (ov_en hS rfl) c12 (s_field_bp (lt_of rfl) (ov_ev hS rfl) fld_45_0)),
      fun S hS => g_fin rfl (g_take rfl rfl (lt_of rfl) (ov_en hS rfl) c12 (s_load_bp (lt_of rfl) (ov_ev hS rfl) (i := 1) rfl rfl one_3)),
      fun S hS => g_fin rfl (g_take rfl rfl (lt_of rfl) (ov_en hS rfl) c12 (s_index_sl (lt_of rfl) (ov_ev hS rfl) (ov_ev hS rfl) sl_23.of (idx_map encApiJob h14))),
      fun S hS => g_fin rfl (g_take rfl rfl (lt_of rfl) (ov_en hS rfl) c12 (s_field_cp (lt_of rfl) (ov_ev hS rfl) fld_36_3 (es := [.lit (.int .i64 x13.Due)]) rfl)),
      fun S hS => g_fin rfl (g_take rfl rfl (lt_of rfl) (ov_en hS rfl) c12 (s_load_cp (lt_of rfl) (ov_ev hS rfl) one_3)),
      fun S hS => g_fin rfl (g_take rfl rfl (lt_of rfl) (ov_en hS rfl) c12 (s_min (lt_of rfl) (ov_ev hS rfl) (ov_ev hS rfl))),
      fun S hS => g_fin rfl (g_take rfl rfl (lt_of rfl) (ov_en hS rfl) c12 (s_call (lt_of rfl) (.func _ _ Try.call46) (ev2 (ov_ev hS rfl) (ev2 rfl (ev2 (ov_ev hS rfl) evn))) rfl (BVs.refl _ _) (deuceref08_within_c _ _ _ h16) rfl)),
      fun S hS => g_fin rfl (g_take rfl rfl (lt_of rfl) (ov_en hS rfl) c12 (s_not (lt_of rfl) (ov_ev hS rfl))),
      fun S hS => g_fin rfl (g_op rfl (s_pick_f (v := .d (.lit (.bool (!r15)))) (lt_of rfl) (ov_ev hS rfl) c12 (ov_ev hS rfl) rfl)),
      fun S hS => g_fin rfl (g_op rfl (s_move (v := .d (.lit (.bool (!r15)))) (lt_of rfl) (ov_ev hS rfl) rfl)),
      fun S hS => g_fin rfl (g_take rfl rfl (lt_of rfl) (ov_en hS rfl) c19 (s_field_bp (lt_of rfl) (ov_ev hS rfl) fld_45_2)),
      fun S hS => g_fin rfl (g_take rfl rfl (lt_of rfl) (ov_en hS rfl) c19 (s_load_bp (lt_of rfl) (ov_ev hS rfl) (i := 1) rfl rfl one_3)),
      fun S hS => g_fin rfl (g_take rfl rfl (lt_of rfl) (ov_en hS rfl) c19 (s_field_bp (lt_of rfl) (ov_ev hS rfl) fld_25_0)),
      fun S hS => g_fin rfl (g_take rfl rfl (lt_of rfl) (ov_en hS rfl) c19 (s_load_bp (lt_of rfl) (ov_ev hS rfl) (i := 0) rfl rfl one_22)),
      fun S hS => g_fin rfl (g_take rfl rfl (lt_of rfl) (ov_en hS rfl) c19 (s_index_sl (lt_of rfl) (ov_ev hS rfl) rfl sl_22.of (idx_map encSl_ApiSpan h21))),
      fun S hS => g_fin rfl (g_take rfl rfl (lt_of rfl) (ov_en hS rfl) c19 (s_load_cp (lt_of rfl) (ov_ev hS rfl) one_37)),
      fun S hS => g_fin rfl (g_take rfl rfl (lt_of rfl) (ov_en hS rfl) c19 (s_lenm (lt_of rfl) (ov_ev hS rfl) sl_37.of)),
      fun S hS => g_fin rfl (g_take rfl rfl (lt_of rfl) (ov_en hS rfl) c19 (s_arith (lt_of rfl) (ov_ev hS rfl) rfl rfl)),
      fun S hS => g_fin rfl (g_take rfl rfl (lt_of rfl) (ov_en hS rfl) c19 (s_call (lt_of rfl) (.func _ _ Try.call46) (ev2 (ov_ev hS rfl) (ev2 rfl (ev2 (ov_ev hS rfl) evn))) rfl (BVs.refl _ _) (deuceref08_within_c _ _ _ h23) rfl)),
      fun S hS => g_fin rfl (g_take rfl rfl (lt_of rfl) (ov_en hS rfl) c19 (s_not (lt_of rfl) (ov_ev hS rfl))),
      fun S hS => g_fin rfl (g_op rfl (s_pick_f (v := .d (.lit (.bool (!r22)))) (lt_of rfl) (ov_ev hS rfl) c19 (ov_ev hS rfl) rfl)), trivial⟩⟩
     · exact ent_le (le_upd rfl (le_keep ⟨rfl, rfl, rfl, trivial⟩))
 ·refine tr_nil ?_
  refine tr_if rfl (fun c24 => ?_) (fun c24 => ?_)
  ·have h := cond_tt c24 h
   refine tr_seq ?_
   refine tr_region ?_
   refine tr1 rfl (s_assign (v := .d (.lit (.bool false))) (lt_of rfl) rfl rfl) ?_
   refine tr_nil ?_
   have h := Option.some.inj h
   subst h
   refine tr_ent (ent_free (ble_keep (l := [6]) ⟨rfl, trivial⟩)) ?_
   exact tr_ret ⟨rfl, _, .one _, rfl, rfl⟩
  ·have h := cond_ff c24 h
   refine tr_skip ?_
   refine tr_seq ?_
   refine tr_seq ?_
   refine tr_region ?_
   refine tr1 rfl (s_assign (v := .d (.lit (.int .i64 0))) (lt_of rfl) rfl rfl) ?_
   refine tr_nil ?_
   refine tr_blk ?_
   refine tr_loopk [1, 3, 5] (fun (s25 : Int) => [(7, .d (.lit (.int .i64 s25)))]) (fun (s25 : Int) => [.box b1 0 (encApiProgram p_0), .box b2 0 (encApiSeat s_2)]) (fun (k : Nat) (s25 : Int) => deuceref08_MayCome_L0 order_1 p_0 s_2 k s25) (fun _ => rfl) (0) h (ent_pick [0, 1] rfl rfl (le_upd rfl (le_keep ⟨rfl, rfl, rfl, trivial⟩))) ?_
   rintro k26 i_0_25 h
   simp only [deuceref08_MayCome_L0] at h
   refine tr_seq ?_
   refine tr_seq ?_
   refine tr_region ?_
   refine tr1 rfl (s_move (v := .d (.lit (.int .i64 i_0_25))) (lt_of rfl) rfl rfl) ?_
   refine tr1 rfl (s_move (v := .d (.sl 3 (order_1.map encApiSeat))) (lt_of rfl) rfl rfl) ?_
   refine tr1 rfl (s_lenm (lt_of rfl) rfl sl_26.of) ?_
   refine tr1 rfl (s_cmp (lt_of rfl) rfl rfl rfl) ?_
   refine tr_nil ?_
   refine tr_if rfl (fun c27 => ?_) (fun c27 => ?_)
   ·have h := cond_tt c27 h
    refine tr_skip ?_
    refine tr_seq ?_
    refine tr_blk ?_
    refine tr_seq ?_
    obtain ⟨x28, h29, h⟩ := bind_some h
    refine tr_drawk mix 7 [1, 3, 5, 7] [(63, .d (.lit (.int .i64 x28.Day))), (65, .d (.lit (.int .i64 s_2.Day)))] ?_ ?_
    ·refine ⟨[(59, 0, .d (.sl 3 (order_1.map encApiSeat))), (60, 1, .d (.lit (.int .i64 i_0_25))), (61, 2, .cp [.lit (.int .i64 x28.Job), .lit (.int .i64 x28.Day), .lit (.int .i64 x28.Court)]), (62, 3, .cp [.lit (.int .i64 x28.Day)]), (63, 4, .d (.lit (.int .i64 x28.Day))), (64, 5, .bp b2 0 1), (65, 6, .d (.lit (.int .i64 s_2.Day)))], ?_, ?_⟩
     · exact ⟨by kernel_rfl, by kernel_rfl, by kernel_rfl, by kernel_rfl, by kernel_rfl, [([], []), ([], []), ([0, 1], []), ([2], []), ([3], []), ([], []), ([5], [])], by kernel_rfl, ⟨fun S hS => g_fin rfl (g_op rfl (s_move (v := .d (.sl 3 (order_1.map encApiSeat))) (lt_of rfl) (ov_ev hS rfl) rfl)),
      fun S hS => g_fin rfl (g_op rfl (s_move (v := .d (.lit (.int .i64 i_0_25))) (lt_of rfl) (ov_ev hS rfl) rfl)),
      fun S hS => g_fin rfl (g_op rfl (s_index_sl (lt_of rfl) (ov_ev hS rfl) (ov_ev hS rfl) sl_26.of (idx_map encApiSeat h29))),
      fun S hS => g_fin rfl (g_op rfl (s_field_cp (lt_of rfl) (ov_ev hS rfl) fld_45_1 (es := [.lit (.int .i64 x28.Day)]) rfl)),
      fun S hS => g_fin rfl (g_op rfl (s_load_cp (lt_of rfl) (ov_ev hS rfl) one_3)),
      fun S hS => g_fin rfl (g_op rfl (s_field_bp (lt_of rfl) (ov_ev hS rfl) fld_45_1)),
      fun S hS => g_fin rfl (g_op rfl (s_load_bp (lt_of rfl) (ov_ev hS rfl) (i := 1) rfl rfl one_3)), trivial⟩⟩
     · exact ent_le (le_upd rfl (le_upd rfl (le_keep ⟨rfl, rfl, rfl, rfl, trivial⟩)))
    ·refine tr1 rfl (s_cmp (lt_of rfl) rfl rfl rfl) ?_
     refine tr_nil ?_
     refine tr_if rfl (fun c30 => ?_) (fun c30 => ?_)
     ·have h := cond_tt c30 h
      refine tr_seq ?_
      refine tr_region ?_
      refine tr1 rfl (s_assign (v := .d (.lit (.bool false))) (lt_of rfl) rfl rfl) ?_
      refine tr_nil ?_
      have h := Option.some.inj h
      subst h
      refine tr_ent (ent_free (ble_keep (l := [6]) ⟨rfl, trivial⟩)) ?_
      exact tr_ret ⟨rfl, _, .one _, rfl, rfl⟩
     ·have h := cond_ff c30 h
      refine tr_skipb ?_
      refine tr_region ?_
      refine tr1 rfl (s_move (v := .d (.lit (.int .i64 i_0_25))) (lt_of rfl) rfl rfl) ?_
      refine tr1 rfl (s_arith (lt_of rfl) rfl rfl rfl) ?_
      refine tr1 rfl (s_assign (v := .d (.lit (.int .i64 ((w64 (i_0_25 + 1)))))) (lt_of rfl) rfl rfl) ?_
      refine tr_nil ?_
      exact ⟨(w64 (i_0_25 + 1)), h, ent_pick [0, 1] rfl rfl (le_upd rfl (le_keep ⟨rfl, rfl, rfl, trivial⟩))⟩
   ·have h := cond_ff c27 h
    refine tr_exit ?_
    refine .inl ⟨rfl, ?_⟩
    simp only [deuceref08_MayCome_K0] at h
    refine tr_seq ?_
    refine tr_seq ?_
    refine tr_region ?_
    refine tr1 rfl (s_assign (v := .d (.lit (.int .i64 0))) (lt_of rfl) rfl rfl) ?_
    refine tr_nil ?_
    refine tr_blk ?_
    refine tr_loopk [1, 3, 5] (fun (s31 : Int) => [(8, .d (.lit (.int .i64 s31)))]) (fun (s31 : Int) => [.box b1 0 (encApiProgram p_0), .box b2 0 (encApiSeat s_2)]) (fun (k : Nat) (s31 : Int) => deuceref08_MayCome_L2 order_1 p_0 s_2 k s31) (fun _ => rfl) (0) h (ent_pick [0, 1] rfl rfl (le_upd rfl (le_keep ⟨rfl, rfl, rfl, trivial⟩))) ?_
    rintro k32 i_2_31 h
    simp only [deuceref08_MayCome_L2] at h
    refine tr_seq ?_
    refine tr_seq ?_
    refine tr_region ?_
    refine tr1 rfl (s_move (v := .d (.lit (.int .i64 i_2_31))) (lt_of rfl) rfl rfl) ?_
    refine tr1 rfl (s_field_bp (lt_of rfl) rfl fld_25_2) ?_
    refine tr1 rfl (s_load_bp (lt_of rfl) rfl (i := 0) rfl rfl one_23) ?_
    refine tr1 rfl (s_field_bp (lt_of rfl) rfl fld_45_0) ?_
    refine tr1 rfl (s_load_bp (lt_of rfl) rfl (i := 1) rfl rfl one_3) ?_
    obtain ⟨x33, h34, h⟩ := bind_some h
    refine tr1 rfl (s_index_sl (lt_of rfl) rfl rfl sl_23.of (idx_map encApiJob h34)) ?_
    refine tr1 rfl (s_field_cp (lt_of rfl) rfl fld_36_1 (es := [.sl 1 (x33.After.map encI)]) rfl) ?_
    refine tr1 rfl (s_load_cp (lt_of rfl) rfl one_27) ?_
    refine tr1 rfl (s_lenm (lt_of rfl) rfl sl_27.of) ?_
    refine tr1 rfl (s_cmp (lt_of rfl) rfl rfl rfl) ?_
    refine tr_nil ?_
    refine tr_if rfl (fun c35 => ?_) (fun c35 => ?_)
    ·have h := cond_tt c35 h
     refine tr_skip ?_
     refine tr_seq ?_
     refine tr_blk ?_
     refine tr_seq ?_
     refine tr_region ?_
     refine tr1 rfl (s_move (v := .d (.sl 3 (order_1.map encApiSeat))) (lt_of rfl) rfl rfl) ?_
     refine tr1 rfl (s_field_bp (lt_of rfl) rfl fld_25_2) ?_
     refine tr1 rfl (s_load_bp (lt_of rfl) rfl (i := 0) rfl rfl one_23) ?_
     refine tr1 rfl (s_field_bp (lt_of rfl) rfl fld_45_0) ?_
     refine tr1 rfl (s_load_bp (lt_of rfl) rfl (i := 1) rfl rfl one_3) ?_
     obtain ⟨x36, h37, h⟩ := bind_some h
     refine tr1 rfl (s_index_sl (lt_of rfl) rfl rfl sl_23.of (idx_map encApiJob h37)) ?_
     refine tr1 rfl (s_field_cp (lt_of rfl) rfl fld_36_1 (es := [.sl 1 (x36.After.map encI)]) rfl) ?_
     refine tr1 rfl (s_load_cp (lt_of rfl) rfl one_27) ?_
     refine tr1 rfl (s_move (v := .d (.lit (.int .i64 i_2_31))) (lt_of rfl) rfl rfl) ?_
     obtain ⟨x38, h39, h⟩ := bind_some h
     refine tr1 rfl (s_index_sl (lt_of rfl) rfl rfl sl_27.of (idx_map encI h39)) ?_
     refine tr1 rfl (s_load_cp (lt_of rfl) rfl one_3) ?_
     obtain ⟨r40, h41, h⟩ := bind_some h
     refine tr1 rfl (s_call (lt_of rfl) (.func _ _ Try.call67) rfl rfl (BVs.refl _ _) (deuceref08_has_c _ _ h41) rfl) ?_
     refine tr1 rfl (s_not (lt_of rfl) rfl) ?_
     refine tr_nil ?_
     refine tr_if rfl (fun c42 => ?_) (fun c42 => ?_)
     ·have h := cond_tt c42 h
      refine tr_seq ?_
      refine tr_region ?_
      refine tr1 rfl (s_assign (v := .d (.lit (.bool false))) (lt_of rfl) rfl rfl) ?_
      refine tr_nil ?_
      have h := Option.some.inj h
      subst h
      refine tr_ent (ent_free (ble_keep (l := [6]) ⟨rfl, trivial⟩)) ?_
      exact tr_ret ⟨rfl, _, .one _, rfl, rfl⟩
     ·have h := cond_ff c42 h
      refine tr_skipb ?_
      refine tr_region ?_
      refine tr1 rfl (s_move (v := .d (.lit (.int .i64 i_2_31))) (lt_of rfl) rfl rfl) ?_
      refine tr1 rfl (s_arith (lt_of rfl) rfl rfl rfl) ?_
      refine tr1 rfl (s_assign (v := .d (.lit (.int .i64 ((w64 (i_2_31 + 1)))))) (lt_of rfl) rfl rfl) ?_
      refine tr_nil ?_
      exact ⟨(w64 (i_2_31 + 1)), h, ent_pick [0, 1] rfl rfl (le_upd rfl (le_keep ⟨rfl, rfl, rfl, trivial⟩))⟩
    ·have h := cond_ff c35 h
     refine tr_exit ?_
     refine .inl ⟨rfl, ?_⟩
     simp only [deuceref08_MayCome_K2] at h
     refine tr_seq ?_
     refine tr_region ?_
     refine tr1 rfl (s_assign (v := .d (.lit (.bool true))) (lt_of rfl) rfl rfl) ?_
     refine tr_nil ?_
     have h := Option.some.inj h
     subst h
     refine tr_ent (ent_free (ble_keep (l := [6]) ⟨rfl, trivial⟩)) ?_
     exact tr_ret ⟨rfl, _, .one _, rfl, rfl⟩

theorem deuceref08_IsOrder_c (p_0 : ApiProgram) (order_1 : List ApiSeat) {r : Bool} (h : deuceref08_IsOrder p_0 order_1 = some r) : Fn Try.prog 15 [.agg (encApiProgram p_0), .d (.sl 3 (order_1.map encApiSeat))] (.d (.lit (.bool r))) := by
 unfold deuceref08_IsOrder at h
 refine Fn.of_tr Try.func15 rfl (rs := [.tmp 4]) Try.results15 Try.ntmps15 (Nat.le_of_ble_eq_true rfl) ?_
 refine tr_seq ?_
 refine tr_region ?_
 refine tr_op rfl (s_box (v := .agg (encApiProgram p_0)) (lt_of rfl) rfl rfl rfl) ?_
 rintro _ ⟨b1, rfl⟩
 refine tr1 rfl (s_assign (v := .d (.lit (.bool false))) (lt_of rfl) rfl rfl) ?_
 refine tr_nil ?_
 refine tr_seq ?_
 refine tr_seq ?_
 refine tr_region ?_
 refine tr1 rfl (s_assign (v := .d (.lit (.int .i64 0))) (lt_of rfl) rfl rfl) ?_
 refine tr_nil ?_
 refine tr_blk ?_
 refine tr_loopk [1, 2] (fun (s2 : Int) => [(5, .d (.lit (.int .i64 s2)))]) (fun (s2 : Int) => [.box b1 0 (encApiProgram p_0)]) (fun (k : Nat) (s2 : Int) => deuceref08_IsOrder_L0 order_1 p_0 k s2) (fun _ => rfl) (0) h (ent_pick [0] rfl rfl (le_upd rfl (le_keep ⟨rfl, rfl, trivial⟩))) ?_
 rintro k3 i_0_2 h
 simp only [deuceref08_IsOrder_L0] at h
 refine tr_seq ?_
 refine tr_seq ?_
 refine tr_region ?_
 refine tr1 rfl (s_move (v := .d (.lit (.int .i64 i_0_2))) (lt_of rfl) rfl rfl) ?_
 refine tr1 rfl (s_move (v := .d (.sl 3 (order_1.map encApiSeat))) (lt_of rfl) rfl rfl) ?_
 refine tr1 rfl (s_lenm (lt_of rfl) rfl sl_26.of) ?_
 refine tr1 rfl (s_cmp (lt_of rfl) rfl rfl rfl) ?_
 refine tr_nil ?_
 refine tr_if rfl (fun c4 => ?_) (fun c4 => ?_)
 ·have h := cond_tt c4 h
  refine tr_skip ?_
  refine tr_seq ?_
  refine tr_blk ?_
  refine tr_seq ?_
  obtain ⟨x5, h6, h⟩ := bind_some h
  obtain ⟨x7, h8, h⟩ := bind_some h
  refine tr_drawk mix 8 [1, 2, 5] [(12, .agg (encApiProgram p_0)), (15, .d (.sl 3 (x5.map encApiSeat))), (19, .agg (encApiSeat x7))] ?_ ?_
  ·refine ⟨[(12, 0, .agg (encApiProgram p_0)), (13, 1, .d (.sl 3 (order_1.map encApiSeat))), (14, 2, .d (.lit (.int .i64 i_0_2))), (15, 3, .d (.sl 3 (x5.map encApiSeat))), (16, 4, .d (.sl 3 (order_1.map encApiSeat))), (17, 5, .d (.lit (.int .i64 i_0_2))), (18, 6, .cp [.lit (.int .i64 x7.Job), .lit (.int .i64 x7.Day), .lit (.int .i64 x7.Court)]), (19, 7, .agg (encApiSeat x7))], ?_, ?_⟩
   · exact ⟨by kernel_rfl, by kernel_rfl, by kernel_rfl, by kernel_rfl, by kernel_rfl, [([], []), ([], []), ([], []), ([1, 2], []), ([], []), ([], []), ([4, 5], []), ([6], [])], by kernel_rfl, ⟨fun S hS => g_fin rfl (g_op rfl (s_loada_bp (lt_of rfl) (ov_ev hS rfl) (i := 0) rfl agg_25 (es := (encApiProgram p_0)) rfl rfl)),
      fun S hS => g_fin rfl (g_op rfl (s_move (v := .d (.sl 3 (order_1.map encApiSeat))) (lt_of rfl) (ov_ev hS rfl) rfl)),
      fun S hS => g_fin rfl (g_op rfl (s_move (v := .d (.lit (.int .i64 i_0_2))) (lt_of rfl) (ov_ev hS rfl) rfl)),
      fun S hS => g_fin rfl (g_op rfl (s_slice_sl (lt_of rfl) sl_26.of (ov_ev hS rfl) rfl (bo (ov_ev hS rfl)) (sub_map encApiSeat h6))),
      fun S hS => g_fin rfl (g_op rfl (s_move (v := .d (.sl 3 (order_1.map encApiSeat))) (lt_of rfl) (ov_ev hS rfl) rfl)),
      fun S hS => g_fin rfl (g_op rfl (s_move (v := .d (.lit (.int .i64 i_0_2))) (lt_of rfl) (ov_ev hS rfl) rfl)),
      fun S hS => g_fin rfl (g_op rfl (s_index_sl (lt_of rfl) (ov_ev hS rfl) (ov_ev hS rfl) sl_26.of (idx_map encApiSeat h8))),
      fun S hS => g_fin rfl (g_op rfl (s_loada_cp (lt_of rfl) (ov_ev hS rfl) agg_45 (es := (encApiSeat x7)) rfl rfl)), trivial⟩⟩
   · exact ent_le (le_upd rfl (le_upd rfl (le_upd rfl (le_keep ⟨rfl, rfl, rfl, trivial⟩))))
  ·obtain ⟨r9, h10, h⟩ := bind_some h
   refine tr1 rfl (s_call (lt_of rfl) (.func _ _ Try.call48) rfl rfl (BVs.refl _ _) (deuceref08_MayCome_c _ _ _ h10) rfl) ?_
   refine tr1 rfl (s_not (lt_of rfl) rfl) ?_
   refine tr_nil ?_
   refine tr_if rfl (fun c11 => ?_) (fun c11 => ?_)
   ·have h := cond_tt c11 h
    refine tr_seq ?_
    refine tr_region ?_
    refine tr1 rfl (s_assign (v := .d (.lit (.bool false))) (lt_of rfl) rfl rfl) ?_
    refine tr_nil ?_
    have h := Option.some.inj h
    subst h
    refine tr_ent (ent_free (ble_keep (l := [4]) ⟨rfl, trivial⟩)) ?_
    exact tr_ret ⟨rfl, _, .one _, rfl, rfl⟩
   ·have h := cond_ff c11 h
    refine tr_skipb ?_
    refine tr_region ?_
    refine tr1 rfl (s_move (v := .d (.lit (.int .i64 i_0_2))) (lt_of rfl) rfl rfl) ?_
    refine tr1 rfl (s_arith (lt_of rfl) rfl rfl rfl) ?_
    refine tr1 rfl (s_assign (v := .d (.lit (.int .i64 ((w64 (i_0_2 + 1)))))) (lt_of rfl) rfl rfl) ?_
    refine tr_nil ?_
    exact ⟨(w64 (i_0_2 + 1)), h, ent_pick [0] rfl rfl (le_upd rfl (le_keep ⟨rfl, rfl, trivial⟩))⟩
 ·have h := cond_ff c4 h
  refine tr_exit ?_
  refine .inl ⟨rfl, ?_⟩
  simp only [deuceref08_IsOrder_K0] at h
  refine tr_seq ?_
  refine tr_region ?_
  refine tr1 rfl (s_move (v := .d (.sl 3 (order_1.map encApiSeat))) (lt_of rfl) rfl rfl) ?_
  refine tr1 rfl (s_lenm (lt_of rfl) rfl sl_26.of) ?_
  refine tr1 rfl (s_field_bp (lt_of rfl) rfl fld_25_2) ?_
  refine tr1 rfl (s_load_bp (lt_of rfl) rfl (i := 0) rfl rfl one_23) ?_
  refine tr1 rfl (s_lenm (lt_of rfl) rfl sl_23.of) ?_
  refine tr1 rfl (s_cmp (lt_of rfl) rfl rfl rfl) ?_
  refine tr1 rfl (s_assign (v := .d (.lit (.bool ((decide ((order_1.length : Int) = (p_0.Jobs.length : Int))))))) (lt_of rfl) rfl rfl) ?_
  refine tr_nil ?_
  have h := Option.some.inj h
  subst h
  refine tr_ent (ent_free (ble_keep (l := [4]) ⟨rfl, trivial⟩)) ?_
  exact tr_ret ⟨rfl, _, .one _, rfl, rfl⟩

theorem deucelaw08_Example_c {r : ApiProgram × (List ApiSeat)} (h : deucelaw08_Example = some r) : Fn Try.prog 49 [] (.tup [.agg (encApiProgram r.1), .d (.sl 3 (r.2.map encApiSeat))]) := by
 unfold deucelaw08_Example at h
 refine acalls_of_trw Try.func49 rfl (rs := [.cell 0 25, .tmp 1]) Try.results49 Try.ntmps49 (Nat.le_of_ble_eq_true rfl) ?_
 refine tr_seq ?_
 refine tr_region ?_
 refine tr_op rfl (s_alloc (zs := [.sl 1 ((([] : List (List ApiSpan))).map encSl_ApiSpan), .lit (.int .i64 0), .sl 6 ((([] : List ApiJob)).map encApiJob)]) (lt_of rfl) Try.zeroValue25 rfl rfl) ?_
 rintro _ ⟨b1, rfl⟩
 refine tr1 rfl (s_nil 3 (lt_of rfl)) ?_
 refine tr_nil ?_
 refine tr_seq ?_
 refine tr_region ?_
 refine tr1 rfl (s_build (lt_of rfl) stu_34 (zs := [.lit (.int .i64 0), .lit (.int .i64 0)]) rfl rfl rfl rfl (es := [.lit (.int .i64 60), .lit (.int .i64 120)]) rfl) ?_
 refine tr1 rfl (s_build (lt_of rfl) stu_34 (zs := [.lit (.int .i64 0), .lit (.int .i64 0)]) rfl rfl rfl rfl (es := [.lit (.int .i64 60), .lit (.int .i64 100)]) rfl) ?_
 refine tr_op rfl (s_alloc (zs := [.lit (.int .i64 0), .lit (.int .i64 0)]) (lt_of rfl) Try.zeroValue34 rfl rfl) ?_
 rintro _ ⟨b2, rfl⟩
 refine tr_op rfl (s_alloc (zs := [.lit (.int .i64 0), .lit (.int .i64 0)]) (lt_of rfl) Try.zeroValue34 rfl rfl) ?_
 rintro _ ⟨b3, rfl⟩
 refine tr1 rfl (s_store_bp (i := 1) rfl rfl rfl rfl rfl Try.sizeOf34 rfl (lt_of rfl) (Nat.le_of_ble_eq_true rfl) (ds' := (encApiSpan (ApiSpan.mk 60 120))) rfl) ?_
 refine tr1 rfl (s_store_bp (i := 2) rfl rfl rfl rfl rfl Try.sizeOf34 rfl (lt_of rfl) (Nat.le_of_ble_eq_true rfl) (ds' := (encApiSpan (ApiSpan.mk 60 100))) rfl) ?_
 refine tr_nil ?_
 refine tr_seq ?_
 refine tr_region ?_
 refine tr1 rfl (s_build (lt_of rfl) stu_34 (zs := [.lit (.int .i64 0), .lit (.int .i64 0)]) rfl rfl rfl rfl (es := [.lit (.int .i64 600), .lit (.int .i64 900)]) rfl) ?_
 refine tr1 rfl (s_build (lt_of rfl) stu_34 (zs := [.lit (.int .i64 0), .lit (.int .i64 0)]) rfl rfl rfl rfl (es := [.lit (.int .i64 600), .lit (.int .i64 780)]) rfl) ?_
 refine tr1 rfl (s_lit_sl (lt_of rfl) sl_37 rfl rfl (rows := ([(ApiSpan.mk 600 900), (ApiSpan.mk 600 780)]).map encApiSpan) rfl (map_len (f := encApiSpan) fun _ => rfl) rfl (by decide)) ?_
 refine tr1 rfl (s_build (lt_of rfl) stu_34 (zs := [.lit (.int .i64 0), .lit (.int .i64 0)]) rfl rfl rfl rfl (es := [.lit (.int .i64 600), .lit (.int .i64 800)]) rfl) ?_
 refine tr1 rfl (s_build (lt_of rfl) stu_34 (zs := [.lit (.int .i64 0), .lit (.int .i64 0)]) rfl rfl rfl rfl (es := [.lit (.int .i64 600), .lit (.int .i64 600)]) rfl) ?_
 refine tr1 rfl (s_lit_sl (lt_of rfl) sl_37 rfl rfl (rows := ([(ApiSpan.mk 600 800), (ApiSpan.mk 600 600)]).map encApiSpan) rfl (map_len (f := encApiSpan) fun _ => rfl) rfl (by decide)) ?_
 refine tr1 rfl (s_lit_sl (lt_of rfl) sl_22 rfl rfl (rows := ([[(ApiSpan.mk 600 900), (ApiSpan.mk 600 780)], [(ApiSpan.mk 600 800), (ApiSpan.mk 600 600)]]).map encSl_ApiSpan) rfl (map_len (f := encSl_ApiSpan) fun _ => rfl) rfl (by decide)) ?_
 refine tr1 rfl (s_loada_bp (lt_of rfl) rfl (i := 1) rfl agg_34 (es := (encApiSpan (ApiSpan.mk 60 120))) rfl rfl) ?_
 refine tr1 rfl (s_build (lt_of rfl) stu_36 (zs := [.lit (.int .i64 0), .lit (.int .i64 0), .sl 1 ((([] : List Int)).map encI), .sl 1 ((([] : List Int)).map encI), .lit (.int .i64 0), .lit (.int .i64 0)]) rfl rfl rfl rfl (es := [.lit (.int .i64 60), .lit (.int .i64 120), .sl 1 ((([] : List Int)).map encI), .sl 1 ((([] : List Int)).map encI), .lit (.int .i64 1), .lit (.int .i64 0)]) rfl) ?_
 refine tr1 rfl (s_loada_bp (lt_of rfl) rfl (i := 2) rfl agg_34 (es := (encApiSpan (ApiSpan.mk 60 100))) rfl rfl) ?_
 refine tr1 rfl (s_build (lt_of rfl) stu_36 (zs := [.lit (.int .i64 0), .lit (.int .i64 0), .sl 1 ((([] : List Int)).map encI), .sl 1 ((([] : List Int)).map encI), .lit (.int .i64 0), .lit (.int .i64 0)]) rfl rfl rfl rfl (es := [.lit (.int .i64 60), .lit (.int .i64 100), .sl 1 ((([] : List Int)).map encI), .sl 1 ((([] : List Int)).map encI), .lit (.int .i64 1), .lit (.int .i64 0)]) rfl) ?_
 refine tr1 rfl (s_build (lt_of rfl) stu_34 (zs := [.lit (.int .i64 0), .lit (.int .i64 0)]) rfl rfl rfl rfl (es := [.lit (.int .i64 90), .lit (.int .i64 150)]) rfl) ?_
 refine tr1 rfl (s_lit_sl (lt_of rfl) sl_27 rfl rfl (rows := ([0, 1]).map encI) rfl (map_len (f := encI) fun _ => rfl) rfl (by decide)) ?_
 refine tr1 rfl (s_build (lt_of rfl) stu_36 (zs := [.lit (.int .i64 0), .lit (.int .i64 0), .sl 1 ((([] : List Int)).map encI), .sl 1 ((([] : List Int)).map encI), .lit (.int .i64 0), .lit (.int .i64 0)]) rfl rfl rfl rfl (es := [.lit (.int .i64 90), .lit (.int .i64 150), .sl 1 ((([0, 1])).map encI), .sl 1 ((([] : List Int)).map encI), .lit (.int .i64 1), .lit (.int .i64 0)]) rfl) ?_
 refine tr1 rfl (s_lit_sl (lt_of rfl) sl_23 rfl rfl (rows := ([(ApiJob.mk (ApiSpan.mk 60 120) ([] : List Int) ([] : List Int) 1 0), (ApiJob.mk (ApiSpan.mk 60 100) ([] : List Int) ([] : List Int) 1 0), (ApiJob.mk (ApiSpan.mk 90 150) ([0, 1]) ([] : List Int) 1 0)]).map encApiJob) rfl (map_len (f := encApiJob) fun _ => rfl) rfl (by decide)) ?_
 refine tr1 rfl (s_build (lt_of rfl) stu_25 (zs := [.sl 1 ((([] : List (List ApiSpan))).map encSl_ApiSpan), .lit (.int .i64 0), .sl 6 ((([] : List ApiJob)).map encApiJob)]) rfl rfl rfl rfl (es := [.sl 1 ((([[(ApiSpan.mk 600 900), (ApiSpan.mk 600 780)], [(ApiSpan.mk 600 800), (ApiSpan.mk 600 600)]])).map encSl_ApiSpan), .lit (.int .i64 30), .sl 6 ((([(ApiJob.mk (ApiSpan.mk 60 120) ([] : List Int) ([] : List Int) 1 0), (ApiJob.mk (ApiSpan.mk 60 100) ([] : List Int) ([] : List Int) 1 0), (ApiJob.mk (ApiSpan.mk 90 150) ([0, 1]) ([] : List Int) 1 0)])).map encApiJob)]) rfl) ?_
 refine tr1 rfl (s_build (lt_of rfl) stu_45 (zs := [.lit (.int .i64 0), .lit (.int .i64 0), .lit (.int .i64 0)]) rfl rfl rfl rfl (es := [.lit (.int .i64 0), .lit (.int .i64 0), .lit (.int .i64 0)]) rfl) ?_
 refine tr1 rfl (s_build (lt_of rfl) stu_45 (zs := [.lit (.int .i64 0), .lit (.int .i64 0), .lit (.int .i64 0)]) rfl rfl rfl rfl (es := [.lit (.int .i64 1), .lit (.int .i64 0), .lit (.int .i64 1)]) rfl) ?_
 refine tr1 rfl (s_build (lt_of rfl) stu_45 (zs := [.lit (.int .i64 0), .lit (.int .i64 0), .lit (.int .i64 0)]) rfl rfl rfl rfl (es := [.lit (.int .i64 2), .lit (.int .i64 0), .lit (.int .i64 0)]) rfl) ?_
 refine tr1 rfl (s_lit_sl (lt_of rfl) sl_26 rfl rfl (rows := ([(ApiSeat.mk 0 0 0), (ApiSeat.mk 1 0 1), (ApiSeat.mk 2 0 0)]).map encApiSeat) rfl (map_len (f := encApiSeat) fun _ => rfl) rfl (by decide)) ?_
 refine tr1 rfl (s_store_bp (i := 0) rfl rfl rfl rfl rfl Try.sizeOf25 rfl (lt_of rfl) (Nat.le_of_ble_eq_true rfl) (ds' := (encApiProgram (ApiProgram.mk ([[(ApiSpan.mk 600 900), (ApiSpan.mk 600 780)], [(ApiSpan.mk 600 800), (ApiSpan.mk 600 600)]]) 30 ([(ApiJob.mk (ApiSpan.mk 60 120) ([] : List Int) ([] : List Int) 1 0), (ApiJob.mk (ApiSpan.mk 60 100) ([] : List Int) ([] : List Int) 1 0), (ApiJob.mk (ApiSpan.mk 90 150) ([0, 1]) ([] : List Int) 1 0)])))) rfl) ?_
 refine tr1 rfl (s_assign (v := .d (.sl 3 ((([(ApiSeat.mk 0 0 0), (ApiSeat.mk 1 0 1), (ApiSeat.mk 2 0 0)])).map encApiSeat))) (lt_of rfl) rfl rfl) ?_
 refine tr_nil ?_
 have h := Option.some.inj h
 subst h
 exact tr_ret ⟨rfl, _, [.box b1 0 (encApiProgram (ApiProgram.mk ([[(ApiSpan.mk 600 900), (ApiSpan.mk 600 780)], [(ApiSpan.mk 600 800), (ApiSpan.mk 600 600)]]) 30 ([(ApiJob.mk (ApiSpan.mk 60 120) ([] : List Int) ([] : List Int) 1 0), (ApiJob.mk (ApiSpan.mk 60 100) ([] : List Int) ([] : List Int) 1 0), (ApiJob.mk (ApiSpan.mk 90 150) ([0, 1]) ([] : List Int) 1 0)]))), .box b2 0 (encApiSpan (ApiSpan.mk 60 120)), .box b3 0 (encApiSpan (ApiSpan.mk 60 100))], .two (.cell 0 25 rfl (i := 0) rfl agg_25 (es := (encApiProgram (ApiProgram.mk ([[(ApiSpan.mk 600 900), (ApiSpan.mk 600 780)], [(ApiSpan.mk 600 800), (ApiSpan.mk 600 600)]]) 30 ([(ApiJob.mk (ApiSpan.mk 60 120) ([] : List Int) ([] : List Int) 1 0), (ApiJob.mk (ApiSpan.mk 60 100) ([] : List Int) ([] : List Int) 1 0), (ApiJob.mk (ApiSpan.mk 90 150) ([0, 1]) ([] : List Int) 1 0)])))) rfl rfl) (.tmp 1 (v := .d (.sl 3 ((([(ApiSeat.mk 0 0 0), (ApiSeat.mk 1 0 1), (ApiSeat.mk 2 0 0)])).map encApiSeat))) rfl), .refl _, .same _⟩

theorem play_within_c (n_0 : Int) (low_1 : Int) (high_2 : Int) {r : Bool} (h : play_within n_0 low_1 high_2 = some r) : Fn Try.prog 57 [.d (.lit (.int .i64 n_0)), .d (.lit (.int .i64 low_1)), .d (.lit (.int .i64 high_2))] (.d (.lit (.bool r))) := by
 unfold play_within at h
 refine Fn.of_tr Try.func57 rfl (rs := [.tmp 6]) Try.results57 Try.ntmps57 (Nat.le_of_ble_eq_true rfl) ?_
 refine tr_seq ?_
 refine tr_region ?_
 refine tr1 rfl (s_assign (v := .d (.lit (.bool false))) (lt_of rfl) rfl rfl) ?_
 refine tr_nil ?_
 refine tr_seq ?_
 refine tr_region ?_
 refine tr1 rfl (s_move (v := .d (.lit (.int .i64 low_1))) (lt_of rfl) rfl rfl) ?_
 refine tr1 rfl (s_move (v := .d (.lit (.int .i64 n_0))) (lt_of rfl) rfl rfl) ?_
 refine tr1 rfl (s_cmp (lt_of rfl) rfl rfl rfl) ?_
 refine tr1 rfl (s_move (v := .d (.lit (.bool ((decide (low_1 ≤ n_0)))))) (lt_of rfl) rfl rfl) ?_
 obtain ⟨b1, h2, h⟩ := bind_some h
 refine tr_guard 4 [] 14 b1 ?_ ?_
 ·refine bool_cases (decide (low_1 ≤ n_0)) (fun c3 => ?_) (fun c3 => ?_)
  ·have h2 := cond_tt c3 h2
   refine tr_take1 rfl rfl (lt_of rfl) rfl c3 (s_move (v := .d (.lit (.int .i64 n_0))) (lt_of rfl) rfl rfl) ?_
   refine tr_take1 rfl rfl (lt_of rfl) rfl c3 (s_move (v := .d (.lit (.int .i64 high_2))) (lt_of rfl) rfl rfl) ?_
   refine tr_take1 rfl rfl (lt_of rfl) rfl c3 (s_cmp (lt_of rfl) rfl rfl rfl) ?_
   refine tr1 rfl (s_pick_t (v := .d (.lit (.bool ((decide (n_0 ≤ high_2)))))) (lt_of rfl) rfl c3 rfl rfl) ?_
   have h2 := Option.some.inj h2
   subst h2
   refine tr_nil (ent_keep rfl trivial rfl)
  ·have h2 := cond_ff c3 h2
   refine tr_pass rfl rfl (lt_of rfl) rfl (lt_of rfl) rfl c3 ?_
   refine tr_pass rfl rfl (lt_of rfl) rfl (lt_of rfl) rfl c3 ?_
   refine tr_pass rfl rfl (lt_of rfl) rfl (lt_of rfl) rfl c3 ?_
   refine tr1 rfl (s_pick_f (v := .d (.lit (.bool false))) (lt_of rfl) rfl c3 rfl rfl) ?_
   have h2 := Option.some.inj h2
   subst h2
   refine tr_nil (ent_keep rfl trivial rfl)
 ·refine tr1 rfl (s_assign (v := .d (.lit (.bool b1))) (lt_of rfl) rfl rfl) ?_
  refine tr_nil ?_
  have h := Option.some.inj h
  subst h
  exact tr_ret ⟨rfl, _, .one _, rfl, rfl⟩

theorem slices_IndexFunc_api_Span_c (s_0 : List ApiSpan) (f_1 : ApiSpan → Option Bool) {r : Int} (f_1_f : Nat) (f_1_v : List AV) (f_1_e : ∀ args w, (callFunc f_1_f args).run Try.prog w = .ok (.enter f_1_f args) w) (f_1_h : ∀ (x0 : ApiSpan) r, f_1 x0 = some r → Fn Try.prog f_1_f ([.agg (encApiSpan x0)] ++ f_1_v) (.d (.lit (.bool r)))) (h : slices_IndexFunc_api_Span s_0 f_1 = some r) : Fn Try.prog 89 [.d (.sl 2 (s_0.map encApiSpan)), .fn f_1_f f_1_v] (.d (.lit (.int .i64 r))) := by
 unfold slices_IndexFunc_api_Span at h
 refine Fn.of_tr Try.func89 rfl (rs := [.tmp 4]) Try.results89 Try.ntmps89 (Nat.le_of_ble_eq_true rfl) ?_
 refine tr_seq ?_
 refine tr_region ?_
 refine tr1 rfl (s_assign (v := .d (.lit (.int .i64 0))) (lt_of rfl) rfl rfl) ?_
 refine tr_nil ?_
 refine tr_seq ?_
 refine tr_seq ?_
 refine tr_region ?_
 refine tr1 rfl (s_move (v := .d (.sl 2 (s_0.map encApiSpan))) (lt_of rfl) rfl rfl) ?_
 refine tr1 rfl (s_lenm (lt_of rfl) rfl sl_37.of) ?_
 refine tr1 rfl (s_move (v := .d (.lit (.int .i64 0))) (lt_of rfl) rfl rfl) ?_
 refine tr_nil ?_
 refine tr_blk ?_
 refine tr_loopk [0, 1, 7] (fun (s1 : Int) => [(8, .d (.lit (.int .i64 s1)))]) (fun (s1 : Int) => []) (fun (k : Nat) (s1 : Int) => slices_IndexFunc_api_Span_L0 s_0 f_1 (s_0.length : Int) k s1) (fun _ => rfl) (0) h (ent_pick [] rfl rfl (le_upd rfl (le_keep ⟨rfl, rfl, rfl, trivial⟩))) ?_
 rintro k2 t8_0_1 h
 simp only [slices_IndexFunc_api_Span_L0] at h
 refine tr_seq ?_
 refine tr_region ?_
 refine tr1 rfl (s_cmp (lt_of rfl) rfl rfl rfl) ?_
 refine tr_nil ?_
 refine tr_seq ?_
 refine tr_if rfl (fun c3 => ?_) (fun c3 => ?_)
 ·have h := cond_tt c3 h
  refine tr_skip ?_
  refine tr_seq ?_
  refine tr_blk ?_
  refine tr_seq ?_
  refine tr_region ?_
  refine tr1 rfl (s_move (v := .d (.lit (.int .i64 t8_0_1))) (lt_of rfl) rfl rfl) ?_
  refine tr1 rfl (s_assign (v := .d (.lit (.int .i64 t8_0_1))) (lt_of rfl) rfl rfl) ?_
  refine tr_nil ?_
  refine tr_seq ?_
  refine tr_region ?_
  refine tr1 rfl (s_move (v := .fn f_1_f f_1_v) (lt_of rfl) rfl rfl) ?_
  refine tr1 rfl (s_move (v := .d (.sl 2 (s_0.map encApiSpan))) (lt_of rfl) rfl rfl) ?_
  refine tr1 rfl (s_move (v := .d (.lit (.int .i64 t8_0_1))) (lt_of rfl) rfl rfl) ?_
  obtain ⟨x4, h5, h⟩ := bind_some h
  refine tr1 rfl (s_index_sl (lt_of rfl) rfl rfl sl_37.of (idx_map encApiSpan h5)) ?_
  refine tr1 rfl (s_loada_cp (lt_of rfl) rfl agg_34 (es := (encApiSpan x4)) rfl rfl) ?_
  obtain ⟨r6, h7, h⟩ := bind_some h
  refine tr1 rfl (s_call (lt_of rfl) (.clo _ _ _ _ f_1_e rfl) (evap rfl) rfl (BVs.refl _ _) (f_1_h _ _  h7) rfl) ?_
  refine tr_nil ?_
  refine tr_if rfl (fun c8 => ?_) (fun c8 => ?_)
  ·have h := cond_tt c8 h
   refine tr_seq ?_
   refine tr_region ?_
   refine tr1 rfl (s_move (v := .d (.lit (.int .i64 t8_0_1))) (lt_of rfl) rfl rfl) ?_
   refine tr1 rfl (s_assign (v := .d (.lit (.int .i64 t8_0_1))) (lt_of rfl) rfl rfl) ?_
   refine tr_nil ?_
   have h := Option.some.inj h
   subst h
   exact tr_ret ⟨rfl, _, .one _, rfl, rfl⟩
  ·have h := cond_ff c8 h
   refine tr_skipb ?_
   refine tr_region ?_
   refine tr1 rfl (s_arith (lt_of rfl) rfl rfl rfl) ?_
   refine tr1 rfl (s_move (v := .d (.lit (.int .i64 ((w64 (t8_0_1 + 1)))))) (lt_of rfl) rfl rfl) ?_
   refine tr_nil ?_
   exact ⟨(w64 (t8_0_1 + 1)), h, ent_pick [] rfl rfl (le_upd rfl (le_keep ⟨rfl, rfl, rfl, trivial⟩))⟩
 ·have h := cond_ff c3 h
  refine tr_exit ?_
  refine .inl ⟨rfl, ?_⟩
  simp only [slices_IndexFunc_api_Span_K0] at h
  refine tr_seq ?_
  refine tr_region ?_
  refine tr1 rfl (s_assign (v := .d (.lit (.int .i64 (-1)))) (lt_of rfl) rfl rfl) ?_
  refine tr_nil ?_
  have h := Option.some.inj h
  subst h
  exact tr_ret ⟨rfl, _, .one _, rfl, rfl⟩

theorem slices_ContainsFunc_api_Span_c (s_0 : List ApiSpan) (f_1 : ApiSpan → Option Bool) {r : Bool} (f_1_f : Nat) (f_1_v : List AV) (f_1_e : ∀ args w, (callFunc f_1_f args).run Try.prog w = .ok (.enter f_1_f args) w) (f_1_h : ∀ (x0 : ApiSpan) r, f_1 x0 = some r → Fn Try.prog f_1_f ([.agg (encApiSpan x0)] ++ f_1_v) (.d (.lit (.bool r)))) (h : slices_ContainsFunc_api_Span s_0 f_1 = some r) : Fn Try.prog 58 [.d (.sl 2 (s_0.map encApiSpan)), .fn f_1_f f_1_v] (.d (.lit (.bool r))) := by
 unfold slices_ContainsFunc_api_Span at h
 refine Fn.of_tr Try.func58 rfl (rs := [.tmp 4]) Try.results58 Try.ntmps58 (Nat.le_of_ble_eq_true rfl) ?_
 refine tr_seq ?_
 refine tr_region ?_
 refine tr1 rfl (s_assign (v := .d (.lit (.bool false))) (lt_of rfl) rfl rfl) ?_
 refine tr_nil ?_
 refine tr_seq ?_
 refine tr_region ?_
 refine tr1 rfl (s_move (v := .d (.sl 2 (s_0.map encApiSpan))) (lt_of rfl) rfl rfl) ?_
 refine tr1 rfl (s_move (v := .fn f_1_f f_1_v) (lt_of rfl) rfl rfl) ?_
 obtain ⟨r1, h2, h⟩ := bind_some h
 refine tr1 rfl (s_call (lt_of rfl) (.func _ _ Try.call89) rfl rfl (BVs.refl _ _) (slices_IndexFunc_api_Span_c _ _ f_1_f f_1_v f_1_e f_1_h h2) rfl) ?_
 refine tr1 rfl (s_cmp (lt_of rfl) rfl rfl rfl) ?_
 refine tr1 rfl (s_assign (v := .d (.lit (.bool ((decide (0 ≤ r1)))))) (lt_of rfl) rfl rfl) ?_
 refine tr_nil ?_
 have h := Option.some.inj h
 subst h
 exact tr_ret ⟨rfl, _, .one _, rfl, rfl⟩

theorem play_isSpan_c (s_0 : ApiSpan) (low_1 : Int) (high_2 : Int) {r : Bool} (h : play_isSpan s_0 low_1 high_2 = some r) : Fn Try.prog 60 [.agg (encApiSpan s_0), .d (.lit (.int .i64 low_1)), .d (.lit (.int .i64 high_2))] (.d (.lit (.bool r))) := by
 unfold play_isSpan at h
 refine Fn.of_tr Try.func60 rfl (rs := [.tmp 6]) Try.results60 Try.ntmps60 (Nat.le_of_ble_eq_true rfl) ?_
 refine tr_seq ?_
 refine tr_region ?_
 refine tr_op rfl (s_box (v := .agg (encApiSpan s_0)) (lt_of rfl) rfl rfl rfl) ?_
 rintro _ ⟨b1, rfl⟩
 refine tr1 rfl (s_assign (v := .d (.lit (.bool false))) (lt_of rfl) rfl rfl) ?_
 refine tr_nil ?_
 refine tr_seq ?_
 refine tr_region ?_
 refine tr1 rfl (s_field_bp (lt_of rfl) rfl fld_34_0) ?_
 refine tr1 rfl (s_load_bp (lt_of rfl) rfl (i := 0) rfl rfl one_3) ?_
 refine tr1 rfl (s_field_bp (lt_of rfl) rfl fld_34_1) ?_
 refine tr1 rfl (s_load_bp (lt_of rfl) rfl (i := 0) rfl rfl one_3) ?_
 refine tr1 rfl (s_cmp (lt_of rfl) rfl rfl rfl) ?_
 refine tr1 rfl (s_move (v := .d (.lit (.bool ((decide (s_0.Low ≤ s_0.High)))))) (lt_of rfl) rfl rfl) ?_
 obtain ⟨b2, h3, h⟩ := bind_some h
 refine tr_guard 6 [1, 2, 3] 18 b2 ?_ ?_
 ·refine bool_cases (decide (s_0.Low ≤ s_0.High)) (fun c9 => ?_) (fun c9 => ?_)
  ·have h3 := cond_tt c9 h3
   refine tr_take1 rfl rfl (lt_of rfl) rfl c9 (s_field_bp (lt_of rfl) rfl fld_34_0) ?_
   refine tr_take1 rfl rfl (lt_of rfl) rfl c9 (s_load_bp (lt_of rfl) rfl (i := 0) rfl rfl one_3) ?_
   refine tr_take1 rfl rfl (lt_of rfl) rfl c9 (s_move (v := .d (.lit (.int .i64 low_1))) (lt_of rfl) rfl rfl) ?_
   refine tr_take1 rfl rfl (lt_of rfl) rfl c9 (s_move (v := .d (.lit (.int .i64 high_2))) (lt_of rfl) rfl rfl) ?_
   obtain ⟨r10, h11, h3⟩ := bind_some h3
   refine tr_take1 rfl rfl (lt_of rfl) rfl c9 (s_call (lt_of rfl) (.func _ _ Try.call57) rfl rfl (BVs.refl _ _) (play_within_c _ _ _ h11) rfl) ?_
   refine tr1 rfl (s_pick_t (v := .d (.lit (.bool r10))) (lt_of rfl) rfl c9 rfl rfl) ?_
   have h3 := Option.some.inj h3
   subst h3
   refine tr_nil (ent_keep rfl ⟨rfl, rfl, rfl, trivial⟩ rfl)
  ·have h3 := cond_ff c9 h3
   refine tr_pass rfl rfl (lt_of rfl) rfl (lt_of rfl) rfl c9 ?_
   refine tr_pass rfl rfl (lt_of rfl) rfl (lt_of rfl) rfl c9 ?_
   refine tr_pass rfl rfl (lt_of rfl) rfl (lt_of rfl) rfl c9 ?_
   refine tr_pass rfl rfl (lt_of rfl) rfl (lt_of rfl) rfl c9 ?_
   refine tr_pass rfl rfl (lt_of rfl) rfl (lt_of rfl) rfl c9 ?_
   refine tr1 rfl (s_pick_f (v := .d (.lit (.bool false))) (lt_of rfl) rfl c9 rfl rfl) ?_
   have h3 := Option.some.inj h3
   subst h3
   refine tr_nil (ent_keep rfl ⟨rfl, rfl, rfl, trivial⟩ rfl)
 ·refine tr1 rfl (s_move (v := .d (.lit (.bool b2))) (lt_of rfl) rfl rfl) ?_
  obtain ⟨b4, h5, h⟩ := bind_some h
  refine tr_guard 6 [] 25 b4 ?_ ?_
  ·refine bool_cases (b2) (fun c6 => ?_) (fun c6 => ?_)
   ·have h5 := cond_tt c6 h5
    refine tr_take1 rfl rfl (lt_of rfl) rfl c6 (s_field_bp (lt_of rfl) rfl fld_34_1) ?_
    refine tr_take1 rfl rfl (lt_of rfl) rfl c6 (s_load_bp (lt_of rfl) rfl (i := 0) rfl rfl one_3) ?_
    refine tr_take1 rfl rfl (lt_of rfl) rfl c6 (s_move (v := .d (.lit (.int .i64 low_1))) (lt_of rfl) rfl rfl) ?_
    refine tr_take1 rfl rfl (lt_of rfl) rfl c6 (s_move (v := .d (.lit (.int .i64 high_2))) (lt_of rfl) rfl rfl) ?_
    obtain ⟨r7, h8, h5⟩ := bind_some h5
    refine tr_take1 rfl rfl (lt_of rfl) rfl c6 (s_call (lt_of rfl) (.func _ _ Try.call57) rfl rfl (BVs.refl _ _) (play_within_c _ _ _ h8) rfl) ?_
    refine tr1 rfl (s_pick_t (v := .d (.lit (.bool r7))) (lt_of rfl) rfl c6 rfl rfl) ?_
    have h5 := Option.some.inj h5
    subst h5
    refine tr_nil (ent_keep rfl trivial rfl)
   ·have h5 := cond_ff c6 h5
    refine tr_pass rfl rfl (lt_of rfl) rfl (lt_of rfl) rfl c6 ?_
    refine tr_pass rfl rfl (lt_of rfl) rfl (lt_of rfl) rfl c6 ?_
    refine tr_pass rfl rfl (lt_of rfl) rfl (lt_of rfl) rfl c6 ?_
    refine tr_pass rfl rfl (lt_of rfl) rfl (lt_of rfl) rfl c6 ?_
    refine tr_pass rfl rfl (lt_of rfl) rfl (lt_of rfl) rfl c6 ?_
    refine tr1 rfl (s_pick_f (v := .d (.lit (.bool false))) (lt_of rfl) rfl c6 rfl rfl) ?_
    have h5 := Option.some.inj h5
    subst h5
    refine tr_nil (ent_keep rfl trivial rfl)
  ·refine tr1 rfl (s_assign (v := .d (.lit (.bool b4))) (lt_of rfl) rfl rfl) ?_
   refine tr_nil ?_
   have h := Option.some.inj h
   subst h
   refine tr_ent (ent_free (ble_keep (l := [6]) ⟨rfl, trivial⟩)) ?_
   exact tr_ret ⟨rfl, _, .one _, rfl, rfl⟩

theorem play_Check_1_c (s_0 : ApiSpan) {r : Bool} (h : play_Check_1 s_0 = some r) : Fn Try.prog 59 [.agg (encApiSpan s_0)] (.d (.lit (.bool r))) := by
 unfold play_Check_1 at h
 refine Fn.of_tr Try.func59 rfl (rs := [.tmp 2]) Try.results59 Try.ntmps59 (Nat.le_of_ble_eq_true rfl) ?_
 refine tr_seq ?_
 refine tr_region ?_
 refine tr_op rfl (s_box (v := .agg (encApiSpan s_0)) (lt_of rfl) rfl rfl rfl) ?_
 rintro _ ⟨b1, rfl⟩
 refine tr1 rfl (s_assign (v := .d (.lit (.bool false))) (lt_of rfl) rfl rfl) ?_
 refine tr_nil ?_
 refine tr_seq ?_
 refine tr_region ?_
 refine tr1 rfl (s_loada_bp (lt_of rfl) rfl (i := 0) rfl agg_34 (es := (encApiSpan s_0)) rfl rfl) ?_
 obtain ⟨r2, h3, h⟩ := bind_some h
 refine tr1 rfl (s_call (lt_of rfl) (.func _ _ Try.call60) rfl rfl (BVs.refl _ _) (play_isSpan_c _ _ _ h3) rfl) ?_
 refine tr1 rfl (s_not (lt_of rfl) rfl) ?_
 refine tr1 rfl (s_assign (v := .d (.lit (.bool (!r2)))) (lt_of rfl) rfl rfl) ?_
 refine tr_nil ?_
 have h := Option.some.inj h
 subst h
 refine tr_ent (ent_free (ble_keep (l := [2]) ⟨rfl, trivial⟩)) ?_
 exact tr_ret ⟨rfl, _, .one _, rfl, rfl⟩

theorem play_isStage_c (length_0 : ApiSpan) (due_1 : Int) {r : Bool} (h : play_isStage length_0 due_1 = some r) : Fn Try.prog 61 [.agg (encApiSpan length_0), .d (.lit (.int .i64 due_1))] (.d (.lit (.bool r))) := by
 unfold play_isStage at h
 refine Fn.of_tr Try.func61 rfl (rs := [.tmp 4]) Try.results61 Try.ntmps61 (Nat.le_of_ble_eq_true rfl) ?_
 refine tr_seq ?_
 refine tr_region ?_
 refine tr_op rfl (s_box (v := .agg (encApiSpan length_0)) (lt_of rfl) rfl rfl rfl) ?_
 rintro _ ⟨b1, rfl⟩
 refine tr1 rfl (s_assign (v := .d (.lit (.bool false))) (lt_of rfl) rfl rfl) ?_
 refine tr_nil ?_
 refine tr_seq ?_
 refine tr_region ?_
 refine tr1 rfl (s_loada_bp (lt_of rfl) rfl (i := 0) rfl agg_34 (es := (encApiSpan length_0)) rfl rfl) ?_
 obtain ⟨r2, h3, h⟩ := bind_some h
 refine tr1 rfl (s_call (lt_of rfl) (.func _ _ Try.call60) rfl rfl (BVs.refl _ _) (play_isSpan_c _ _ _ h3) rfl) ?_
 refine tr1 rfl (s_move (v := .d (.lit (.bool r2))) (lt_of rfl) rfl rfl) ?_
 obtain ⟨b4, h5, h⟩ := bind_some h
 refine tr_guard 3 [] 10 b4 ?_ ?_
 ·refine bool_cases (r2) (fun c6 => ?_) (fun c6 => ?_)
  ·have h5 := cond_tt c6 h5
   refine tr_take1 rfl rfl (lt_of rfl) rfl c6 (s_move (v := .d (.lit (.int .i64 due_1))) (lt_of rfl) rfl rfl) ?_
   obtain ⟨r7, h8, h5⟩ := bind_some h5
   refine tr_take1 rfl rfl (lt_of rfl) rfl c6 (s_call (lt_of rfl) (.func _ _ Try.call57) rfl rfl (BVs.refl _ _) (play_within_c _ _ _ h8) rfl) ?_
   refine tr1 rfl (s_pick_t (v := .d (.lit (.bool r7))) (lt_of rfl) rfl c6 rfl rfl) ?_
   have h5 := Option.some.inj h5
   subst h5
   refine tr_nil (ent_keep rfl trivial rfl)
  ·have h5 := cond_ff c6 h5
   refine tr_pass rfl rfl (lt_of rfl) rfl (lt_of rfl) rfl c6 ?_
   refine tr_pass rfl rfl (lt_of rfl) rfl (lt_of rfl) rfl c6 ?_
   refine tr1 rfl (s_pick_f (v := .d (.lit (.bool false))) (lt_of rfl) rfl c6 rfl rfl) ?_
   have h5 := Option.some.inj h5
   subst h5
   refine tr_nil (ent_keep rfl trivial rfl)
 ·refine tr1 rfl (s_assign (v := .d (.lit (.bool b4))) (lt_of rfl) rfl rfl) ?_
  refine tr_nil ?_
  have h := Option.some.inj h
  subst h
  refine tr_ent (ent_free (ble_keep (l := [4]) ⟨rfl, trivial⟩)) ?_
  exact tr_ret ⟨rfl, _, .one _, rfl, rfl⟩

theorem play_areJobs_c (l_0 : List Int) (bound_1 : Int) {r : Bool} (h : play_areJobs l_0 bound_1 = some r) : Fn Try.prog 62 [.d (.sl 1 (l_0.map encI)), .d (.lit (.int .i64 bound_1))] (.d (.lit (.bool r))) := by
 unfold play_areJobs at h
 refine Fn.of_tr Try.func62 rfl (rs := [.tmp 4]) Try.results62 Try.ntmps62 (Nat.le_of_ble_eq_true rfl) ?_
 refine tr_seq ?_
 refine tr_region ?_
 refine tr1 rfl (s_assign (v := .d (.lit (.bool false))) (lt_of rfl) rfl rfl) ?_
 refine tr_nil ?_
 refine tr_seq ?_
 refine tr_seq ?_
 refine tr_region ?_
 refine tr1 rfl (s_move (v := .d (.sl 1 (l_0.map encI))) (lt_of rfl) rfl rfl) ?_
 refine tr1 rfl (s_lenm (lt_of rfl) rfl sl_27.of) ?_
 refine tr1 rfl (s_move (v := .d (.lit (.int .i64 0))) (lt_of rfl) rfl rfl) ?_
 refine tr_nil ?_
 refine tr_blk ?_
 refine tr_loopk [0, 1, 7, 8] (fun (s1 : Int) => [(9, .d (.lit (.int .i64 s1)))]) (fun (s1 : Int) => []) (fun (k : Nat) (s1 : Int) => play_areJobs_L0 l_0 bound_1 l_0 (l_0.length : Int) k s1) (fun _ => rfl) (0) h (ent_pick [] rfl rfl (le_upd rfl (le_keep ⟨rfl, rfl, rfl, rfl, trivial⟩))) ?_
 rintro k2 t9_0_1 h
 simp only [play_areJobs_L0] at h
 refine tr_seq ?_
 refine tr_region ?_
 refine tr1 rfl (s_cmp (lt_of rfl) rfl rfl rfl) ?_
 refine tr_nil ?_
 refine tr_seq ?_
 refine tr_if rfl (fun c3 => ?_) (fun c3 => ?_)
 ·have h := cond_tt c3 h
  refine tr_skip ?_
  refine tr_seq ?_
  refine tr_blk ?_
  refine tr_seq ?_
  refine tr_region ?_
  refine tr1 rfl (s_move (v := .d (.lit (.int .i64 t9_0_1))) (lt_of rfl) rfl rfl) ?_
  obtain ⟨x4, h5, h⟩ := bind_some h
  refine tr1 rfl (s_index_sl (lt_of rfl) rfl rfl sl_27.of (idx_map encI h5)) ?_
  refine tr1 rfl (s_load_cp (lt_of rfl) rfl one_3) ?_
  refine tr1 rfl (s_assign (v := .d (.lit (.int .i64 t9_0_1))) (lt_of rfl) rfl rfl) ?_
  refine tr1 rfl (s_assign (v := .d (.lit (.int .i64 x4))) (lt_of rfl) rfl rfl) ?_
  refine tr_nil ?_
  refine tr_seq ?_
  refine tr_region ?_
  refine tr1 rfl (s_move (v := .d (.lit (.int .i64 x4))) (lt_of rfl) rfl rfl) ?_
  refine tr1 rfl (s_move (v := .d (.lit (.int .i64 bound_1))) (lt_of rfl) rfl rfl) ?_
  refine tr1 rfl (s_arith (lt_of rfl) rfl rfl rfl) ?_
  obtain ⟨r6, h7, h⟩ := bind_some h
  refine tr1 rfl (s_call (lt_of rfl) (.func _ _ Try.call57) rfl rfl (BVs.refl _ _) (play_within_c _ _ _ h7) rfl) ?_
  refine tr1 rfl (s_not (lt_of rfl) rfl) ?_
  refine tr1 rfl (s_move (v := .d (.lit (.bool (!r6)))) (lt_of rfl) rfl rfl) ?_
  obtain ⟨b8, h9, h⟩ := bind_some h
  refine tr_guard 12 [0, 1, 7, 8, 9] 31 b8 ?_ ?_
  ·refine bool_cases (!r6) (fun c11 => ?_) (fun c11 => ?_)
   ·have h9 := cond_tt c11 h9
    refine tr_pass rfl rfl (lt_of rfl) rfl (lt_of rfl) rfl c11 ?_
    refine tr_pass rfl rfl (lt_of rfl) rfl (lt_of rfl) rfl c11 ?_
    refine tr_pass rfl rfl (lt_of rfl) rfl (lt_of rfl) rfl c11 ?_
    refine tr_pass' rfl rfl (lt_of rfl) rfl (lt_of rfl) rfl ?_
    refine tr_pass' rfl rfl (lt_of rfl) rfl (lt_of rfl) rfl ?_
    refine tr_pass' rfl rfl (lt_of rfl) rfl (lt_of rfl) rfl ?_
    refine tr_pass' rfl rfl (lt_of rfl) rfl (lt_of rfl) rfl ?_
    refine tr_pass' rfl rfl (lt_of rfl) rfl (lt_of rfl) rfl ?_
    refine tr_pass' rfl rfl (lt_of rfl) rfl (lt_of rfl) rfl ?_
    refine tr_pass' rfl rfl (lt_of rfl) rfl (lt_of rfl) rfl ?_
    refine tr_pass rfl rfl (lt_of rfl) rfl (lt_of rfl) rfl c11 ?_
    refine tr1 rfl (s_pick_t (v := .d (.lit (.bool true))) (lt_of rfl) rfl c11 rfl rfl) ?_
    have h9 := Option.some.inj h9
    subst h9
    refine tr_nil (ent_keep rfl ⟨rfl, rfl, rfl, rfl, rfl, trivial⟩ rfl)
   ·have h9 := cond_ff c11 h9
    refine tr_take1 rfl rfl (lt_of rfl) rfl c11 (s_move (v := .d (.lit (.int .i64 t9_0_1))) (lt_of rfl) rfl rfl) ?_
    refine tr_take1 rfl rfl (lt_of rfl) rfl c11 (s_cmp (lt_of rfl) rfl rfl rfl) ?_
    refine tr_take1 rfl rfl (lt_of rfl) rfl c11 (s_move (v := .d (.lit (.bool ((decide (0 < t9_0_1)))))) (lt_of rfl) rfl rfl) ?_
    obtain ⟨b12, h13, h9⟩ := bind_some h9
    refine tr_guard 8 [0, 1, 7, 8, 9, 19, 20, 21, 22] 30 b12 ?_ ?_
    ·refine bool_cases (decide (0 < t9_0_1)) (fun c14 => ?_) (fun c14 => ?_)
     ·have h13 := cond_tt c14 h13
      refine tr_take1 rfl rfl (lt_of rfl) rfl c14 (s_move (v := .d (.lit (.int .i64 x4))) (lt_of rfl) rfl rfl) ?_
      refine tr_take1 rfl rfl (lt_of rfl) rfl c14 (s_move (v := .d (.sl 1 (l_0.map encI))) (lt_of rfl) rfl rfl) ?_
      refine tr_take1 rfl rfl (lt_of rfl) rfl c14 (s_move (v := .d (.lit (.int .i64 t9_0_1))) (lt_of rfl) rfl rfl) ?_
      refine tr_take1 rfl rfl (lt_of rfl) rfl c14 (s_arith (lt_of rfl) rfl rfl rfl) ?_
      obtain ⟨x15, h16, h13⟩ := bind_some h13
      refine tr_take1 rfl rfl (lt_of rfl) rfl c14 (s_index_sl (lt_of rfl) rfl rfl sl_27.of (idx_map encI h16)) ?_
      refine tr_take1 rfl rfl (lt_of rfl) rfl c14 (s_load_cp (lt_of rfl) rfl one_3) ?_
      refine tr_take1 rfl rfl (lt_of rfl) rfl c14 (s_cmp (lt_of rfl) rfl rfl rfl) ?_
      refine tr_take1 rfl rfl (lt_of rfl) rfl c11 (s_pick_t (v := .d (.lit (.bool ((decide (x4 ≤ x15)))))) (lt_of rfl) rfl c14 rfl rfl) ?_
      have h13 := Option.some.inj h13
      subst h13
      refine tr_nil (ent_keep rfl ⟨rfl, rfl, rfl, rfl, rfl, rfl, rfl, rfl, rfl, trivial⟩ rfl)
     ·have h13 := cond_ff c14 h13
      refine tr_pass rfl rfl (lt_of rfl) rfl (lt_of rfl) rfl c14 ?_
      refine tr_pass rfl rfl (lt_of rfl) rfl (lt_of rfl) rfl c14 ?_
      refine tr_pass rfl rfl (lt_of rfl) rfl (lt_of rfl) rfl c14 ?_
      refine tr_pass rfl rfl (lt_of rfl) rfl (lt_of rfl) rfl c14 ?_
      refine tr_pass rfl rfl (lt_of rfl) rfl (lt_of rfl) rfl c14 ?_
      refine tr_pass rfl rfl (lt_of rfl) rfl (lt_of rfl) rfl c14 ?_
      refine tr_pass rfl rfl (lt_of rfl) rfl (lt_of rfl) rfl c14 ?_
      refine tr_take1 rfl rfl (lt_of rfl) rfl c11 (s_pick_f (v := .d (.lit (.bool false))) (lt_of rfl) rfl c14 rfl rfl) ?_
      have h13 := Option.some.inj h13
      subst h13
      refine tr_nil (ent_keep rfl ⟨rfl, rfl, rfl, rfl, rfl, rfl, rfl, rfl, rfl, trivial⟩ rfl)
    ·refine tr1 rfl (s_pick_f (v := .d (.lit (.bool b12))) (lt_of rfl) rfl c11 rfl rfl) ?_
     have h9 := Option.some.inj h9
     subst h9
     refine tr_nil (ent_keep rfl ⟨rfl, rfl, rfl, rfl, rfl, trivial⟩ rfl)
  ·refine tr_nil ?_
   refine tr_if rfl (fun c10 => ?_) (fun c10 => ?_)
   ·have h := cond_tt c10 h
    refine tr_seq ?_
    refine tr_region ?_
    refine tr1 rfl (s_assign (v := .d (.lit (.bool false))) (lt_of rfl) rfl rfl) ?_
    refine tr_nil ?_
    have h := Option.some.inj h
    subst h
    exact tr_ret ⟨rfl, _, .one _, rfl, rfl⟩
   ·have h := cond_ff c10 h
    refine tr_skipb ?_
    refine tr_region ?_
    refine tr1 rfl (s_arith (lt_of rfl) rfl rfl rfl) ?_
    refine tr1 rfl (s_move (v := .d (.lit (.int .i64 ((w64 (t9_0_1 + 1)))))) (lt_of rfl) rfl rfl) ?_
    refine tr_nil ?_
    exact ⟨(w64 (t9_0_1 + 1)), h, ent_pick [] rfl rfl (le_upd rfl (le_keep ⟨rfl, rfl, rfl, rfl, trivial⟩))⟩
 ·have h := cond_ff c3 h
  refine tr_exit ?_
  refine .inl ⟨rfl, ?_⟩
  simp only [play_areJobs_K0] at h
  refine tr_seq ?_
  refine tr_region ?_
  refine tr1 rfl (s_assign (v := .d (.lit (.bool true))) (lt_of rfl) rfl rfl) ?_
  refine tr_nil ?_
  have h := Option.some.inj h
  subst h
  exact tr_ret ⟨rfl, _, .one _, rfl, rfl⟩

theorem slices_Index_int_c (s_0 : List Int) (v_1 : Int) {r : Int} (h : slices_Index_int s_0 v_1 = some r) : Fn Try.prog 90 [.d (.sl 1 (s_0.map encI)), .d (.lit (.int .i64 v_1))] (.d (.lit (.int .i64 r))) := by
 unfold slices_Index_int at h
 refine Fn.of_tr Try.func90 rfl (rs := [.tmp 4]) Try.results90 Try.ntmps90 (Nat.le_of_ble_eq_true rfl) ?_
 refine tr_seq ?_
 refine tr_region ?_
 refine tr1 rfl (s_assign (v := .d (.lit (.int .i64 0))) (lt_of rfl) rfl rfl) ?_
 refine tr_nil ?_
 refine tr_seq ?_
 refine tr_seq ?_
 refine tr_region ?_
 refine tr1 rfl (s_move (v := .d (.sl 1 (s_0.map encI))) (lt_of rfl) rfl rfl) ?_
 refine tr1 rfl (s_lenm (lt_of rfl) rfl sl_27.of) ?_
 refine tr1 rfl (s_move (v := .d (.lit (.int .i64 0))) (lt_of rfl) rfl rfl) ?_
 refine tr_nil ?_
 refine tr_blk ?_
 refine tr_loopk [0, 1, 7] (fun (s1 : Int) => [(8, .d (.lit (.int .i64 s1)))]) (fun (s1 : Int) => []) (fun (k : Nat) (s1 : Int) => slices_Index_int_L0 s_0 v_1 (s_0.length : Int) k s1) (fun _ => rfl) (0) h (ent_pick [] rfl rfl (le_upd rfl (le_keep ⟨rfl, rfl, rfl, trivial⟩))) ?_
 rintro k2 t8_0_1 h
 simp only [slices_Index_int_L0] at h
 refine tr_seq ?_
 refine tr_region ?_
 refine tr1 rfl (s_cmp (lt_of rfl) rfl rfl rfl) ?_
 refine tr_nil ?_
 refine tr_seq ?_
 refine tr_if rfl (fun c3 => ?_) (fun c3 => ?_)
 ·have h := cond_tt c3 h
  refine tr_skip ?_
  refine tr_seq ?_
  refine tr_blk ?_
  refine tr_seq ?_
  refine tr_region ?_
  refine tr1 rfl (s_move (v := .d (.lit (.int .i64 t8_0_1))) (lt_of rfl) rfl rfl) ?_
  refine tr1 rfl (s_assign (v := .d (.lit (.int .i64 t8_0_1))) (lt_of rfl) rfl rfl) ?_
  refine tr_nil ?_
  refine tr_seq ?_
  refine tr_region ?_
  refine tr1 rfl (s_move (v := .d (.lit (.int .i64 v_1))) (lt_of rfl) rfl rfl) ?_
  refine tr1 rfl (s_move (v := .d (.sl 1 (s_0.map encI))) (lt_of rfl) rfl rfl) ?_
  refine tr1 rfl (s_move (v := .d (.lit (.int .i64 t8_0_1))) (lt_of rfl) rfl rfl) ?_
  obtain ⟨x4, h5, h⟩ := bind_some h
  refine tr1 rfl (s_index_sl (lt_of rfl) rfl rfl sl_27.of (idx_map encI h5)) ?_
  refine tr1 rfl (s_load_cp (lt_of rfl) rfl one_3) ?_
  refine tr1 rfl (s_cmp (lt_of rfl) rfl rfl rfl) ?_
  refine tr_nil ?_
  refine tr_if rfl (fun c6 => ?_) (fun c6 => ?_)
  ·have h := cond_tt c6 h
   refine tr_seq ?_
   refine tr_region ?_
   refine tr1 rfl (s_move (v := .d (.lit (.int .i64 t8_0_1))) (lt_of rfl) rfl rfl) ?_
   refine tr1 rfl (s_assign (v := .d (.lit (.int .i64 t8_0_1))) (lt_of rfl) rfl rfl) ?_
   refine tr_nil ?_
   have h := Option.some.inj h
   subst h
   exact tr_ret ⟨rfl, _, .one _, rfl, rfl⟩
  ·have h := cond_ff c6 h
   refine tr_skipb ?_
   refine tr_region ?_
   refine tr1 rfl (s_arith (lt_of rfl) rfl rfl rfl) ?_
   refine tr1 rfl (s_move (v := .d (.lit (.int .i64 ((w64 (t8_0_1 + 1)))))) (lt_of rfl) rfl rfl) ?_
   refine tr_nil ?_
   exact ⟨(w64 (t8_0_1 + 1)), h, ent_pick [] rfl rfl (le_upd rfl (le_keep ⟨rfl, rfl, rfl, trivial⟩))⟩
 ·have h := cond_ff c3 h
  refine tr_exit ?_
  refine .inl ⟨rfl, ?_⟩
  simp only [slices_Index_int_K0] at h
  refine tr_seq ?_
  refine tr_region ?_
  refine tr1 rfl (s_assign (v := .d (.lit (.int .i64 (-1)))) (lt_of rfl) rfl rfl) ?_
  refine tr_nil ?_
  have h := Option.some.inj h
  subst h
  exact tr_ret ⟨rfl, _, .one _, rfl, rfl⟩

theorem slices_Contains_int_c (s_0 : List Int) (v_1 : Int) {r : Bool} (h : slices_Contains_int s_0 v_1 = some r) : Fn Try.prog 63 [.d (.sl 1 (s_0.map encI)), .d (.lit (.int .i64 v_1))] (.d (.lit (.bool r))) := by
 unfold slices_Contains_int at h
 refine Fn.of_tr Try.func63 rfl (rs := [.tmp 4]) Try.results63 Try.ntmps63 (Nat.le_of_ble_eq_true rfl) ?_
 refine tr_seq ?_
 refine tr_region ?_
 refine tr1 rfl (s_assign (v := .d (.lit (.bool false))) (lt_of rfl) rfl rfl) ?_
 refine tr_nil ?_
 refine tr_seq ?_
 refine tr_region ?_
 refine tr1 rfl (s_move (v := .d (.sl 1 (s_0.map encI))) (lt_of rfl) rfl rfl) ?_
 refine tr1 rfl (s_move (v := .d (.lit (.int .i64 v_1))) (lt_of rfl) rfl rfl) ?_
 obtain ⟨r1, h2, h⟩ := bind_some h
 refine tr1 rfl (s_call (lt_of rfl) (.func _ _ Try.call90) rfl rfl (BVs.refl _ _) (slices_Index_int_c _ _ h2) rfl) ?_
 refine tr1 rfl (s_cmp (lt_of rfl) rfl rfl rfl) ?_
 refine tr1 rfl (s_assign (v := .d (.lit (.bool ((decide (0 ≤ r1)))))) (lt_of rfl) rfl rfl) ?_
 refine tr_nil ?_
 have h := Option.some.inj h
 subst h
 exact tr_ret ⟨rfl, _, .one _, rfl, rfl⟩

theorem play_Check_c (p_0 : ApiProgram) {r : Int} (h : play_Check p_0 = some r) : Fn Try.prog 25 [.agg (encApiProgram p_0)] (.d (.lit (.int .i64 r))) := by
 unfold play_Check at h
 refine Fn.of_tr Try.func25 rfl (rs := [.tmp 2]) Try.results25 Try.ntmps25 (Nat.le_of_ble_eq_true rfl) ?_
 refine tr_seq ?_
 refine tr_region ?_
 refine tr_op rfl (s_box (v := .agg (encApiProgram p_0)) (lt_of rfl) rfl rfl rfl) ?_
 rintro _ ⟨b1, rfl⟩
 refine tr1 rfl (s_assign (v := .d (.lit (.int .i64 0))) (lt_of rfl) rfl rfl) ?_
 refine tr_nil ?_
 refine tr_seq ?_
 refine tr_seq ?_
 refine tr_region ?_
 refine tr1 rfl (s_field_bp (lt_of rfl) rfl fld_25_0) ?_
 refine tr1 rfl (s_load_bp (lt_of rfl) rfl (i := 0) rfl rfl one_22) ?_
 refine tr1 rfl (s_lenm (lt_of rfl) rfl sl_22.of) ?_
 obtain ⟨r2, h3, h⟩ := bind_some h
 refine tr1 rfl (s_call (lt_of rfl) (.func _ _ Try.call57) rfl rfl (BVs.refl _ _) (play_within_c _ _ _ h3) rfl) ?_
 refine tr1 rfl (s_not (lt_of rfl) rfl) ?_
 refine tr1 rfl (s_move (v := .d (.lit (.bool (!r2)))) (lt_of rfl) rfl rfl) ?_
 obtain ⟨b4, h5, h⟩ := bind_some h
 refine tr_guard 5 [1] 17 b4 ?_ ?_
 ·refine bool_cases (!r2) (fun c56 => ?_) (fun c56 => ?_)
  ·have h5 := cond_tt c56 h5
   refine tr_pass rfl rfl (lt_of rfl) rfl (lt_of rfl) rfl c56 ?_
   refine tr_pass rfl rfl (lt_of rfl) rfl (lt_of rfl) rfl c56 ?_
   refine tr_pass rfl rfl (lt_of rfl) rfl (lt_of rfl) rfl c56 ?_
   refine tr_pass rfl rfl (lt_of rfl) rfl (lt_of rfl) rfl c56 ?_
   refine tr1 rfl (s_pick_t (v := .d (.lit (.bool true))) (lt_of rfl) rfl c56 rfl rfl) ?_
   have h5 := Option.some.inj h5
   subst h5
   refine tr_nil (ent_keep rfl ⟨rfl, trivial⟩ rfl)
  ·have h5 := cond_ff c56 h5
   refine tr_take1 rfl rfl (lt_of rfl) rfl c56 (s_field_bp (lt_of rfl) rfl fld_25_1) ?_
   refine tr_take1 rfl rfl (lt_of rfl) rfl c56 (s_load_bp (lt_of rfl) rfl (i := 0) rfl rfl one_3) ?_
   obtain ⟨r57, h58, h5⟩ := bind_some h5
   refine tr_take1 rfl rfl (lt_of rfl) rfl c56 (s_call (lt_of rfl) (.func _ _ Try.call57) rfl rfl (BVs.refl _ _) (play_within_c _ _ _ h58) rfl) ?_
   refine tr_take1 rfl rfl (lt_of rfl) rfl c56 (s_not (lt_of rfl) rfl) ?_
   refine tr1 rfl (s_pick_f (v := .d (.lit (.bool (!r57)))) (lt_of rfl) rfl c56 rfl rfl) ?_
   have h5 := Option.some.inj h5
   subst h5
   refine tr_nil (ent_keep rfl ⟨rfl, trivial⟩ rfl)
 ·refine tr1 rfl (s_move (v := .d (.lit (.bool b4))) (lt_of rfl) rfl rfl) ?_
  obtain ⟨b6, h7, h⟩ := bind_some h
  refine tr_guard 5 [1] 23 b6 ?_ ?_
  ·refine bool_cases (b4) (fun c55 => ?_) (fun c55 => ?_)
   ·have h7 := cond_tt c55 h7
    refine tr_pass rfl rfl (lt_of rfl) rfl (lt_of rfl) rfl c55 ?_
    refine tr_pass rfl rfl (lt_of rfl) rfl (lt_of rfl) rfl c55 ?_
    refine tr_pass rfl rfl (lt_of rfl) rfl (lt_of rfl) rfl c55 ?_
    refine tr_pass rfl rfl (lt_of rfl) rfl (lt_of rfl) rfl c55 ?_
    refine tr1 rfl (s_pick_t (v := .d (.lit (.bool true))) (lt_of rfl) rfl c55 rfl rfl) ?_
    have h7 := Option.some.inj h7
    subst h7
    refine tr_nil (ent_keep rfl ⟨rfl, trivial⟩ rfl)
   ·have h7 := cond_ff c55 h7
    refine tr_take1 rfl rfl (lt_of rfl) rfl c55 (s_field_bp (lt_of rfl) rfl fld_25_2) ?_
    refine tr_take1 rfl rfl (lt_of rfl) rfl c55 (s_load_bp (lt_of rfl) rfl (i := 0) rfl rfl one_23) ?_
    refine tr_take1 rfl rfl (lt_of rfl) rfl c55 (s_lenm (lt_of rfl) rfl sl_23.of) ?_
    refine tr_take1 rfl rfl (lt_of rfl) rfl c55 (s_cmp (lt_of rfl) rfl rfl rfl) ?_
    refine tr1 rfl (s_pick_f (v := .d (.lit (.bool ((decide (6 < (p_0.Jobs.length : Int))))))) (lt_of rfl) rfl c55 rfl rfl) ?_
    have h7 := Option.some.inj h7
    subst h7
    refine tr_nil (ent_keep rfl ⟨rfl, trivial⟩ rfl)
  ·refine tr_nil ?_
   refine tr_if rfl (fun c8 => ?_) (fun c8 => ?_)
   ·have h := cond_tt c8 h
    refine tr_seq ?_
    refine tr_region ?_
    refine tr1 rfl (s_assign (v := .d (.lit (.int .i64 80))) (lt_of rfl) rfl rfl) ?_
    refine tr_nil ?_
    have h := Option.some.inj h
    subst h
    refine tr_ent (ent_free (ble_keep (l := [2]) ⟨rfl, trivial⟩)) ?_
    exact tr_ret ⟨rfl, _, .one _, rfl, rfl⟩
   ·have h := cond_ff c8 h
    refine tr_skip ?_
    refine tr_seq ?_
    refine tr_seq ?_
    refine tr_region ?_
    refine tr1 rfl (s_field_bp (lt_of rfl) rfl fld_25_0) ?_
    refine tr1 rfl (s_load_bp (lt_of rfl) rfl (i := 0) rfl rfl one_22) ?_
    refine tr1 rfl (s_lenm (lt_of rfl) rfl sl_22.of) ?_
    refine tr1 rfl (s_move (v := .d (.lit (.int .i64 0))) (lt_of rfl) rfl rfl) ?_
    refine tr_nil ?_
    refine tr_blk ?_
    refine tr_loopk [1, 25, 26] (fun (s9 : Int) => [(27, .d (.lit (.int .i64 s9)))]) (fun (s9 : Int) => [.box b1 0 (encApiProgram p_0)]) (fun (k : Nat) (s9 : Int) => play_Check_L0 p_0.Days (p_0.Days.length : Int) p_0 k s9) (fun _ => rfl) (0) h (ent_pick [0] rfl rfl (le_upd rfl (le_keep ⟨rfl, rfl, rfl, trivial⟩))) ?_
    rintro k10 t27_0_9 h
    simp only [play_Check_L0] at h
    refine tr_seq ?_
    refine tr_region ?_
    refine tr1 rfl (s_cmp (lt_of rfl) rfl rfl rfl) ?_
    refine tr_nil ?_
    refine tr_seq ?_
    refine tr_if rfl (fun c11 => ?_) (fun c11 => ?_)
    ·have h := cond_tt c11 h
     refine tr_skip ?_
     refine tr_seq ?_
     refine tr_blk ?_
     refine tr_seq ?_
     refine tr_region ?_
     obtain ⟨x12, h13, h⟩ := bind_some h
     refine tr1 rfl (s_index_sl (lt_of rfl) rfl rfl sl_22.of (idx_map encSl_ApiSpan h13)) ?_
     refine tr1 rfl (s_load_cp (lt_of rfl) rfl one_37) ?_
     refine tr1 rfl (s_assign (v := .d (.sl 2 (x12.map encApiSpan))) (lt_of rfl) rfl rfl) ?_
     refine tr_nil ?_
     refine tr_seq ?_
     refine tr_seq ?_
     refine tr_region ?_
     refine tr1 rfl (s_move (v := .d (.sl 2 (x12.map encApiSpan))) (lt_of rfl) rfl rfl) ?_
     refine tr1 rfl (s_lenm (lt_of rfl) rfl sl_37.of) ?_
     obtain ⟨r14, h15, h⟩ := bind_some h
     refine tr1 rfl (s_call (lt_of rfl) (.func _ _ Try.call57) rfl rfl (BVs.refl _ _) (play_within_c _ _ _ h15) rfl) ?_
     refine tr1 rfl (s_not (lt_of rfl) rfl) ?_
     refine tr1 rfl (s_move (v := .d (.lit (.bool (!r14)))) (lt_of rfl) rfl rfl) ?_
     obtain ⟨b16, h17, h⟩ := bind_some h
     refine tr_guard 9 [1, 4, 25, 26, 27] 44 b16 ?_ ?_
     ·refine bool_cases (!r14) (fun c23 => ?_) (fun c23 => ?_)
      ·have h17 := cond_tt c23 h17
       refine tr_pass rfl rfl (lt_of rfl) rfl (lt_of rfl) rfl c23 ?_
       refine tr_pass rfl rfl (lt_of rfl) rfl (lt_of rfl) rfl c23 ?_
       refine tr_pass rfl rfl (lt_of rfl) rfl (lt_of rfl) rfl c23 ?_
       refine tr_pass rfl rfl (lt_of rfl) rfl (lt_of rfl) rfl c23 ?_
       refine tr_pass rfl rfl (lt_of rfl) rfl (lt_of rfl) rfl c23 ?_
       refine tr_pass rfl rfl (lt_of rfl) rfl (lt_of rfl) rfl c23 ?_
       refine tr_pass rfl rfl (lt_of rfl) rfl (lt_of rfl) rfl c23 ?_
       refine tr_pass rfl rfl (lt_of rfl) rfl (lt_of rfl) rfl c23 ?_
       refine tr1 rfl (s_pick_t (v := .d (.lit (.bool true))) (lt_of rfl) rfl c23 rfl rfl) ?_
       have h17 := Option.some.inj h17
       subst h17
       refine tr_nil (ent_keep rfl ⟨rfl, rfl, rfl, rfl, rfl, trivial⟩ rfl)
      ·have h17 := cond_ff c23 h17
       refine tr_take1 rfl rfl (lt_of rfl) rfl c23 (s_move (v := .d (.sl 2 (x12.map encApiSpan))) (lt_of rfl) rfl rfl) ?_
       refine tr_take1 rfl rfl (lt_of rfl) rfl c23 (s_lenm (lt_of rfl) rfl sl_37.of) ?_
       refine tr_take1 rfl rfl (lt_of rfl) rfl c23 (s_field_bp (lt_of rfl) rfl fld_25_0) ?_
       refine tr_take1 rfl rfl (lt_of rfl) rfl c23 (s_load_bp (lt_of rfl) rfl (i := 0) rfl rfl one_22) ?_
       obtain ⟨x24, h25, h17⟩ := bind_some h17
       refine tr_take1 rfl rfl (lt_of rfl) rfl c23 (s_index_sl (lt_of rfl) rfl rfl sl_22.of (idx_map encSl_ApiSpan h25)) ?_
       refine tr_take1 rfl rfl (lt_of rfl) rfl c23 (s_load_cp (lt_of rfl) rfl one_37) ?_
       refine tr_take1 rfl rfl (lt_of rfl) rfl c23 (s_lenm (lt_of rfl) rfl sl_37.of) ?_
       refine tr_take1 rfl rfl (lt_of rfl) rfl c23 (s_cmp (lt_of rfl) rfl rfl rfl) ?_
       refine tr1 rfl (s_pick_f (v := .d (.lit (.bool ((!decide ((x12.length : Int) = (x24.length : Int))))))) (lt_of rfl) rfl c23 rfl rfl) ?_
       have h17 := Option.some.inj h17
       subst h17
       refine tr_nil (ent_keep rfl ⟨rfl, rfl, rfl, rfl, rfl, trivial⟩ rfl)
     ·refine tr_nil ?_
      refine tr_if rfl (fun c18 => ?_) (fun c18 => ?_)
      ·have h := cond_tt c18 h
       refine tr_seq ?_
       refine tr_region ?_
       refine tr1 rfl (s_assign (v := .d (.lit (.int .i64 80))) (lt_of rfl) rfl rfl) ?_
       refine tr_nil ?_
       have h := Option.some.inj h
       subst h
       refine tr_ent (ent_free (ble_keep (l := [2]) ⟨rfl, trivial⟩)) ?_
       exact tr_ret ⟨rfl, _, .one _, rfl, rfl⟩
      ·have h := cond_ff c18 h
       refine tr_skip ?_
       refine tr_seq ?_
       refine tr_region ?_
       refine tr1 rfl (s_move (v := .d (.sl 2 (x12.map encApiSpan))) (lt_of rfl) rfl rfl) ?_
       obtain ⟨r20, h21, h⟩ := bind_some h
       refine tr1 rfl (s_call (lt_of rfl) (.func _ _ Try.call58) rfl rfl (BVs.refl _ _) (slices_ContainsFunc_api_Span_c _ _ 59 [] Try.call59 (fun _ _ h => play_Check_1_c _ h) h21) rfl) ?_
       refine tr_nil ?_
       refine tr_if rfl (fun c22 => ?_) (fun c22 => ?_)
       ·have h := cond_tt c22 h
        refine tr_seq ?_
        refine tr_region ?_
        refine tr1 rfl (s_assign (v := .d (.lit (.int .i64 80))) (lt_of rfl) rfl rfl) ?_
        refine tr_nil ?_
        have h := Option.some.inj h
        subst h
        refine tr_ent (ent_free (ble_keep (l := [2]) ⟨rfl, trivial⟩)) ?_
        exact tr_ret ⟨rfl, _, .one _, rfl, rfl⟩
       ·have h := cond_ff c22 h
        refine tr_skipb ?_
        refine tr_region ?_
        refine tr1 rfl (s_arith (lt_of rfl) rfl rfl rfl) ?_
        refine tr1 rfl (s_move (v := .d (.lit (.int .i64 ((w64 (t27_0_9 + 1)))))) (lt_of rfl) rfl rfl) ?_
        refine tr_nil ?_
        exact ⟨(w64 (t27_0_9 + 1)), h, ent_pick [0] rfl rfl (le_upd rfl (le_keep ⟨rfl, rfl, rfl, trivial⟩))⟩
    ·have h := cond_ff c11 h
     refine tr_exit ?_
     refine .inl ⟨rfl, ?_⟩
     simp only [play_Check_K0] at h
     refine tr_seq ?_
     refine tr_seq ?_
     refine tr_region ?_
     refine tr1 rfl (s_field_bp (lt_of rfl) rfl fld_25_2) ?_
     refine tr1 rfl (s_load_bp (lt_of rfl) rfl (i := 0) rfl rfl one_23) ?_
     refine tr1 rfl (s_lenm (lt_of rfl) rfl sl_23.of) ?_
     refine tr1 rfl (s_move (v := .d (.lit (.int .i64 0))) (lt_of rfl) rfl rfl) ?_
     refine tr_nil ?_
     refine tr_blk ?_
     refine tr_loopk [1, 49, 50] (fun (s26 : Int) => [(51, .d (.lit (.int .i64 s26)))]) (fun (s26 : Int) => [.box b1 0 (encApiProgram p_0)]) (fun (k : Nat) (s26 : Int) => play_Check_L2 p_0.Jobs (p_0.Jobs.length : Int) p_0 k s26) (fun _ => rfl) (0) h (ent_pick [0] rfl rfl (le_upd rfl (le_keep ⟨rfl, rfl, rfl, trivial⟩))) ?_
     rintro k27 t51_2_26 h
     simp only [play_Check_L2] at h
     refine tr_seq ?_
     refine tr_region ?_
     refine tr1 rfl (s_cmp (lt_of rfl) rfl rfl rfl) ?_
     refine tr_nil ?_
     refine tr_seq ?_
     refine tr_if rfl (fun c28 => ?_) (fun c28 => ?_)
     ·have h := cond_tt c28 h
      refine tr_skip ?_
      refine tr_seq ?_
      refine tr_blk ?_
      refine tr_seq ?_
      refine tr_region ?_
      refine tr1 rfl (s_move (v := .d (.lit (.int .i64 t51_2_26))) (lt_of rfl) rfl rfl) ?_
      obtain ⟨x29, h30, h⟩ := bind_some h
      refine tr1 rfl (s_index_sl (lt_of rfl) rfl rfl sl_23.of (idx_map encApiJob h30)) ?_
      refine tr1 rfl (s_loada_cp (lt_of rfl) rfl agg_36 (es := (encApiJob x29)) rfl rfl) ?_
      refine tr_op rfl (s_alloc (zs := [.lit (.int .i64 0), .lit (.int .i64 0), .sl 1 ((([] : List Int)).map encI), .sl 1 ((([] : List Int)).map encI), .lit (.int .i64 0), .lit (.int .i64 0)]) (lt_of rfl) Try.zeroValue36 rfl rfl) ?_
      rintro _ ⟨b31, rfl⟩
      refine tr1 rfl (s_assign (v := .d (.lit (.int .i64 t51_2_26))) (lt_of rfl) rfl rfl) ?_
      refine tr1 rfl (s_store_bp (i := 1) rfl rfl rfl rfl rfl Try.sizeOf36 rfl (lt_of rfl) (Nat.le_of_ble_eq_true rfl) (ds' := (encApiJob x29)) rfl) ?_
      refine tr_nil ?_
      refine tr_seq ?_
      refine tr_region ?_
      refine tr1 rfl (s_field_bp (lt_of rfl) rfl fld_36_0) ?_
      refine tr1 rfl (s_loada_bp (lt_of rfl) rfl (i := 1) rfl agg_34 (es := (encApiSpan x29.Length)) rfl rfl) ?_
      refine tr1 rfl (s_field_bp (lt_of rfl) rfl fld_36_3) ?_
      refine tr1 rfl (s_load_bp (lt_of rfl) rfl (i := 1) rfl rfl one_3) ?_
      obtain ⟨r32, h33, h⟩ := bind_some h
      refine tr1 rfl (s_call (lt_of rfl) (.func _ _ Try.call61) rfl rfl (BVs.refl _ _) (play_isStage_c _ _ h33) rfl) ?_
      refine tr1 rfl (s_not (lt_of rfl) rfl) ?_
      refine tr1 rfl (s_move (v := .d (.lit (.bool (!r32)))) (lt_of rfl) rfl rfl) ?_
      obtain ⟨b34, h35, h⟩ := bind_some h
      refine tr_guard 5 [1, 5, 6, 49, 50, 51] 67 b34 ?_ ?_
      ·refine bool_cases (!r32) (fun c52 => ?_) (fun c52 => ?_)
       ·have h35 := cond_tt c52 h35
        refine tr_pass rfl rfl (lt_of rfl) rfl (lt_of rfl) rfl c52 ?_
        refine tr_pass rfl rfl (lt_of rfl) rfl (lt_of rfl) rfl c52 ?_
        refine tr_pass rfl rfl (lt_of rfl) rfl (lt_of rfl) rfl c52 ?_
        refine tr_pass rfl rfl (lt_of rfl) rfl (lt_of rfl) rfl c52 ?_
        refine tr1 rfl (s_pick_t (v := .d (.lit (.bool true))) (lt_of rfl) rfl c52 rfl rfl) ?_
        have h35 := Option.some.inj h35
        subst h35
        refine tr_nil (ent_keep rfl ⟨rfl, rfl, rfl, rfl, rfl, rfl, trivial⟩ rfl)
       ·have h35 := cond_ff c52 h35
        refine tr_take1 rfl rfl (lt_of rfl) rfl c52 (s_field_bp (lt_of rfl) rfl fld_36_4) ?_
        refine tr_take1 rfl rfl (lt_of rfl) rfl c52 (s_load_bp (lt_of rfl) rfl (i := 1) rfl rfl one_3) ?_
        obtain ⟨r53, h54, h35⟩ := bind_some h35
        refine tr_take1 rfl rfl (lt_of rfl) rfl c52 (s_call (lt_of rfl) (.func _ _ Try.call57) rfl rfl (BVs.refl _ _) (play_within_c _ _ _ h54) rfl) ?_
        refine tr_take1 rfl rfl (lt_of rfl) rfl c52 (s_not (lt_of rfl) rfl) ?_
        refine tr1 rfl (s_pick_f (v := .d (.lit (.bool (!r53)))) (lt_of rfl) rfl c52 rfl rfl) ?_
        have h35 := Option.some.inj h35
        subst h35
        refine tr_nil (ent_keep rfl ⟨rfl, rfl, rfl, rfl, rfl, rfl, trivial⟩ rfl)
      ·refine tr1 rfl (s_move (v := .d (.lit (.bool b34))) (lt_of rfl) rfl rfl) ?_
       obtain ⟨b36, h37, h⟩ := bind_some h
       refine tr_guard 6 [1, 5, 6, 49, 50, 51] 74 b36 ?_ ?_
       ·refine bool_cases (b34) (fun c49 => ?_) (fun c49 => ?_)
        ·have h37 := cond_tt c49 h37
         refine tr_pass rfl rfl (lt_of rfl) rfl (lt_of rfl) rfl c49 ?_
         refine tr_pass rfl rfl (lt_of rfl) rfl (lt_of rfl) rfl c49 ?_
         refine tr_pass rfl rfl (lt_of rfl) rfl (lt_of rfl) rfl c49 ?_
         refine tr_pass rfl rfl (lt_of rfl) rfl (lt_of rfl) rfl c49 ?_
         refine tr_pass rfl rfl (lt_of rfl) rfl (lt_of rfl) rfl c49 ?_
         refine tr1 rfl (s_pick_t (v := .d (.lit (.bool true))) (lt_of rfl) rfl c49 rfl rfl) ?_
         have h37 := Option.some.inj h37
         subst h37
         refine tr_nil (ent_keep rfl ⟨rfl, rfl, rfl, rfl, rfl, rfl, trivial⟩ rfl)
        ·have h37 := cond_ff c49 h37
         refine tr_take1 rfl rfl (lt_of rfl) rfl c49 (s_field_bp (lt_of rfl) rfl fld_36_1) ?_
         refine tr_take1 rfl rfl (lt_of rfl) rfl c49 (s_load_bp (lt_of rfl) rfl (i := 1) rfl rfl one_27) ?_
         refine tr_take1 rfl rfl (lt_of rfl) rfl c49 (s_move (v := .d (.lit (.int .i64 t51_2_26))) (lt_of rfl) rfl rfl) ?_
         obtain ⟨r50, h51, h37⟩ := bind_some h37
         refine tr_take1 rfl rfl (lt_of rfl) rfl c49 (s_call (lt_of rfl) (.func _ _ Try.call62) rfl rfl (BVs.refl _ _) (play_areJobs_c _ _ h51) rfl) ?_
         refine tr_take1 rfl rfl (lt_of rfl) rfl c49 (s_not (lt_of rfl) rfl) ?_
         refine tr1 rfl (s_pick_f (v := .d (.lit (.bool (!r50)))) (lt_of rfl) rfl c49 rfl rfl) ?_
         have h37 := Option.some.inj h37
         subst h37
         refine tr_nil (ent_keep rfl ⟨rfl, rfl, rfl, rfl, rfl, rfl, trivial⟩ rfl)
       ·refine tr1 rfl (s_move (v := .d (.lit (.bool b36))) (lt_of rfl) rfl rfl) ?_
        obtain ⟨b38, h39, h⟩ := bind_some h
        refine tr_guard 8 [1, 5, 6, 49, 50, 51] 83 b38 ?_ ?_
        ·refine bool_cases (b36) (fun c46 => ?_) (fun c46 => ?_)
         ·have h39 := cond_tt c46 h39
          refine tr_pass rfl rfl (lt_of rfl) rfl (lt_of rfl) rfl c46 ?_
          refine tr_pass rfl rfl (lt_of rfl) rfl (lt_of rfl) rfl c46 ?_
          refine tr_pass rfl rfl (lt_of rfl) rfl (lt_of rfl) rfl c46 ?_
          refine tr_pass rfl rfl (lt_of rfl) rfl (lt_of rfl) rfl c46 ?_
          refine tr_pass rfl rfl (lt_of rfl) rfl (lt_of rfl) rfl c46 ?_
          refine tr_pass rfl rfl (lt_of rfl) rfl (lt_of rfl) rfl c46 ?_
          refine tr_pass rfl rfl (lt_of rfl) rfl (lt_of rfl) rfl c46 ?_
          refine tr1 rfl (s_pick_t (v := .d (.lit (.bool true))) (lt_of rfl) rfl c46 rfl rfl) ?_
          have h39 := Option.some.inj h39
          subst h39
          refine tr_nil (ent_keep rfl ⟨rfl, rfl, rfl, rfl, rfl, rfl, trivial⟩ rfl)
         ·have h39 := cond_ff c46 h39
          refine tr_take1 rfl rfl (lt_of rfl) rfl c46 (s_field_bp (lt_of rfl) rfl fld_36_2) ?_
          refine tr_take1 rfl rfl (lt_of rfl) rfl c46 (s_load_bp (lt_of rfl) rfl (i := 1) rfl rfl one_27) ?_
          refine tr_take1 rfl rfl (lt_of rfl) rfl c46 (s_field_bp (lt_of rfl) rfl fld_25_2) ?_
          refine tr_take1 rfl rfl (lt_of rfl) rfl c46 (s_load_bp (lt_of rfl) rfl (i := 0) rfl rfl one_23) ?_
          refine tr_take1 rfl rfl (lt_of rfl) rfl c46 (s_lenm (lt_of rfl) rfl sl_23.of) ?_
          obtain ⟨r47, h48, h39⟩ := bind_some h39
          refine tr_take1 rfl rfl (lt_of rfl) rfl c46 (s_call (lt_of rfl) (.func _ _ Try.call62) rfl rfl (BVs.refl _ _) (play_areJobs_c _ _ h48) rfl) ?_
          refine tr_take1 rfl rfl (lt_of rfl) rfl c46 (s_not (lt_of rfl) rfl) ?_
          refine tr1 rfl (s_pick_f (v := .d (.lit (.bool (!r47)))) (lt_of rfl) rfl c46 rfl rfl) ?_
          have h39 := Option.some.inj h39
          subst h39
          refine tr_nil (ent_keep rfl ⟨rfl, rfl, rfl, rfl, rfl, rfl, trivial⟩ rfl)
        ·refine tr1 rfl (s_move (v := .d (.lit (.bool b38))) (lt_of rfl) rfl rfl) ?_
         obtain ⟨b40, h41, h⟩ := bind_some h
         refine tr_guard 5 [1, 49, 50, 51] 89 b40 ?_ ?_
         ·refine bool_cases (b38) (fun c43 => ?_) (fun c43 => ?_)
          ·have h41 := cond_tt c43 h41
           refine tr_pass rfl rfl (lt_of rfl) rfl (lt_of rfl) rfl c43 ?_
           refine tr_pass rfl rfl (lt_of rfl) rfl (lt_of rfl) rfl c43 ?_
           refine tr_pass rfl rfl (lt_of rfl) rfl (lt_of rfl) rfl c43 ?_
           refine tr_pass rfl rfl (lt_of rfl) rfl (lt_of rfl) rfl c43 ?_
           refine tr1 rfl (s_pick_t (v := .d (.lit (.bool true))) (lt_of rfl) rfl c43 rfl rfl) ?_
           have h41 := Option.some.inj h41
           subst h41
           refine tr_nil (ent_keep rfl ⟨rfl, rfl, rfl, rfl, trivial⟩ rfl)
          ·have h41 := cond_ff c43 h41
           refine tr_take1 rfl rfl (lt_of rfl) rfl c43 (s_field_bp (lt_of rfl) rfl fld_36_2) ?_
           refine tr_take1 rfl rfl (lt_of rfl) rfl c43 (s_load_bp (lt_of rfl) rfl (i := 1) rfl rfl one_27) ?_
           refine tr_take1 rfl rfl (lt_of rfl) rfl c43 (s_move (v := .d (.lit (.int .i64 t51_2_26))) (lt_of rfl) rfl rfl) ?_
           obtain ⟨r44, h45, h41⟩ := bind_some h41
           refine tr_take1 rfl rfl (lt_of rfl) rfl c43 (s_call (lt_of rfl) (.func _ _ Try.call63) rfl rfl (BVs.refl _ _) (slices_Contains_int_c _ _ h45) rfl) ?_
           refine tr1 rfl (s_pick_f (v := .d (.lit (.bool r44))) (lt_of rfl) rfl c43 rfl rfl) ?_
           have h41 := Option.some.inj h41
           subst h41
           refine tr_nil (ent_keep rfl ⟨rfl, rfl, rfl, rfl, trivial⟩ rfl)
         ·refine tr_nil ?_
          refine tr_if rfl (fun c42 => ?_) (fun c42 => ?_)
          ·have h := cond_tt c42 h
           refine tr_seq ?_
           refine tr_region ?_
           refine tr1 rfl (s_assign (v := .d (.lit (.int .i64 80))) (lt_of rfl) rfl rfl) ?_
           refine tr_nil ?_
           have h := Option.some.inj h
           subst h
           refine tr_ent (ent_free (ble_keep (l := [2]) ⟨rfl, trivial⟩)) ?_
           exact tr_ret ⟨rfl, _, .one _, rfl, rfl⟩
          ·have h := cond_ff c42 h
           refine tr_skipb ?_
           refine tr_region ?_
           refine tr1 rfl (s_arith (lt_of rfl) rfl rfl rfl) ?_
           refine tr1 rfl (s_move (v := .d (.lit (.int .i64 ((w64 (t51_2_26 + 1)))))) (lt_of rfl) rfl rfl) ?_
           refine tr_nil ?_
           exact ⟨(w64 (t51_2_26 + 1)), h, ent_pick [0] rfl rfl (le_upd rfl (le_keep ⟨rfl, rfl, rfl, trivial⟩))⟩
     ·have h := cond_ff c28 h
      refine tr_exit ?_
      refine .inl ⟨rfl, ?_⟩
      simp only [play_Check_K2] at h
      refine tr_seq ?_
      refine tr_region ?_
      refine tr1 rfl (s_assign (v := .d (.lit (.int .i64 0))) (lt_of rfl) rfl rfl) ?_
      refine tr_nil ?_
      have h := Option.some.inj h
      subst h
      refine tr_ent (ent_free (ble_keep (l := [2]) ⟨rfl, trivial⟩)) ?_
      exact tr_ret ⟨rfl, _, .one _, rfl, rfl⟩

theorem slices_IndexFunc_int_c (s_0 : List Int) (f_1 : Int → Option Bool) {r : Int} (f_1_f : Nat) (f_1_v : List AV) (f_1_e : ∀ args w, (callFunc f_1_f args).run Try.prog w = .ok (.enter f_1_f args) w) (f_1_h : ∀ (x0 : Int) r, f_1 x0 = some r → Fn Try.prog f_1_f ([.d (.lit (.int .i64 x0))] ++ f_1_v) (.d (.lit (.bool r)))) (h : slices_IndexFunc_int s_0 f_1 = some r) : Fn Try.prog 108 [.d (.sl 1 (s_0.map encI)), .fn f_1_f f_1_v] (.d (.lit (.int .i64 r))) := by
 unfold slices_IndexFunc_int at h
 refine Fn.of_tr Try.func108 rfl (rs := [.tmp 4]) Try.results108 Try.ntmps108 (Nat.le_of_ble_eq_true rfl) ?_
 refine tr_seq ?_
 refine tr_region ?_
 refine tr1 rfl (s_assign (v := .d (.lit (.int .i64 0))) (lt_of rfl) rfl rfl) ?_
 refine tr_nil ?_
 refine tr_seq ?_
 refine tr_seq ?_
 refine tr_region ?_
 refine tr1 rfl (s_move (v := .d (.sl 1 (s_0.map encI))) (lt_of rfl) rfl rfl) ?_
 refine tr1 rfl (s_lenm (lt_of rfl) rfl sl_27.of) ?_
 refine tr1 rfl (s_move (v := .d (.lit (.int .i64 0))) (lt_of rfl) rfl rfl) ?_
 refine tr_nil ?_
 refine tr_blk ?_
 refine tr_loopk [0, 1, 7] (fun (s1 : Int) => [(8, .d (.lit (.int .i64 s1)))]) (fun (s1 : Int) => []) (fun (k : Nat) (s1 : Int) => slices_IndexFunc_int_L0 s_0 f_1 (s_0.length : Int) k s1) (fun _ => rfl) (0) h (ent_pick [] rfl rfl (le_upd rfl (le_keep ⟨rfl, rfl, rfl, trivial⟩))) ?_
 rintro k2 t8_0_1 h
 simp only [slices_IndexFunc_int_L0] at h
 refine tr_seq ?_
 refine tr_region ?_
 refine tr1 rfl (s_cmp (lt_of rfl) rfl rfl rfl) ?_
 refine tr_nil ?_
 refine tr_seq ?_
 refine tr_if rfl (fun c3 => ?_) (fun c3 => ?_)
 ·have h := cond_tt c3 h
  refine tr_skip ?_
  refine tr_seq ?_
  refine tr_blk ?_
  refine tr_seq ?_
  refine tr_region ?_
  refine tr1 rfl (s_move (v := .d (.lit (.int .i64 t8_0_1))) (lt_of rfl) rfl rfl) ?_
  refine tr1 rfl (s_assign (v := .d (.lit (.int .i64 t8_0_1))) (lt_of rfl) rfl rfl) ?_
  refine tr_nil ?_
  refine tr_seq ?_
  refine tr_region ?_
  refine tr1 rfl (s_move (v := .fn f_1_f f_1_v) (lt_of rfl) rfl rfl) ?_
  refine tr1 rfl (s_move (v := .d (.sl 1 (s_0.map encI))) (lt_of rfl) rfl rfl) ?_
  refine tr1 rfl (s_move (v := .d (.lit (.int .i64 t8_0_1))) (lt_of rfl) rfl rfl) ?_
  obtain ⟨x4, h5, h⟩ := bind_some h
  refine tr1 rfl (s_index_sl (lt_of rfl) rfl rfl sl_27.of (idx_map encI h5)) ?_
  refine tr1 rfl (s_load_cp (lt_of rfl) rfl one_3) ?_
  obtain ⟨r6, h7, h⟩ := bind_some h
  refine tr1 rfl (s_call (lt_of rfl) (.clo _ _ _ _ f_1_e rfl) (evap rfl) rfl (BVs.refl _ _) (f_1_h _ _  h7) rfl) ?_
  refine tr_nil ?_
  refine tr_if rfl (fun c8 => ?_) (fun c8 => ?_)
  ·have h := cond_tt c8 h
   refine tr_seq ?_
   refine tr_region ?_
   refine tr1 rfl (s_move (v := .d (.lit (.int .i64 t8_0_1))) (lt_of rfl) rfl rfl) ?_
   refine tr1 rfl (s_assign (v := .d (.lit (.int .i64 t8_0_1))) (lt_of rfl) rfl rfl) ?_
   refine tr_nil ?_
   have h := Option.some.inj h
   subst h
   exact tr_ret ⟨rfl, _, .one _, rfl, rfl⟩
  ·have h := cond_ff c8 h
   refine tr_skipb ?_
   refine tr_region ?_
   refine tr1 rfl (s_arith (lt_of rfl) rfl rfl rfl) ?_
   refine tr1 rfl (s_move (v := .d (.lit (.int .i64 ((w64 (t8_0_1 + 1)))))) (lt_of rfl) rfl rfl) ?_
   refine tr_nil ?_
   exact ⟨(w64 (t8_0_1 + 1)), h, ent_pick [] rfl rfl (le_upd rfl (le_keep ⟨rfl, rfl, rfl, trivial⟩))⟩
 ·have h := cond_ff c3 h
  refine tr_exit ?_
  refine .inl ⟨rfl, ?_⟩
  simp only [slices_IndexFunc_int_K0] at h
  refine tr_seq ?_
  refine tr_region ?_
  refine tr1 rfl (s_assign (v := .d (.lit (.int .i64 (-1)))) (lt_of rfl) rfl rfl) ?_
  refine tr_nil ?_
  have h := Option.some.inj h
  subst h
  exact tr_ret ⟨rfl, _, .one _, rfl, rfl⟩

theorem slices_ContainsFunc_int_c (s_0 : List Int) (f_1 : Int → Option Bool) {r : Bool} (f_1_f : Nat) (f_1_v : List AV) (f_1_e : ∀ args w, (callFunc f_1_f args).run Try.prog w = .ok (.enter f_1_f args) w) (f_1_h : ∀ (x0 : Int) r, f_1 x0 = some r → Fn Try.prog f_1_f ([.d (.lit (.int .i64 x0))] ++ f_1_v) (.d (.lit (.bool r)))) (h : slices_ContainsFunc_int s_0 f_1 = some r) : Fn Try.prog 84 [.d (.sl 1 (s_0.map encI)), .fn f_1_f f_1_v] (.d (.lit (.bool r))) := by
 unfold slices_ContainsFunc_int at h
 refine Fn.of_tr Try.func84 rfl (rs := [.tmp 4]) Try.results84 Try.ntmps84 (Nat.le_of_ble_eq_true rfl) ?_
 refine tr_seq ?_
 refine tr_region ?_
 refine tr1 rfl (s_assign (v := .d (.lit (.bool false))) (lt_of rfl) rfl rfl) ?_
 refine tr_nil ?_
 refine tr_seq ?_
 refine tr_region ?_
 refine tr1 rfl (s_move (v := .d (.sl 1 (s_0.map encI))) (lt_of rfl) rfl rfl) ?_
 refine tr1 rfl (s_move (v := .fn f_1_f f_1_v) (lt_of rfl) rfl rfl) ?_
 obtain ⟨r1, h2, h⟩ := bind_some h
 refine tr1 rfl (s_call (lt_of rfl) (.func _ _ Try.call108) rfl rfl (BVs.refl _ _) (slices_IndexFunc_int_c _ _ f_1_f f_1_v f_1_e f_1_h h2) rfl) ?_
 refine tr1 rfl (s_cmp (lt_of rfl) rfl rfl rfl) ?_
 refine tr1 rfl (s_assign (v := .d (.lit (.bool ((decide (0 ≤ r1)))))) (lt_of rfl) rfl rfl) ?_
 refine tr_nil ?_
 have h := Option.some.inj h
 subst h
 exact tr_ret ⟨rfl, _, .one _, rfl, rfl⟩

theorem play_isOrder_1_c (n_0 : Int) (c_1 : List Int) {r : Bool} (h : play_isOrder_1 n_0 c_1 = some r) : Fn Try.prog 85 [.d (.lit (.int .i64 n_0)), .cp [.sl 1 (c_1.map encI)]] (.d (.lit (.bool r))) := by
 unfold play_isOrder_1 at h
 refine Fn.of_tr Try.func85 rfl (rs := [.tmp 3]) Try.results85 Try.ntmps85 (Nat.le_of_ble_eq_true rfl) ?_
 refine tr_seq ?_
 refine tr_region ?_
 refine tr1 rfl (s_assign (v := .d (.lit (.bool false))) (lt_of rfl) rfl rfl) ?_
 refine tr_nil ?_
 refine tr_seq ?_
 refine tr_region ?_
 refine tr1 rfl (s_load_cp (lt_of rfl) rfl one_27) ?_
 refine tr1 rfl (s_move (v := .d (.lit (.int .i64 n_0))) (lt_of rfl) rfl rfl) ?_
 obtain ⟨r1, h2, h⟩ := bind_some h
 refine tr1 rfl (s_call (lt_of rfl) (.func _ _ Try.call63) rfl rfl (BVs.refl _ _) (slices_Contains_int_c _ _ h2) rfl) ?_
 refine tr1 rfl (s_not (lt_of rfl) rfl) ?_
 refine tr1 rfl (s_assign (v := .d (.lit (.bool (!r1)))) (lt_of rfl) rfl rfl) ?_
 refine tr_nil ?_
 have h := Option.some.inj h
 subst h
 exact tr_ret ⟨rfl, _, .one _, rfl, rfl⟩

theorem play_isOrder_c (p_0 : ApiProgram) (order_1 : List ApiSeat) {r : Bool} (h : play_isOrder p_0 order_1 = some r) : Fn Try.prog 50 [.agg (encApiProgram p_0), .d (.sl 3 (order_1.map encApiSeat))] (.d (.lit (.bool r))) := by
 unfold play_isOrder at h
 refine Fn.of_tr Try.func50 rfl (rs := [.tmp 4]) Try.results50 Try.ntmps50 (Nat.le_of_ble_eq_true rfl) ?_
 refine tr_seq ?_
 refine tr_region ?_
 refine tr_op rfl (s_box (v := .agg (encApiProgram p_0)) (lt_of rfl) rfl rfl rfl) ?_
 rintro _ ⟨b1, rfl⟩
 refine tr1 rfl (s_assign (v := .d (.lit (.bool false))) (lt_of rfl) rfl rfl) ?_
 refine tr_nil ?_
 refine tr_seq ?_
 refine tr_region ?_
 refine tr_op rfl (s_alloc (zs := [.lit (.slice none 0 0)]) (lt_of rfl) Try.zeroValue27 rfl rfl) ?_
 rintro _ ⟨b2, rfl⟩
 refine trl_ent (ent_nilarr 3 1) ?_
 refine tr_nil ?_
 refine tr_seq ?_
 refine tr_seq ?_
 refine tr_region ?_
 refine tr1 rfl (s_move (v := .d (.sl 3 (order_1.map encApiSeat))) (lt_of rfl) rfl rfl) ?_
 refine tr1 rfl (s_lenm (lt_of rfl) rfl sl_26.of) ?_
 refine tr1 rfl (s_move (v := .d (.lit (.int .i64 0))) (lt_of rfl) rfl rfl) ?_
 refine tr_nil ?_
 refine tr_blk ?_
 refine tr_loopk [1, 2, 5, 10, 11] (fun (s3 : Int × (List Int) × Value) => [(12, .d (.lit (.int .i64 s3.1)))]) (fun (s3 : Int × (List Int) × Value) => [.box b1 0 (encApiProgram p_0), .arr s3.2.2 3 1 (s3.2.1.map encI), .box b2 0 [.lit s3.2.2]]) (fun (k : Nat) (s3 : Int × (List Int) × Value) => play_isOrder_L0 order_1 order_1 (order_1.length : Int) p_0 k s3.1 s3.2.1) (fun _ => rfl) (0, ([] : List Int), (.slice none 0 0)) h (ent_pick [0, 2, 1] rfl rfl (le_upd rfl (le_keep ⟨rfl, rfl, rfl, rfl, rfl, trivial⟩))) ?_
 rintro k5 ⟨t12_0_3, done_0_3, w4⟩ h
 simp only [play_isOrder_L0] at h
 refine tr_seq ?_
 refine tr_region ?_
 refine tr1 rfl (s_cmp (lt_of rfl) rfl rfl rfl) ?_
 refine tr_nil ?_
 refine tr_seq ?_
 refine tr_if rfl (fun c6 => ?_) (fun c6 => ?_)
 ·have h := cond_tt c6 h
  refine tr_skip ?_
  refine tr_seq ?_
  refine tr_blk ?_
  refine tr_seq ?_
  refine tr_region ?_
  refine tr1 rfl (s_move (v := .d (.lit (.int .i64 t12_0_3))) (lt_of rfl) rfl rfl) ?_
  obtain ⟨x7, h8, h⟩ := bind_some h
  refine tr1 rfl (s_index_sl (lt_of rfl) rfl rfl sl_26.of (idx_map encApiSeat h8)) ?_
  refine tr1 rfl (s_loada_cp (lt_of rfl) rfl agg_45 (es := (encApiSeat x7)) rfl rfl) ?_
  refine tr_op rfl (s_alloc (zs := [.lit (.int .i64 0), .lit (.int .i64 0), .lit (.int .i64 0)]) (lt_of rfl) Try.zeroValue45 rfl rfl) ?_
  rintro _ ⟨b9, rfl⟩
  refine tr1 rfl (s_assign (v := .d (.lit (.int .i64 t12_0_3))) (lt_of rfl) rfl rfl) ?_
  refine tr1 rfl (s_store_bp (i := 3) rfl rfl rfl rfl rfl Try.sizeOf45 rfl (lt_of rfl) (Nat.le_of_ble_eq_true rfl) (ds' := (encApiSeat x7)) rfl) ?_
  refine tr_nil ?_
  refine tr_seq ?_
  refine tr_seq ?_
  obtain ⟨r10, h11, h⟩ := bind_some h
  obtain ⟨b12, h13, h⟩ := bind_some h
  obtain ⟨b17, h18, h⟩ := bind_some h
  obtain ⟨b22, h23, h⟩ := bind_some h
  refine tr_drawk mix 36 [1, 2, 5, 6, 7, 10, 11, 12] [(52, .d (.lit (.bool b22)))] ?_ ?_
  ·refine bool_cases (!r10) (fun c14 => ?_) (fun c14 => ?_)
   ·have h13 := cond_tt c14 h13
    have h13 := Option.some.inj h13
    subst h13
    have c19 : true = true := rfl
    have h18 := cond_tt c19 h18
    have h18 := Option.some.inj h18
    subst h18
    have c24 : true = true := rfl
    have h23 := cond_tt c24 h23
    have h23 := Option.some.inj h23
    subst h23
    refine ⟨[(17, 0, .bp b9 0 0), (18, 1, .d (.lit (.int .i64 x7.Job))), (19, 2, .bp b1 0 2), (20, 3, .d (.sl 6 (p_0.Jobs.map encApiJob))), (21, 4, .d (.lit (.int .i64 ((p_0.Jobs.length : Int))))), (22, 5, .d (.lit (.int .i64 ((w64 ((p_0.Jobs.length : Int) - 1)))))), (23, 6, .d (.lit (.bool r10))), (24, 7, .d (.lit (.bool (!r10)))), (25, 8, .d (.lit (.bool (!r10)))), (26, 9, .tup []), (27, 10, .tup []), (28, 11, .tup []), (29, 12, .tup []), (30, 13, .d (.lit (.bool true))), (31, 14, .d (.lit (.bool (true)))), (32, 15, .tup []), (33, 16, .tup []), (34, 17, .tup []), (35, 18, .tup []), (36, 19, .tup []), (37, 20, .tup []), (38, 21, .tup []), (39, 22, .tup []), (40, 23, .d (.lit (.bool true))), (41, 24, .d (.lit (.bool (true)))), (42, 25, .tup []), (43, 26, .tup []), (44, 27, .tup []), (45, 28, .tup []), (46, 29, .tup []), (47, 30, .tup []), (48, 31, .tup []), (49, 32, .tup []), (50, 33, .tup []), (51, 34, .tup []), (52, 35, .d (.lit (.bool true)))], ?_, ?_⟩
    · exact ⟨by kernel_rfl, by kernel_rfl, by kernel_rfl, by kernel_rfl, by kernel_rfl, [([], []), ([0], []), ([], []), ([2], []), ([3], []), ([4], []), ([1, 5], []), ([6], []), ([7], []), ([8], []), ([8], []), ([8, 10], []), ([8, 9, 11], []), ([8, 12], []), ([13], []), ([14], []), ([14, 15], []), ([14], []), ([14, 17], []), ([14, 18], []), ([14, 19], []), ([14, 16, 20], []), ([14, 21], []), ([14, 22], []), ([23], []), ([24], []), ([24, 25], []), ([24], []), ([24, 27], []), ([24, 28], []), ([24, 29], []), ([24, 30], []), ([24, 31], []), ([24, 26, 32], []), ([24, 33], []), ([24, 34], [])], by kernel_rfl, ⟨fun S hS => g_fin rfl (g_op rfl (s_field_bp (lt_of rfl) (ov_ev hS rfl) fld_45_0)),
      fun S hS => g_fin rfl (g_op rfl (s_load_bp (lt_of rfl) (ov_ev hS rfl) (i := 3) rfl rfl one_3)),
      fun S hS => g_fin rfl (g_op rfl (s_field_bp (lt_of rfl) (ov_ev hS rfl) fld_25_2)),
      fun S hS => g_fin rfl (g_op rfl (s_load_bp (lt_of rfl) (ov_ev hS rfl) (i := 0) rfl rfl one_23)),
      fun S hS => g_fin rfl (g_op rfl (s_lenm (lt_of rfl) (ov_ev hS rfl) sl_23.of)),
      fun S hS => g_fin rfl (g_op rfl (s_arith (lt_of rfl) (ov_ev hS rfl) rfl rfl)),
      fun S hS => g_fin rfl (g_op rfl (s_call (lt_of rfl) (.func _ _ Try.call57) (ev2 (ov_ev hS rfl) (ev2 rfl (ev2 (ov_ev hS rfl) evn))) rfl (BVs.refl _ _) (play_within_c _ _ _ h11) rfl)),
      fun S hS => g_fin rfl (g_op rfl (s_not (lt_of rfl) (ov_ev hS rfl))),
      fun S hS => g_fin rfl (g_op rfl (s_move (v := .d (.lit (.bool (!r10)))) (lt_of rfl) (ov_ev hS rfl) rfl)),
      fun S hS => g_fin rfl (g_pass rfl rfl (lt_of rfl) rfl (lt_of rfl) (ov_en hS rfl) c14),
      fun S hS => g_fin rfl (g_pass rfl rfl (lt_of rfl) rfl (lt_of rfl) (ov_en hS rfl) c14),
      fun S hS => g_fin rfl (g_pass rfl rfl (lt_of rfl) rfl (lt_of rfl) (ov_en hS rfl) c14),
      fun S hS => g_fin rfl (g_pass rfl rfl (lt_of rfl) rfl (lt_of rfl) (ov_en hS rfl) c14),
      fun S hS => g_fin rfl (g_op rfl (s_pick_t (v := .d (.lit (.bool true))) (lt_of rfl) (ov_ev hS rfl) c14 rfl rfl)),
      fun S hS => g_fin rfl (g_op rfl (s_move (v := .d (.lit (.bool (true)))) (lt_of rfl) (ov_ev hS rfl) rfl)),
      fun S hS => g_fin rfl (g_pass rfl rfl (lt_of rfl) rfl (lt_of rfl) (ov_en hS rfl) c19),
      fun S hS => g_fin rfl (g_pass rfl rfl (lt_of rfl) rfl (lt_of rfl) (ov_en hS rfl) c19),
      fun S hS => g_fin rfl (g_pass rfl rfl (lt_of rfl) rfl (lt_of rfl) (ov_en hS rfl) c19),
      fun S hS => g_fin rfl (g_pass rfl rfl (lt_of rfl) rfl (lt_of rfl) (ov_en hS rfl) c19),
      fun S hS => g_fin rfl (g_pass rfl rfl (lt_of rfl) rfl (lt_of rfl) (ov_en hS rfl) c19),
      fun S hS => g_fin rfl (g_pass rfl rfl (lt_of rfl) rfl (lt_of rfl) (ov_en hS rfl) c19),
      fun S hS => g_fin rfl (g_pass rfl rfl (lt_of rfl) rfl (lt_of rfl) (ov_en hS rfl) c19),
      fun S hS => g_fin rfl (g_pass rfl rfl (lt_of rfl) rfl (lt_of rfl) (ov_en hS rfl) c19),
      fun S hS => g_fin rfl (g_op rfl (s_pick_t (v := .d (.lit (.bool true))) (lt_of rfl) (ov_ev hS rfl) c19 rfl rfl)),
      fun S hS => g_fin rfl (g_op rfl (s_move (v := .d (.lit (.bool (true)))) (lt_of rfl) (ov_ev hS rfl) rfl)),
      fun S hS => g_fin rfl (g_pass rfl rfl (lt_of rfl) rfl (lt_of rfl) (ov_en hS rfl) c24),
      fun S hS => g_fin rfl (g_pass rfl rfl (lt_of rfl) rfl (lt_of rfl) (ov_en hS rfl) c24),
      fun S hS => g_fin rfl (g_pass rfl rfl (lt_of rfl) rfl (lt_of rfl) (ov_en hS rfl) c24),
      fun S hS => g_fin rfl (g_pass rfl rfl (lt_of rfl) rfl (lt_of rfl) (ov_en hS rfl) c24),
      fun S hS => g_fin rfl (g_pass rfl rfl (lt_of rfl) rfl (lt_of rfl) (ov_en hS rfl) c24),
      fun S hS => g_fin rfl (g_pass rfl rfl (lt_of rfl) rfl (lt_of rfl) (ov_en hS rfl) c24),
      fun S hS => g_fin rfl (g_pass rfl rfl (lt_of rfl) rfl (lt_of rfl) (ov_en hS rfl) c24),
      fun S hS => g_fin rfl (g_pass rfl rfl (lt_of rfl) rfl (lt_of rfl) (ov_en hS rfl) c24),
      fun S hS => g_fin rfl (g_pass rfl rfl (lt_of rfl) rfl (lt_of rfl) (ov_en hS rfl) c24),
      fun S hS => g_fin rfl (g_pass rfl rfl (lt_of rfl) rfl (lt_of rfl) (ov_en hS rfl) c24),
      fun S hS => g_fin rfl (g_op rfl (s_pick_t (v := .d (.lit (.bool true))) (lt_of rfl) (ov_ev hS rfl) c24 rfl rfl)), trivial⟩⟩
    · exact ent_le (le_upd rfl (le_keep ⟨rfl, rfl, rfl, rfl, rfl, rfl, rfl, rfl, trivial⟩))
   ·have h13 := cond_ff c14 h13
    obtain ⟨r15, h16, h13⟩ := bind_some h13
    have h13 := Option.some.inj h13
    subst h13
    refine bool_cases (r15) (fun c19 => ?_) (fun c19 => ?_)
    ·have h18 := cond_tt c19 h18
     have h18 := Option.some.inj h18
     subst h18
     have c24 : true = true := rfl
     have h23 := cond_tt c24 h23
     have h23 := Option.some.inj h23
     subst h23
     refine ⟨[(17, 0, .bp b9 0 0), (18, 1, .d (.lit (.int .i64 x7.Job))), (19, 2, .bp b1 0 2), (20, 3, .d (.sl 6 (p_0.Jobs.map encApiJob))), (21, 4, .d (.lit (.int .i64 ((p_0.Jobs.length : Int))))), (22, 5, .d (.lit (.int .i64 ((w64 ((p_0.Jobs.length : Int) - 1)))))), (23, 6, .d (.lit (.bool r10))), (24, 7, .d (.lit (.bool (!r10)))), (25, 8, .d (.lit (.bool (!r10)))), (26, 9, .d (.lit w4)), (27, 10, .bp b9 0 0), (28, 11, .d (.lit (.int .i64 x7.Job))), (29, 12, .d (.lit (.bool r15))), (30, 13, .d (.lit (.bool r15))), (31, 14, .d (.lit (.bool (r15)))), (32, 15, .tup []), (33, 16, .tup []), (34, 17, .tup []), (35, 18, .tup []), (36, 19, .tup []), (37, 20, .tup []), (38, 21, .tup []), (39, 22, .tup []), (40, 23, .d (.lit (.bool true))), (41, 24, .d (.lit (.bool (true)))), (42, 25, .tup []), (43, 26, .tup []), (44, 27, .tup []), (45, 28, .tup []), (46, 29, .tup []), (47, 30, .tup []), (48, 31, .tup []), (49, 32, .tup []), (50, 33, .tup []), (51, 34, .tup []), (52, 35, .d (.lit (.bool true)))], ?_, ?_⟩
     · exact ⟨by kernel_rfl, by kernel_rfl, by kernel_rfl, by kernel_rfl, by kernel_rfl, [([], []), ([0], []), ([], []), ([2], []), ([3], []), ([4], []), ([1, 5], []), ([6], []), ([7], []), ([8], []), ([8], []), ([8, 10], []), ([8, 9, 11], []), ([8, 12], []), ([13], []), ([14], []), ([14, 15], []), ([14], []), ([14, 17], []), ([14, 18], []), ([14, 19], []), ([14, 16, 20], []), ([14, 21], []), ([14, 22], []), ([23], []), ([24], []), ([24, 25], []), ([24], []), ([24, 27], []), ([24, 28], []), ([24, 29], []), ([24, 30], []), ([24, 31], []), ([24, 26, 32], []), ([24, 33], []), ([24, 34], [])], by kernel_rfl, ⟨fun S hS => g_fin rfl (g_op rfl (s_field_bp (lt_of rfl) (ov_ev hS rfl) fld_45_0)),
      fun S hS => g_fin rfl (g_op rfl (s_load_bp (lt_of rfl) (ov_ev hS rfl) (i := 3) rfl rfl one_3)),
      fun S hS => g_fin rfl (g_op rfl (s_field_bp (lt_of rfl) (ov_ev hS rfl) fld_25_2)),
      fun S hS => g_fin rfl (g_op rfl (s_load_bp (lt_of rfl) (ov_ev hS rfl) (i := 0) rfl rfl one_23)),
      fun S hS => g_fin rfl (g_op rfl (s_lenm (lt_of rfl) (ov_ev hS rfl) sl_23.of)),
      fun S hS => g_fin rfl (g_op rfl (s_arith (lt_of rfl) (ov_ev hS rfl) rfl rfl)),
      fun S hS => g_fin rfl (g_op rfl (s_call (lt_of rfl) (.func _ _ Try.call57) (ev2 (ov_ev hS rfl) (ev2 rfl (ev2 (ov_ev hS rfl) evn))) rfl (BVs.refl _ _) (play_within_c _ _ _ h11) rfl)),
      fun S hS => g_fin rfl (g_op rfl (s_not (lt_of rfl) (ov_ev hS rfl))),
      fun S hS => g_fin rfl (g_op rfl (s_move (v := .d (.lit (.bool (!r10)))) (lt_of rfl) (ov_ev hS rfl) rfl)),
      fun S hS => g_fin rfl (g_take rfl rfl (lt_of rfl) (ov_en hS rfl) c14 (s_load_bp (lt_of rfl) (ov_ev hS rfl) (i := 2) rfl rfl one_27)),
      fun S hS => g_fin rfl (g_take rfl rfl (lt_of rfl) (ov_en hS rfl) c14 (s_field_bp (lt_of rfl) (ov_ev hS rfl) fld_45_0)),
      fun S hS => g_fin rfl (g_take rfl rfl (lt_of rfl) (ov_en hS rfl) c14 (s_load_bp (lt_of rfl) (ov_ev hS rfl) (i := 3) rfl rfl one_3)),
      fun S hS => g_fin rfl (g_take rfl rfl (lt_of rfl) (ov_en hS rfl) c14 (s_call (lt_of rfl) (.func _ _ Try.call63) (ev2 (ov_ev hS rfl) (ev2 (ov_ev hS rfl) evn)) rfl (.cons (.d (dv_arr 1 rfl (map_len (f := encI) fun _ => rfl))) (.cons (.same _) .nil)) (slices_Contains_int_c _ _ h16) rfl)),
      fun S hS => g_fin rfl (g_op rfl (s_pick_f (v := .d (.lit (.bool r15))) (lt_of rfl) (ov_ev hS rfl) c14 (ov_ev hS rfl) rfl)),
      fun S hS => g_fin rfl (g_op rfl (s_move (v := .d (.lit (.bool (r15)))) (lt_of rfl) (ov_ev hS rfl) rfl)),
      fun S hS => g_fin rfl (g_pass rfl rfl (lt_of rfl) rfl (lt_of rfl) (ov_en hS rfl) c19),
      fun S hS => g_fin rfl (g_pass rfl rfl (lt_of rfl) rfl (lt_of rfl) (ov_en hS rfl) c19),
      fun S hS => g_fin rfl (g_pass rfl rfl (lt_of rfl) rfl (lt_of rfl) (ov_en hS rfl) c19),
      fun S hS => g_fin rfl (g_pass rfl rfl (lt_of rfl) rfl (lt_of rfl) (ov_en hS rfl) c19),
      fun S hS => g_fin rfl (g_pass rfl rfl (lt_of rfl) rfl (lt_of rfl) (ov_en hS rfl) c19),
      fun S hS => g_fin rfl (g_pass rfl rfl (lt_of rfl) rfl (lt_of rfl) (ov_en hS rfl) c19),
      fun S hS => g_fin rfl (g_pass rfl rfl (lt_of rfl) rfl (lt_of rfl) (ov_en hS rfl) c19),
      fun S hS => g_fin rfl (g_pass rfl rfl (lt_of rfl) rfl (lt_of rfl) (ov_en hS rfl) c19),
      fun S hS => g_fin rfl (g_op rfl (s_pick_t (v := .d (.lit (.bool true))) (lt_of rfl) (ov_ev hS rfl) c19 rfl rfl)),
      fun S hS => g_fin rfl (g_op rfl (s_move (v := .d (.lit (.bool (true)))) (lt_of rfl) (ov_ev hS rfl) rfl)),
      fun S hS => g_fin rfl (g_pass rfl rfl (lt_of rfl) rfl (lt_of rfl) (ov_en hS rfl) c24),
      fun S hS => g_fin rfl (g_pass rfl rfl (lt_of rfl) rfl (lt_of rfl) (ov_en hS rfl) c24),
      fun S hS => g_fin rfl (g_pass rfl rfl (lt_of rfl) rfl (lt_of rfl) (ov_en hS rfl) c24),
      fun S hS => g_fin rfl (g_pass rfl rfl (lt_of rfl) rfl (lt_of rfl) (ov_en hS rfl) c24),
      fun S hS => g_fin rfl (g_pass rfl rfl (lt_of rfl) rfl (lt_of rfl) (ov_en hS rfl) c24),
      fun S hS => g_fin rfl (g_pass rfl rfl (lt_of rfl) rfl (lt_of rfl) (ov_en hS rfl) c24),
      fun S hS => g_fin rfl (g_pass rfl rfl (lt_of rfl) rfl (lt_of rfl) (ov_en hS rfl) c24),
      fun S hS => g_fin rfl (g_pass rfl rfl (lt_of rfl) rfl (lt_of rfl) (ov_en hS rfl) c24),
      fun S hS => g_fin rfl (g_pass rfl rfl (lt_of rfl) rfl (lt_of rfl) (ov_en hS rfl) c24),
      fun S hS => g_fin rfl (g_pass rfl rfl (lt_of rfl) rfl (lt_of rfl) (ov_en hS rfl) c24),
      fun S hS => g_fin rfl (g_op rfl (s_pick_t (v := .d (.lit (.bool true))) (lt_of rfl) (ov_ev hS rfl) c24 rfl rfl)), trivial⟩⟩
     · exact ent_le (le_upd rfl (le_keep ⟨rfl, rfl, rfl, rfl, rfl, rfl, rfl, rfl, trivial⟩))
    ·have h18 := cond_ff c19 h18
     obtain ⟨r20, h21, h18⟩ := bind_some h18
     have h18 := Option.some.inj h18
     subst h18
     refine bool_cases (!r20) (fun c24 => ?_) (fun c24 => ?_)
     ·have h23 := cond_tt c24 h23
      have h23 := Option.some.inj h23
      subst h23
      refine ⟨[(17, 0, .bp b9 0 0), (18, 1, .d (.lit (.int .i64 x7.Job))), (19, 2, .bp b1 0 2), (20, 3, .d (.sl 6 (p_0.Jobs.map encApiJob))), (21, 4, .d (.lit (.int .i64 ((p_0.Jobs.length : Int))))), (22, 5, .d (.lit (.int .i64 ((w64 ((p_0.Jobs.length : Int) - 1)))))), (23, 6, .d (.lit (.bool r10))), (24, 7, .d (.lit (.bool (!r10)))), (25, 8, .d (.lit (.bool (!r10)))), (26, 9, .d (.lit w4)), (27, 10, .bp b9 0 0), (28, 11, .d (.lit (.int .i64 x7.Job))), (29, 12, .d (.lit (.bool r15))), (30, 13, .d (.lit (.bool r15))), (31, 14, .d (.lit (.bool (r15)))), (32, 15, .bp b9 0 1), (33, 16, .d (.lit (.int .i64 x7.Day))), (34, 17, .bp b1 0 0), (35, 18, .d (.sl 1 (p_0.Days.map encSl_ApiSpan))), (36, 19, .d (.lit (.int .i64 ((p_0.Days.length : Int))))), (37, 20, .d (.lit (.int .i64 ((w64 ((p_0.Days.length : Int) - 1)))))), (38, 21, .d (.lit (.bool r20))), (39, 22, .d (.lit (.bool (!r20)))), (40, 23, .d (.lit (.bool (!r20)))), (41, 24, .d (.lit (.bool (!r20)))), (42, 25, .tup []), (43, 26, .tup []), (44, 27, .tup []), (45, 28, .tup []), (46, 29, .tup []), (47, 30, .tup []), (48, 31, .tup []), (49, 32, .tup []), (50, 33, .tup []), (51, 34, .tup []), (52, 35, .d (.lit (.bool true)))], ?_, ?_⟩
      · exact ⟨by kernel_rfl, by kernel_rfl, by kernel_rfl, by kernel_rfl, by kernel_rfl, [([], []), ([0], []), ([], []), ([2], []), ([3], []), ([4], []), ([1, 5], []), ([6], []), ([7], []), ([8], []), ([8], []), ([8, 10], []), ([8, 9, 11], []), ([8, 12], []), ([13], []), ([14], []), ([14, 15], []), ([14], []), ([14, 17], []), ([14, 18], []), ([14, 19], []), ([14, 16, 20], []), ([14, 21], []), ([14, 22], []), ([23], []), ([24], []), ([24, 25], []), ([24], []), ([24, 27], []), ([24, 28], []), ([24, 29], []), ([24, 30], []), ([24, 31], []), ([24, 26, 32], []), ([24, 33], []), ([24, 34], [])], by kernel_rfl, ⟨fun S hS => g_fin rfl (g_op rfl (s_field_bp (lt_of rfl) (ov_ev hS rfl) fld_45_0)),
      fun S hS => g_fin rfl (g_op rfl (s_load_bp (lt_of rfl) (ov_ev hS rfl) (i := 3) rfl rfl one_3)),
      fun S hS => g_fin rfl (g_op rfl (s_field_bp (lt_of rfl) (ov_ev hS rfl) fld_25_2)),
      fun S hS => g_fin rfl (g_op rfl (s_load_bp (lt_of rfl) (ov_ev hS rfl) (i := 0) rfl rfl one_23)),
      fun S hS => g_fin rfl (g_op rfl (s_lenm (lt_of rfl) (ov_ev hS rfl) sl_23.of)),
      fun S hS => g_fin rfl (g_op rfl (s_arith (lt_of rfl) (ov_ev hS rfl) rfl rfl)),
      fun S hS => g_fin rfl (g_op rfl (s_call (lt_of rfl) (.func _ _ Try.call57) (ev2 (ov_ev hS rfl) (ev2 rfl (ev2 (ov_ev hS rfl) evn))) rfl (BVs.refl _ _) (play_within_c _ _ _ h11) rfl)),
      fun S hS => g_fin rfl (g_op rfl (s_not (lt_of rfl) (ov_ev hS rfl))),
      fun S hS => g_fin rfl (g_op rfl (s_move (v := .d (.lit (.bool (!r10)))) (lt_of rfl) (ov_ev hS rfl) rfl)),
      fun S hS => g_fin rfl (g_take rfl rfl (lt_of rfl) (ov_en hS rfl) c14 (s_load_bp (lt_of rfl) (ov_ev hS rfl) (i := 2) rfl rfl one_27)),
      fun S hS => g_fin rfl (g_take rfl rfl (lt_of rfl) (ov_en hS rfl) c14 (s_field_bp (lt_of rfl) (ov_ev hS rfl) fld_45_0)),
      fun S hS => g_fin rfl (g_take rfl rfl (lt_of rfl) (ov_en hS rfl) c14 (s_load_bp (lt_of rfl) (ov_ev hS rfl) (i := 3) rfl rfl one_3)),
      fun S hS => g_fin rfl (g_take rfl rfl (lt_of rfl) (ov_en hS rfl) c14 (s_call (lt_of rfl) (.func _ _ Try.call63) (ev2 (ov_ev hS rfl) (ev2 (ov_ev hS rfl) evn)) rfl (.cons (.d (dv_arr 1 rfl (map_len (f := encI) fun _ => rfl))) (.cons (.same _) .nil)) (slices_Contains_int_c _ _ h16) rfl)),
      fun S hS => g_fin rfl (g_op rfl (s_pick_f (v := .d (.lit (.bool r15))) (lt_of rfl) (ov_ev hS rfl) c14 (ov_ev hS rfl) rfl)),
      fun S hS => g_fin rfl (g_op rfl (s_move (v := .d (.lit (.bool (r15)))) (lt_of rfl) (ov_ev hS rfl) rfl)),
      fun S hS => g_fin rfl (g_take rfl rfl (lt_of rfl) (ov_en hS rfl) c19 (s_field_bp (lt_of rfl) (ov_ev hS rfl) fld_45_1)),
      fun S hS => g_fin rfl (g_take rfl rfl (lt_of rfl) (ov_en hS rfl) c19 (s_load_bp (lt_of rfl) (ov_ev hS rfl) (i := 3) rfl rfl one_3)),
      fun S hS => g_fin rfl (g_take rfl rfl (lt_of rfl) (ov_en hS rfl) c19 (s_field_bp (lt_of rfl) (ov_ev hS rfl) fld_25_0)),
      fun S hS => g_fin rfl (g_take rfl rfl (lt_of rfl) (ov_en hS rfl) c19 (s_load_bp (lt_of rfl) (ov_ev hS rfl) (i := 0) rfl rfl one_22)),
      fun S hS => g_fin rfl (g_take rfl rfl (lt_of rfl) (ov_en hS rfl) c19 (s_lenm (lt_of rfl) (ov_ev hS rfl) sl_22.of)),
      fun S hS => g_fin rfl (g_take rfl rfl (lt_of rfl) (ov_en hS rfl) c19 (s_arith (lt_of rfl) (ov_ev hS rfl) rfl rfl)),
      fun S hS => g_fin rfl (g_take rfl rfl (lt_of rfl) (ov_en hS rfl) c19 (s_call (lt_of rfl) (.func _ _ Try.call57) (ev2 (ov_ev hS rfl) (ev2 rfl (ev2 (ov_ev hS rfl) evn))) rfl (BVs.refl _ _) (play_within_c _ _ _ h21) rfl)),
      fun S hS => g_fin rfl (g_take rfl rfl (lt_of rfl) (ov_en hS rfl) c19 (s_not (lt_of rfl) (ov_ev hS rfl))),
      fun S hS => g_fin rfl (g_op rfl (s_pick_f (v := .d (.lit (.bool (!r20)))) (lt_of rfl) (ov_ev hS rfl) c19 (ov_ev hS rfl) rfl)),
      fun S hS => g_fin rfl (g_op rfl (s_move (v := .d (.lit (.bool (!r20)))) (lt_of rfl) (ov_ev hS rfl) rfl)),
      fun S hS => g_fin rfl (g_pass rfl rfl (lt_of rfl) rfl (lt_of rfl) (ov_en hS rfl) c24),
      fun S hS => g_fin rfl (g_pass rfl rfl (lt_of rfl) rfl (lt_of rfl) (ov_en hS rfl) c24),
      fun S hS => g_fin rfl (g_pass rfl rfl (lt_of rfl) rfl (lt_of rfl) (ov_en hS rfl) c24),
      fun S hS => g_fin rfl (g_pass rfl rfl (lt_of rfl) rfl (lt_of rfl) (ov_en hS rfl) c24),
      fun S hS => g_fin rfl (g_pass rfl rfl (lt_of rfl) rfl (lt_of rfl) (ov_en hS rfl) c24),
      fun S hS => g_fin rfl (g_pass rfl rfl (lt_of rfl) rfl (lt_of rfl) (ov_en hS rfl) c24),
      fun S hS => g_fin rfl (g_pass rfl rfl (lt_of rfl) rfl (lt_of rfl) (ov_en hS rfl) c24),
      fun S hS => g_fin rfl (g_pass rfl rfl (lt_of rfl) rfl (lt_of rfl) (ov_en hS rfl) c24),
      fun S hS => g_fin rfl (g_pass rfl rfl (lt_of rfl) rfl (lt_of rfl) (ov_en hS rfl) c24),
      fun S hS => g_fin rfl (g_pass rfl rfl (lt_of rfl) rfl (lt_of rfl) (ov_en hS rfl) c24),
      fun S hS => g_fin rfl (g_op rfl (s_pick_t (v := .d (.lit (.bool true))) (lt_of rfl) (ov_ev hS rfl) c24 rfl rfl)), trivial⟩⟩
      · exact ent_le (le_upd rfl (le_keep ⟨rfl, rfl, rfl, rfl, rfl, rfl, rfl, rfl, trivial⟩))
     ·have h23 := cond_ff c24 h23
      obtain ⟨x25, h26, h23⟩ := bind_some h23
      obtain ⟨r27, h28, h23⟩ := bind_some h23
      have h23 := Option.some.inj h23
      subst h23
      refine ⟨[(17, 0, .bp b9 0 0), (18, 1, .d (.lit (.int .i64 x7.Job))), (19, 2, .bp b1 0 2), (20, 3, .d (.sl 6 (p_0.Jobs.map encApiJob))), (21, 4, .d (.lit (.int .i64 ((p_0.Jobs.length : Int))))), (22, 5, .d (.lit (.int .i64 ((w64 ((p_0.Jobs.length : Int) - 1)))))), (23, 6, .d (.lit (.bool r10))), (24, 7, .d (.lit (.bool (!r10)))), (25, 8, .d (.lit (.bool (!r10)))), (26, 9, .d (.lit w4)), (27, 10, .bp b9 0 0), (28, 11, .d (.lit (.int .i64 x7.Job))), (29, 12, .d (.lit (.bool r15))), (30, 13, .d (.lit (.bool r15))), (31, 14, .d (.lit (.bool (r15)))), (32, 15, .bp b9 0 1), (33, 16, .d (.lit (.int .i64 x7.Day))), (34, 17, .bp b1 0 0), (35, 18, .d (.sl 1 (p_0.Days.map encSl_ApiSpan))), (36, 19, .d (.lit (.int .i64 ((p_0.Days.length : Int))))), (37, 20, .d (.lit (.int .i64 ((w64 ((p_0.Days.length : Int) - 1)))))), (38, 21, .d (.lit (.bool r20))), (39, 22, .d (.lit (.bool (!r20)))), (40, 23, .d (.lit (.bool (!r20)))), (41, 24, .d (.lit (.bool (!r20)))), (42, 25, .bp b9 0 2), (43, 26, .d (.lit (.int .i64 x7.Court))), (44, 27, .bp b1 0 0), (45, 28, .d (.sl 1 (p_0.Days.map encSl_ApiSpan))), (46, 29, .cp [.sl 2 (x25.map encApiSpan)]), (47, 30, .d (.sl 2 (x25.map encApiSpan))), (48, 31, .d (.lit (.int .i64 ((x25.length : Int))))), (49, 32, .d (.lit (.int .i64 ((w64 ((x25.length : Int) - 1)))))), (50, 33, .d (.lit (.bool r27))), (51, 34, .d (.lit (.bool (!r27)))), (52, 35, .d (.lit (.bool (!r27))))], ?_, ?_⟩
      · exact ⟨by kernel_rfl, by kernel_rfl, by kernel_rfl, by kernel_rfl, by kernel_rfl, [([], []), ([0], []), ([], []), ([2], []), ([3], []), ([4], []), ([1, 5], []), ([6], []), ([7], []), ([8], []), ([8], []), ([8, 10], []), ([8, 9, 11], []), ([8, 12], []), ([13], []), ([14], []), ([14, 15], []), ([14], []), ([14, 17], []), ([14, 18], []), ([14, 19], []), ([14, 16, 20], []), ([14, 21], []), ([14, 22], []), ([23], []), ([24], []), ([24, 25], []), ([24], []), ([24, 27], []), ([24, 28], []), ([24, 29], []), ([24, 30], []), ([24, 31], []), ([24, 26, 32], []), ([24, 33], []), ([24, 34], [])], by kernel_rfl, ⟨fun S hS => g_fin rfl (g_op rfl (s_field_bp (lt_of rfl) (ov_ev hS rfl) fld_45_0)),
      fun S hS => g_fin rfl (g_op rfl (s_load_bp (lt_of rfl) (ov_ev hS rfl) (i := 3) rfl rfl one_3)),
      fun S hS => g_fin rfl (g_op rfl (s_field_bp (lt_of rfl) (ov_ev hS rfl) fld_25_2)),
      fun S hS => g_fin rfl (g_op rfl (s_load_bp (lt_of rfl) (ov_ev hS rfl) (i := 0) rfl rfl one_23)),
      fun S hS => g_fin rfl (g_op rfl (s_lenm (lt_of rfl) (ov_ev hS rfl) sl_23.of)),
      fun S hS => g_fin rfl (g_op rfl (s_arith (lt_of rfl) (ov_ev hS rfl) rfl rfl)),
      fun S hS => g_fin rfl (g_op rfl (s_call (lt_of rfl) (.func _ _ Try.call57) (ev2 (ov_ev hS rfl) (ev2 rfl (ev2 (ov_ev hS rfl) evn))) rfl (BVs.refl _ _) (play_within_c _ _ _ h11) rfl)),
      fun S hS => g_fin rfl (g_op rfl (s_not (lt_of rfl) (ov_ev hS rfl))),
      fun S hS => g_fin rfl (g_op rfl (s_move (v := .d (.lit (.bool (!r10)))) (lt_of rfl) (ov_ev hS rfl) rfl)),
      fun S hS => g_fin rfl (g_take rfl rfl (lt_of rfl) (ov_en hS rfl) c14 (s_load_bp (lt_of rfl) (ov_ev hS rfl) (i := 2) rfl rfl one_27)),
      fun S hS => g_fin rfl (g_take rfl rfl (lt_of rfl) (ov_en hS rfl) c14 (s_field_bp (lt_of rfl) (ov_ev hS rfl) fld_45_0)),
      fun S hS => g_fin rfl (g_take rfl rfl (lt_of rfl) (ov_en hS rfl) c14 (s_load_bp (lt_of rfl) (ov_ev hS rfl) (i := 3) rfl rfl one_3)),
      fun S hS => g_fin rfl (g_take rfl rfl (lt_of rfl) (ov_en hS rfl) c14 (s_call (lt_of rfl) (.func _ _ Try.call63) (ev2 (ov_ev hS rfl) (ev2 (ov_ev hS rfl) evn)) rfl (.cons (.d (dv_arr 1 rfl (map_len (f := encI) fun _ => rfl))) (.cons (.same _) .nil)) (slices_Contains_int_c _ _ h16) rfl)),
      fun S hS => g_fin rfl (g_op rfl (s_pick_f (v := .d (.lit (.bool r15))) (lt_of rfl) (ov_ev hS rfl) c14 (ov_ev hS rfl) rfl)),
      fun S hS => g_fin rfl (g_op rfl (s_move (v := .d (.lit (.bool (r15)))) (lt_of rfl) (ov_ev hS rfl) rfl)),
      fun S hS => g_fin rfl (g_take rfl rfl (lt_of rfl) (ov_en hS rfl) c19 (s_field_bp (lt_of rfl) (ov_ev hS rfl) fld_45_1)),
      fun S hS => g_fin rfl (g_take rfl rfl (lt_of rfl) (ov_en hS rfl) c19 (s_load_bp (lt_of rfl) (ov_ev hS rfl) (i := 3) rfl rfl one_3)),
      fun S hS => g_fin rfl (g_take rfl rfl (lt_of rfl) (ov_en hS rfl) c19 (s_field_bp (lt_of rfl) (ov_ev hS rfl) fld_25_0)),
      fun S hS => g_fin rfl (g_take rfl rfl (lt_of rfl) (ov_en hS rfl) c19 (s_load_bp (lt_of rfl) (ov_ev hS rfl) (i := 0) rfl rfl one_22)),
      fun S hS => g_fin rfl (g_take rfl rfl (lt_of rfl) (ov_en hS rfl) c19 (s_lenm (lt_of rfl) (ov_ev hS rfl) sl_22.of)),
      fun S hS => g_fin rfl (g_take rfl rfl (lt_of rfl) (ov_en hS rfl) c19 (s_arith (lt_of rfl) (ov_ev hS rfl) rfl rfl)),
      fun S hS => g_fin rfl (g_take rfl rfl (lt_of rfl) (ov_en hS rfl) c19 (s_call (lt_of rfl) (.func _ _ Try.call57) (ev2 (ov_ev hS rfl) (ev2 rfl (ev2 (ov_ev hS rfl) evn))) rfl (BVs.refl _ _) (play_within_c _ _ _ h21) rfl)),
      fun S hS => g_fin rfl (g_take rfl rfl (lt_of rfl) (ov_en hS rfl) c19 (s_not (lt_of rfl) (ov_ev hS rfl))),
      fun S hS => g_fin rfl (g_op rfl (s_pick_f (v := .d (.lit (.bool (!r20)))) (lt_of rfl) (ov_ev hS rfl) c19 (ov_ev hS rfl) rfl)),
      fun S hS => g_fin rfl (g_op rfl (s_move (v := .d (.lit (.bool (!r20)))) (lt_of rfl) (ov_ev hS rfl) rfl)),
      fun S hS => g_fin rfl (g_take rfl rfl (lt_of rfl) (ov_en hS rfl) c24 (s_field_bp (lt_of rfl) (ov_ev hS rfl) fld_45_2)),
      fun S hS => g_fin rfl (g_take rfl rfl (lt_of rfl) (ov_en hS rfl) c24 (s_load_bp (lt_of rfl) (ov_ev hS rfl) (i := 3) rfl rfl one_3)),
      fun S hS => g_fin rfl (g_take rfl rfl (lt_of rfl) (ov_en hS rfl) c24 (s_field_bp (lt_of rfl) (ov_ev hS rfl) fld_25_0)),
      fun S hS => g_fin rfl (g_take rfl rfl (lt_of rfl) (ov_en hS rfl) c24 (s_load_bp (lt_of rfl) (ov_ev hS rfl) (i := 0) rfl rfl one_22)),
      fun S hS => g_fin rfl (g_take rfl rfl (lt_of rfl) (ov_en hS rfl) c24 (s_index_sl (lt_of rfl) (ov_ev hS rfl) rfl sl_22.of (idx_map encSl_ApiSpan h26))),
      fun S hS => g_fin rfl (g_take rfl rfl (lt_of rfl) (ov_en hS rfl) c24 (s_load_cp (lt_of rfl) (ov_ev hS rfl) one_37)),
      fun S hS => g_fin rfl (g_take rfl rfl (lt_of rfl) (ov_en hS rfl) c24 (s_lenm (lt_of rfl) (ov_ev hS rfl) sl_37.of)),
      fun S hS => g_fin rfl (g_take rfl rfl (lt_of rfl) (ov_en hS rfl) c24 (s_arith (lt_of rfl) (ov_ev hS rfl) rfl rfl)),
      fun S hS => g_fin rfl (g_take rfl rfl (lt_of rfl) (ov_en hS rfl) c24 (s_call (lt_of rfl) (.func _ _ Try.call57) (ev2 (ov_ev hS rfl) (ev2 rfl (ev2 (ov_ev hS rfl) evn))) rfl (BVs.refl _ _) (play_within_c _ _ _ h28) rfl)),
      fun S hS => g_fin rfl (g_take rfl rfl (lt_of rfl) (ov_en hS rfl) c24 (s_not (lt_of rfl) (ov_ev hS rfl))),
      fun S hS => g_fin rfl (g_op rfl (s_pick_f (v := .d (.lit (.bool (!r27)))) (lt_of rfl) (ov_ev hS rfl) c24 (ov_ev hS rfl) rfl)), trivial⟩⟩
      · exact ent_le (le_upd rfl (le_keep ⟨rfl, rfl, rfl, rfl, rfl, rfl, rfl, rfl, trivial⟩))
  ·refine tr_nil ?_
   refine tr_if rfl (fun c29 => ?_) (fun c29 => ?_)
   ·have h := cond_tt c29 h
    refine tr_seq ?_
    refine tr_region ?_
    refine tr1 rfl (s_assign (v := .d (.lit (.bool false))) (lt_of rfl) rfl rfl) ?_
    refine tr_nil ?_
    have h := Option.some.inj h
    subst h
    refine tr_ent (ent_free (ble_keep (l := [4]) ⟨rfl, trivial⟩)) ?_
    exact tr_ret ⟨rfl, _, .one _, rfl, rfl⟩
   ·have h := cond_ff c29 h
    refine tr_skip ?_
    refine tr_seq ?_
    refine tr_region ?_
    refine tr1 rfl (s_field_bp (lt_of rfl) rfl fld_25_2) ?_
    refine tr1 rfl (s_load_bp (lt_of rfl) rfl (i := 0) rfl rfl one_23) ?_
    refine tr1 rfl (s_field_bp (lt_of rfl) rfl fld_45_0) ?_
    refine tr1 rfl (s_load_bp (lt_of rfl) rfl (i := 3) rfl rfl one_3) ?_
    obtain ⟨x30, h31, h⟩ := bind_some h
    refine tr1 rfl (s_index_sl (lt_of rfl) rfl rfl sl_23.of (idx_map encApiJob h31)) ?_
    refine tr1 rfl (s_loada_cp (lt_of rfl) rfl agg_36 (es := (encApiJob x30)) rfl rfl) ?_
    refine tr_op rfl (s_alloc (zs := [.lit (.int .i64 0), .lit (.int .i64 0), .sl 1 ((([] : List Int)).map encI), .sl 1 ((([] : List Int)).map encI), .lit (.int .i64 0), .lit (.int .i64 0)]) (lt_of rfl) Try.zeroValue36 rfl rfl) ?_
    rintro _ ⟨b32, rfl⟩
    refine tr1 rfl (s_store_bp (i := 4) rfl rfl rfl rfl rfl Try.sizeOf36 rfl (lt_of rfl) (Nat.le_of_ble_eq_true rfl) (ds' := (encApiJob x30)) rfl) ?_
    refine tr_nil ?_
    refine tr_seq ?_
    refine tr_region ?_
    refine tr1 rfl (s_field_bp (lt_of rfl) rfl fld_36_1) ?_
    refine tr1 rfl (s_load_bp (lt_of rfl) rfl (i := 4) rfl rfl one_27) ?_
    refine tr1 rfl (s_func (lt_of rfl) rfl rfl) ?_
    obtain ⟨r34, h35, h⟩ := bind_some h
    refine tr1 rfl (s_call (lt_of rfl) (.func _ _ Try.call84) rfl rfl (.cons (.same _) (.cons ((bv_fn (.cons ((bv_bp 2 rfl rfl (dvc (dv_arr 1 rfl (map_len (f := encI) fun _ => rfl)) dvn))) .nil))) .nil)) (slices_ContainsFunc_int_c _ _ 85 [.cp [.sl 1 (done_0_3.map encI)]] Try.call85 (fun _ _ h => play_isOrder_1_c _ _ h) h35) rfl) ?_
    refine tr1 rfl (s_assign (v := .d (.lit (.bool r34))) (lt_of rfl) rfl rfl) ?_
    refine tr_nil ?_
    refine tr_seq ?_
    refine tr_seq ?_
    obtain ⟨b36, h37, h⟩ := bind_some h
    obtain ⟨b39, h40, h⟩ := bind_some h
    refine tr_drawk mix 23 [1, 2, 5, 7, 10, 11, 12] [(85, .d (.lit (.bool b39)))] ?_ ?_
    ·refine bool_cases (decide (x30.Due < x7.Day)) (fun c38 => ?_) (fun c38 => ?_)
     ·have h37 := cond_tt c38 h37
      have h37 := Option.some.inj h37
      subst h37
      have c41 : true = true := rfl
      have h40 := cond_tt c41 h40
      have h40 := Option.some.inj h40
      subst h40
      refine ⟨[(63, 0, .bp b9 0 1), (64, 1, .d (.lit (.int .i64 x7.Day))), (65, 2, .bp b32 0 4), (66, 3, .d (.lit (.int .i64 x30.Due))), (67, 4, .d (.lit (.bool ((decide (x30.Due < x7.Day)))))), (68, 5, .d (.lit (.bool ((decide (x30.Due < x7.Day)))))), (69, 6, .tup []), (70, 7, .d (.lit (.bool true))), (71, 8, .d (.lit (.bool (true)))), (72, 9, .tup []), (73, 10, .tup []), (74, 11, .tup []), (75, 12, .tup []), (76, 13, .tup []), (77, 14, .tup []), (78, 15, .tup []), (79, 16, .tup []), (80, 17, .tup []), (81, 18, .tup []), (82, 19, .tup []), (83, 20, .tup []), (84, 21, .tup []), (85, 22, .d (.lit (.bool true)))], ?_, ?_⟩
      · exact ⟨by kernel_rfl, by kernel_rfl, by kernel_rfl, by kernel_rfl, by kernel_rfl, [([], []), ([0], []), ([], []), ([2], []), ([1, 3], []), ([4], []), ([5], []), ([5, 6], []), ([7], []), ([8], []), ([8, 9], []), ([8, 10], []), ([11], []), ([11, 12], []), ([11], []), ([11], []), ([11, 15], []), ([11, 14, 16], []), ([11, 17], []), ([11, 18], []), ([11, 13, 19], []), ([8, 11, 20], []), ([8, 21], [])], by kernel_rfl, ⟨fun S hS => g_fin rfl (g_op rfl (s_field_bp (lt_of rfl) (ov_ev hS rfl) fld_45_1)),
      fun S hS => g_fin rfl (g_op rfl (s_load_bp (lt_of rfl) (ov_ev hS rfl) (i := 3) rfl rfl one_3)),
      fun S hS => g_fin rfl (g_op rfl (s_field_bp (lt_of rfl) (ov_ev hS rfl) fld_36_3)),
      fun S hS => g_fin rfl (g_op rfl (s_load_bp (lt_of rfl) (ov_ev hS rfl) (i := 4) rfl rfl one_3)),
      fun S hS => g_fin rfl (g_op rfl (s_cmp (lt_of rfl) (ov_ev hS rfl) (ov_ev hS rfl) rfl)),
      fun S hS => g_fin rfl (g_op rfl (s_move (v := .d (.lit (.bool ((decide (x30.Due < x7.Day)))))) (lt_of rfl) (ov_ev hS rfl) rfl)),
      fun S hS => g_fin rfl (g_pass rfl rfl (lt_of rfl) rfl (lt_of rfl) (ov_en hS rfl) c38),
      fun S hS => g_fin rfl (g_op rfl (s_pick_t (v := .d (.lit (.bool true))) (lt_of rfl) (ov_ev hS rfl) c38 rfl rfl)),
      fun S hS => g_fin rfl (g_op rfl (s_move (v := .d (.lit (.bool (true)))) (lt_of rfl) (ov_ev hS rfl) rfl)),
      fun S hS => g_fin rfl (g_pass rfl rfl (lt_of rfl) rfl (lt_of rfl) (ov_en hS rfl) c41),
      fun S hS => g_fin rfl (g_pass rfl rfl (lt_of rfl) rfl (lt_of rfl) (ov_en hS rfl) c41),
      fun S hS => g_fin rfl (g_pass rfl rfl (lt_of rfl) rfl (lt_of rfl) (ov_en hS rfl) c41),
      fun S hS => g_fin rfl (g_pass' rfl rfl (lt_of rfl) rfl (lt_of rfl) (ov_en hS rfl)),
      fun S hS => g_fin rfl (g_pass' rfl rfl (lt_of rfl) rfl (lt_of rfl) (ov_en hS rfl)),
      fun S hS => g_fin rfl (g_pass' rfl rfl (lt_of rfl) rfl (lt_of rfl) (ov_en hS rfl)),
      fun S hS => g_fin rfl (g_pass' rfl rfl (lt_of rfl) rfl (lt_of rfl) (ov_en hS rfl)),
      fun S hS => g_fin rfl (g_pass' rfl rfl (lt_of rfl) rfl (lt_of rfl) (ov_en hS rfl)),
      fun S hS => g_fin rfl (g_pass' rfl rfl (lt_of rfl) rfl (lt_of rfl) (ov_en hS rfl)),
      fun S hS => g_fin rfl (g_pass' rfl rfl (lt_of rfl) rfl (lt_of rfl) (ov_en hS rfl)),
      fun S hS => g_fin rfl (g_pass' rfl rfl (lt_of rfl) rfl (lt_of rfl) (ov_en hS rfl)),
      fun S hS => g_fin rfl (g_pass' rfl rfl (lt_of rfl) rfl (lt_of rfl) (ov_en hS rfl)),
      fun S hS => g_fin rfl (g_pass rfl rfl (lt_of rfl) rfl (lt_of rfl) (ov_en hS rfl) c41),
      fun S hS => g_fin rfl (g_op rfl (s_pick_t (v := .d (.lit (.bool true))) (lt_of rfl) (ov_ev hS rfl) c41 rfl rfl)), trivial⟩⟩
      · exact ent_le (le_upd rfl (le_keep ⟨rfl, rfl, rfl, rfl, rfl, rfl, rfl, trivial⟩))
     ·have h37 := cond_ff c38 h37
      have h37 := Option.some.inj h37
      subst h37
      refine bool_cases (r34) (fun c41 => ?_) (fun c41 => ?_)
      ·have h40 := cond_tt c41 h40
       have h40 := Option.some.inj h40
       subst h40
       refine ⟨[(63, 0, .bp b9 0 1), (64, 1, .d (.lit (.int .i64 x7.Day))), (65, 2, .bp b32 0 4), (66, 3, .d (.lit (.int .i64 x30.Due))), (67, 4, .d (.lit (.bool ((decide (x30.Due < x7.Day)))))), (68, 5, .d (.lit (.bool ((decide (x30.Due < x7.Day)))))), (69, 6, .d (.lit (.bool r34))), (70, 7, .d (.lit (.bool r34))), (71, 8, .d (.lit (.bool (r34)))), (72, 9, .tup []), (73, 10, .tup []), (74, 11, .tup []), (75, 12, .tup []), (76, 13, .tup []), (77, 14, .tup []), (78, 15, .tup []), (79, 16, .tup []), (80, 17, .tup []), (81, 18, .tup []), (82, 19, .tup []), (83, 20, .tup []), (84, 21, .tup []), (85, 22, .d (.lit (.bool true)))], ?_, ?_⟩
       · exact ⟨by kernel_rfl, by kernel_rfl, by kernel_rfl, by kernel_rfl, by kernel_rfl, [([], []), ([0], []), ([], []), ([2], []), ([1, 3], []), ([4], []), ([5], []), ([5, 6], []), ([7], []), ([8], []), ([8, 9], []), ([8, 10], []), ([11], []), ([11, 12], []), ([11], []), ([11], []), ([11, 15], []), ([11, 14, 16], []), ([11, 17], []), ([11, 18], []), ([11, 13, 19], []), ([8, 11, 20], []), ([8, 21], [])], by kernel_rfl, ⟨fun S hS => g_fin rfl (g_op rfl (s_field_bp (lt_of rfl) (ov_ev hS rfl) fld_45_1)),
      fun S hS => g_fin rfl (g_op rfl (s_load_bp (lt_of rfl) (ov_ev hS rfl) (i := 3) rfl rfl one_3)),
      fun S hS => g_fin rfl (g_op rfl (s_field_bp (lt_of rfl) (ov_ev hS rfl) fld_36_3)),
      fun S hS => g_fin rfl (g_op rfl (s_load_bp (lt_of rfl) (ov_ev hS rfl) (i := 4) rfl rfl one_3)),
      fun S hS => g_fin rfl (g_op rfl (s_cmp (lt_of rfl) (ov_ev hS rfl) (ov_ev hS rfl) rfl)),
      fun S hS => g_fin rfl (g_op rfl (s_move (v := .d (.lit (.bool ((decide (x30.Due < x7.Day)))))) (lt_of rfl) (ov_ev hS rfl) rfl)),
      fun S hS => g_fin rfl (g_take rfl rfl (lt_of rfl) (ov_en hS rfl) c38 (s_move (v := .d (.lit (.bool r34))) (lt_of rfl) (ov_ev hS rfl) rfl)),
      fun S hS => g_fin rfl (g_op rfl (s_pick_f (v := .d (.lit (.bool r34))) (lt_of rfl) (ov_ev hS rfl) c38 (ov_ev hS rfl) rfl)),
      fun S hS => g_fin rfl (g_op rfl (s_move (v := .d (.lit (.bool (r34)))) (lt_of rfl) (ov_ev hS rfl) rfl)),
      fun S hS => g_fin rfl (g_pass rfl rfl (lt_of rfl) rfl (lt_of rfl) (ov_en hS rfl) c41),
      fun S hS => g_fin rfl (g_pass rfl rfl (lt_of rfl) rfl (lt_of rfl) (ov_en hS rfl) c41),
      fun S hS => g_fin rfl (g_pass rfl rfl (lt_of rfl) rfl (lt_of rfl) (ov_en hS rfl) c41),
      fun S hS => g_fin rfl (g_pass' rfl rfl (lt_of rfl) rfl (lt_of rfl) (ov_en hS rfl)),
      fun S hS => g_fin rfl (g_pass' rfl rfl (lt_of rfl) rfl (lt_of rfl) (ov_en hS rfl)),
      fun S hS => g_fin rfl (g_pass' rfl rfl (lt_of rfl) rfl (lt_of rfl) (ov_en hS rfl)),
      fun S hS => g_fin rfl (g_pass' rfl rfl (lt_of rfl) rfl (lt_of rfl) (ov_en hS rfl)),
      fun S hS => g_fin rfl (g_pass' rfl rfl (lt_of rfl) rfl (lt_of rfl) (ov_en hS rfl)),
      fun S hS => g_fin rfl (g_pass' rfl rfl (lt_of rfl) rfl (lt_of rfl) (ov_en hS rfl)),
      fun S hS => g_fin rfl (g_pass' rfl rfl (lt_of rfl) rfl (lt_of rfl) (ov_en hS rfl)),
      fun S hS => g_fin rfl (g_pass' rfl rfl (lt_of rfl) rfl (lt_of rfl) (ov_en hS rfl)),
      fun S hS => g_fin rfl (g_pass' rfl rfl (lt_of rfl) rfl (lt_of rfl) (ov_en hS rfl)),
      fun S hS => g_fin rfl (g_pass rfl rfl (lt_of rfl) rfl (lt_of rfl) (ov_en hS rfl) c41),
      fun S hS => g_fin rfl (g_op rfl (s_pick_t (v := .d (.lit (.bool true))) (lt_of rfl) (ov_ev hS rfl) c41 rfl rfl)), trivial⟩⟩
       · exact ent_le (le_upd rfl (le_keep ⟨rfl, rfl, rfl, rfl, rfl, rfl, rfl, trivial⟩))
      ·have h40 := cond_ff c41 h40
       obtain ⟨b42, h43, h40⟩ := bind_some h40
       refine bool_cases (decide (0 < t12_0_3)) (fun c44 => ?_) (fun c44 => ?_)
       ·have h43 := cond_tt c44 h43
        obtain ⟨x45, h46, h43⟩ := bind_some h43
        have h43 := Option.some.inj h43
        subst h43
        have h40 := Option.some.inj h40
        subst h40
        refine ⟨[(63, 0, .bp b9 0 1), (64, 1, .d (.lit (.int .i64 x7.Day))), (65, 2, .bp b32 0 4), (66, 3, .d (.lit (.int .i64 x30.Due))), (67, 4, .d (.lit (.bool ((decide (x30.Due < x7.Day)))))), (68, 5, .d (.lit (.bool ((decide (x30.Due < x7.Day)))))), (69, 6, .d (.lit (.bool r34))), (70, 7, .d (.lit (.bool r34))), (71, 8, .d (.lit (.bool (r34)))), (72, 9, .d (.lit (.int .i64 t12_0_3))), (73, 10, .d (.lit (.bool ((decide (0 < t12_0_3)))))), (74, 11, .d (.lit (.bool ((decide (0 < t12_0_3)))))), (75, 12, .bp b9 0 1), (76, 13, .d (.lit (.int .i64 x7.Day))), (77, 14, .d (.sl 3 (order_1.map encApiSeat))), (78, 15, .d (.lit (.int .i64 t12_0_3))), (79, 16, .d (.lit (.int .i64 ((w64 (t12_0_3 - 1)))))), (80, 17, .cp [.lit (.int .i64 x45.Job), .lit (.int .i64 x45.Day), .lit (.int .i64 x45.Court)]), (81, 18, .cp [.lit (.int .i64 x45.Day)]), (82, 19, .d (.lit (.int .i64 x45.Day))), (83, 20, .d (.lit (.bool ((decide (x7.Day < x45.Day)))))), (84, 21, .d (.lit (.bool ((decide (x7.Day < x45.Day)))))), (85, 22, .d (.lit (.bool (decide (x7.Day < x45.Day)))))], ?_, ?_⟩
        · exact ⟨by kernel_rfl, by kernel_rfl, by kernel_rfl, by kernel_rfl, by kernel_rfl, [([], []), ([0], []), ([], []), ([2], []), ([1, 3], []), ([4], []), ([5], []), ([5, 6], []), ([7], []), ([8], []), ([8, 9], []), ([8, 10], []), ([11], []), ([11, 12], []), ([11], []), ([11], []), ([11, 15], []), ([11, 14, 16], []), ([11, 17], []), ([11, 18], []), ([11, 13, 19], []), ([8, 11, 20], []), ([8, 21], [])], by kernel_rfl, ⟨fun S hS => g_fin rfl (g_op rfl (s_field_bp (lt_of rfl) (ov_ev hS rfl) fld_45_1)),
      fun S hS => g_fin rfl (g_op rfl (s_load_bp (lt_of rfl) (ov_ev hS rfl) (i := 3) rfl rfl one_3)),
      fun S hS => g_fin rfl (g_op rfl (s_field_bp (lt_of rfl) (ov_ev hS rfl) fld_36_3)),
      fun S hS => g_fin rfl (g_op rfl (s_load_bp (lt_of rfl) (ov_ev hS rfl) (i := 4) rfl rfl one_3)),
      fun S hS => g_fin rfl (g_op rfl (s_cmp (lt_of rfl) (ov_ev hS rfl) (ov_ev hS rfl) rfl)),
      fun S hS => g_fin rfl (g_op rfl (s_move (v := .d (.lit (.bool ((decide (x30.Due < x7.Day)))))) (lt_of rfl) (ov_ev hS rfl) rfl)),
      fun S hS => g_fin rfl (g_take rfl rfl (lt_of rfl) (ov_en hS rfl) c38 (s_move (v := .d (.lit (.bool r34))) (lt_of rfl) (ov_ev hS rfl) rfl)),
      fun S hS => g_fin rfl (g_op rfl (s_pick_f (v := .d (.lit (.bool r34))) (lt_of rfl) (ov_ev hS rfl) c38 (ov_ev hS rfl) rfl)),
      fun S hS => g_fin rfl (g_op rfl (s_move (v := .d (.lit (.bool (r34)))) (lt_of rfl) (ov_ev hS rfl) rfl)),
      fun S hS => g_fin rfl (g_take rfl rfl (lt_of rfl) (ov_en hS rfl) c41 (s_move (v := .d (.lit (.int .i64 t12_0_3))) (lt_of rfl) (ov_ev hS rfl) rfl)),
      fun S hS => g_fin rfl (g_take rfl rfl (lt_of rfl) (ov_en hS rfl) c41 (s_cmp (lt_of rfl) (ov_ev hS rfl) rfl rfl)),
      fun S hS => g_fin rfl (g_take rfl rfl (lt_of rfl) (ov_en hS rfl) c41 (s_move (v := .d (.lit (.bool ((decide (0 < t12_0_3)))))) (lt_of rfl) (ov_ev hS rfl) rfl)),
      fun S hS => g_fin rfl (g_take rfl rfl (lt_of rfl) (ov_en hS rfl) c44 (s_field_bp (lt_of rfl) (ov_ev hS rfl) fld_45_1)),
      fun S hS => g_fin rfl (g_take rfl rfl (lt_of rfl) (ov_en hS rfl) c44 (s_load_bp (lt_of rfl) (ov_ev hS rfl) (i := 3) rfl rfl one_3)),
      fun S hS => g_fin rfl (g_take rfl rfl (lt_of rfl) (ov_en hS rfl) c44 (s_move (v := .d (.sl 3 (order_1.map encApiSeat))) (lt_of rfl) (ov_ev hS rfl) rfl)),
      fun S hS => g_fin rfl (g_take rfl rfl (lt_of rfl) (ov_en hS rfl) c44 (s_move (v := .d (.lit (.int .i64 t12_0_3))) (lt_of rfl) (ov_ev hS rfl) rfl)),
      fun S hS => g_fin rfl (g_take rfl rfl (lt_of rfl) (ov_en hS rfl) c44 (s_arith (lt_of rfl) (ov_ev hS rfl) rfl rfl)),
      fun S hS => g_fin rfl (g_take rfl rfl (lt_of rfl) (ov_en hS rfl) c44 (s_index_sl (lt_of rfl) (ov_ev hS rfl) (ov_ev hS rfl) sl_26.of (idx_map encApiSeat h46))),
      fun S hS => g_fin rfl (g_take rfl rfl (lt_of rfl) (ov_en hS rfl) c44 (s_field_cp (lt_of rfl) (ov_ev hS rfl) fld_45_1 (es := [.lit (.int .i64 x45.Day)]) rfl)),
      fun S hS => g_fin rfl (g_take rfl rfl (lt_of rfl) (ov_en hS rfl) c44 (s_load_cp (lt_of rfl) (ov_ev hS rfl) one_3)),
      fun S hS => g_fin rfl (g_take rfl rfl (lt_of rfl) (ov_en hS rfl) c44 (s_cmp (lt_of rfl) (ov_ev hS rfl) (ov_ev hS rfl) rfl)),
      fun S hS => g_fin rfl (g_take rfl rfl (lt_of rfl) (ov_en hS rfl) c41 (s_pick_t (v := .d (.lit (.bool ((decide (x7.Day < x45.Day)))))) (lt_of rfl) (ov_ev hS rfl) c44 (ov_ev hS rfl) rfl)),
      fun S hS => g_fin rfl (g_op rfl (s_pick_f (v := .d (.lit (.bool (decide (x7.Day < x45.Day))))) (lt_of rfl) (ov_ev hS rfl) c41 (ov_ev hS rfl) rfl)), trivial⟩⟩
        · exact ent_le (le_upd rfl (le_keep ⟨rfl, rfl, rfl, rfl, rfl, rfl, rfl, trivial⟩))
       ·have h43 := cond_ff c44 h43
        have h43 := Option.some.inj h43
        subst h43
        have h40 := Option.some.inj h40
        subst h40
        refine ⟨[(63, 0, .bp b9 0 1), (64, 1, .d (.lit (.int .i64 x7.Day))), (65, 2, .bp b32 0 4), (66, 3, .d (.lit (.int .i64 x30.Due))), (67, 4, .d (.lit (.bool ((decide (x30.Due < x7.Day)))))), (68, 5, .d (.lit (.bool ((decide (x30.Due < x7.Day)))))), (69, 6, .d (.lit (.bool r34))), (70, 7, .d (.lit (.bool r34))), (71, 8, .d (.lit (.bool (r34)))), (72, 9, .d (.lit (.int .i64 t12_0_3))), (73, 10, .d (.lit (.bool ((decide (0 < t12_0_3)))))), (74, 11, .d (.lit (.bool ((decide (0 < t12_0_3)))))), (75, 12, .tup []), (76, 13, .tup []), (77, 14, .tup []), (78, 15, .tup []), (79, 16, .tup []), (80, 17, .tup []), (81, 18, .tup []), (82, 19, .tup []), (83, 20, .tup []), (84, 21, .d (.lit (.bool false))), (85, 22, .d (.lit (.bool (false))))], ?_, ?_⟩
        · exact ⟨by kernel_rfl, by kernel_rfl, by kernel_rfl, by kernel_rfl, by kernel_rfl, [([], []), ([0], []), ([], []), ([2], []), ([1, 3], []), ([4], []), ([5], []), ([5, 6], []), ([7], []), ([8], []), ([8, 9], []), ([8, 10], []), ([11], []), ([11, 12], []), ([11], []), ([11], []), ([11, 15], []), ([11, 14, 16], []), ([11, 17], []), ([11, 18], []), ([11, 13, 19], []), ([8, 11, 20], []), ([8, 21], [])], by kernel_rfl, ⟨fun S hS => g_fin rfl (g_op rfl (s_field_bp (lt_of rfl) (ov_ev hS rfl) fld_45_1)),
      fun S hS => g_fin rfl (g_op rfl (s_load_bp (lt_of rfl) (ov_ev hS rfl) (i := 3) rfl rfl one_3)),
      fun S hS => g_fin rfl (g_op rfl (s_field_bp (lt_of rfl) (ov_ev hS rfl) fld_36_3)),
      fun S hS => g_fin rfl (g_op rfl (s_load_bp (lt_of rfl) (ov_ev hS rfl) (i := 4) rfl rfl one_3)),
      fun S hS => g_fin rfl (g_op rfl (s_cmp (lt_of rfl) (ov_ev hS rfl) (ov_ev hS rfl) rfl)),
      fun S hS => g_fin rfl (g_op rfl (s_move (v := .d (.lit (.bool ((decide (x30.Due < x7.Day)))))) (lt_of rfl) (ov_ev hS rfl) rfl)),
      fun S hS => g_fin rfl (g_take rfl rfl (lt_of rfl) (ov_en hS rfl) c38 (s_move (v := .d (.lit (.bool r34))) (lt_of rfl) (ov_ev hS rfl) rfl)),
      fun S hS => g_fin rfl (g_op rfl (s_pick_f (v := .d (.lit (.bool r34))) (lt_of rfl) (ov_ev hS rfl) c38 (ov_ev hS rfl) rfl)),
      fun S hS => g_fin rfl (g_op rfl (s_move (v := .d (.lit (.bool (r34)))) (lt_of rfl) (ov_ev hS rfl) rfl)),
      fun S hS => g_fin rfl (g_take rfl rfl (lt_of rfl) (ov_en hS rfl) c41 (s_move (v := .d (.lit (.int .i64 t12_0_3))) (lt_of rfl) (ov_ev hS rfl) rfl)),
      fun S hS => g_fin rfl (g_take rfl rfl (lt_of rfl) (ov_en hS rfl) c41 (s_cmp (lt_of rfl) (ov_ev hS rfl) rfl rfl)),
      fun S hS => g_fin rfl (g_take rfl rfl (lt_of rfl) (ov_en hS rfl) c41 (s_move (v := .d (.lit (.bool ((decide (0 < t12_0_3)))))) (lt_of rfl) (ov_ev hS rfl) rfl)),
      fun S hS => g_fin rfl (g_pass rfl rfl (lt_of rfl) rfl (lt_of rfl) (ov_en hS rfl) c44),
      fun S hS => g_fin rfl (g_pass rfl rfl (lt_of rfl) rfl (lt_of rfl) (ov_en hS rfl) c44),
      fun S hS => g_fin rfl (g_pass rfl rfl (lt_of rfl) rfl (lt_of rfl) (ov_en hS rfl) c44),
      fun S hS => g_fin rfl (g_pass rfl rfl (lt_of rfl) rfl (lt_of rfl) (ov_en hS rfl) c44),
      fun S hS => g_fin rfl (g_pass rfl rfl (lt_of rfl) rfl (lt_of rfl) (ov_en hS rfl) c44),
      fun S hS => g_fin rfl (g_pass rfl rfl (lt_of rfl) rfl (lt_of rfl) (ov_en hS rfl) c44),
      fun S hS => g_fin rfl (g_pass rfl rfl (lt_of rfl) rfl (lt_of rfl) (ov_en hS rfl) c44),
      fun S hS => g_fin rfl (g_pass rfl rfl (lt_of rfl) rfl (lt_of rfl) (ov_en hS rfl) c44),
      fun S hS => g_fin rfl (g_pass rfl rfl (lt_of rfl) rfl (lt_of rfl) (ov_en hS rfl) c44),
      fun S hS => g_fin rfl (g_take rfl rfl (lt_of rfl) (ov_en hS rfl) c41 (s_pick_f (v := .d (.lit (.bool false))) (lt_of rfl) (ov_ev hS rfl) c44 rfl rfl)),
      fun S hS => g_fin rfl (g_op rfl (s_pick_f (v := .d (.lit (.bool (false)))) (lt_of rfl) (ov_ev hS rfl) c41 (ov_ev hS rfl) rfl)), trivial⟩⟩
        · exact ent_le (le_upd rfl (le_keep ⟨rfl, rfl, rfl, rfl, rfl, rfl, rfl, trivial⟩))
    ·refine tr_nil ?_
     refine tr_if rfl (fun c47 => ?_) (fun c47 => ?_)
     ·have h := cond_tt c47 h
      refine tr_seq ?_
      refine tr_region ?_
      refine tr1 rfl (s_assign (v := .d (.lit (.bool false))) (lt_of rfl) rfl rfl) ?_
      refine tr_nil ?_
      have h := Option.some.inj h
      subst h
      refine tr_ent (ent_free (ble_keep (l := [4]) ⟨rfl, trivial⟩)) ?_
      exact tr_ret ⟨rfl, _, .one _, rfl, rfl⟩
     ·have h := cond_ff c47 h
      refine tr_skip ?_
      refine tr_region ?_
      refine tr1 rfl (s_load_bp (lt_of rfl) rfl (i := 2) rfl rfl one_27) ?_
      refine tr1 rfl (s_field_bp (lt_of rfl) rfl fld_45_0) ?_
      refine tr1 rfl (s_load_bp (lt_of rfl) rfl (i := 3) rfl rfl one_3) ?_
      refine tr1 rfl (s_lit_sl (lt_of rfl) sl_27 rfl rfl (rows := ([x7.Job]).map encI) rfl (map_len (f := encI) fun _ => rfl) rfl (by decide)) ?_
      obtain ⟨x48, h49, h⟩ := bind_some h
      refine tr_op rfl (s_appendm (i := 1) (lt_of rfl) sl_27 rfl rfl rfl (fun _ => rfl) h49 rfl) ?_
      rintro _ ⟨v50, rfl⟩
      refine tr1 rfl (s_store_bp (i := 2) rfl rfl rfl rfl rfl Try.sizeOf27 rfl (lt_of rfl) (Nat.le_of_ble_eq_true rfl) (ds' := [.lit v50]) rfl) ?_
      refine tr_nilb ?_
      refine tr_region ?_
      refine tr1 rfl (s_arith (lt_of rfl) rfl rfl rfl) ?_
      refine tr1 rfl (s_move (v := .d (.lit (.int .i64 ((w64 (t12_0_3 + 1)))))) (lt_of rfl) rfl rfl) ?_
      refine tr_nil ?_
      exact ⟨(w64 (t12_0_3 + 1), x48, v50), h, ent_pick [0, 1, 2] rfl rfl (le_upd rfl (le_keep ⟨rfl, rfl, rfl, rfl, rfl, trivial⟩))⟩
 ·have h := cond_ff c6 h
  refine tr_exit ?_
  refine .inl ⟨rfl, ?_⟩
  simp only [play_isOrder_K0] at h
  refine tr_seq ?_
  refine tr_region ?_
  refine tr1 rfl (s_load_bp (lt_of rfl) rfl (i := 2) rfl rfl one_27) ?_
  refine tr1 rfl (s_lenm_arr (m := 1) (lt_of rfl) rfl rfl sl_27.of) ?_
  refine tr1 rfl (s_field_bp (lt_of rfl) rfl fld_25_2) ?_
  refine tr1 rfl (s_load_bp (lt_of rfl) rfl (i := 0) rfl rfl one_23) ?_
  refine tr1 rfl (s_lenm (lt_of rfl) rfl sl_23.of) ?_
  refine tr1 rfl (s_cmp (lt_of rfl) rfl rfl rfl) ?_
  refine tr1 rfl (s_assign (v := .d (.lit (.bool ((decide ((done_0_3.length : Int) = (p_0.Jobs.length : Int))))))) (lt_of rfl) rfl rfl) ?_
  refine tr_nil ?_
  have h := Option.some.inj h
  subst h
  refine tr_ent (ent_free (ble_keep (l := [4]) ⟨rfl, trivial⟩)) ?_
  exact tr_ret ⟨rfl, _, .one _, rfl, rfl⟩

theorem play_open_c (p_0 : ApiProgram) (number_1 : Int) {r : PlayDay} (h : play_open p_0 number_1 = some r) : Fn Try.prog 86 [.agg (encApiProgram p_0), .d (.lit (.int .i64 number_1))] (.agg (encPlayDay r)) := by
 unfold play_open at h
 refine acalls_of_trw Try.func86 rfl (rs := [.cell 4 124]) Try.results86 Try.ntmps86 (Nat.le_of_ble_eq_true rfl) ?_
 refine tr_seq ?_
 refine tr_region ?_
 refine tr_op rfl (s_box (v := .agg (encApiProgram p_0)) (lt_of rfl) rfl rfl rfl) ?_
 rintro _ ⟨b1, rfl⟩
 refine tr_op rfl (s_alloc (zs := [.lit (.int .i64 0), .lit (.int .i64 0), .lit (.int .i64 0), .lit (.int .i64 0), .lit (.int .i64 0), .lit (.int .i64 0), .lit (.int .i64 0), .lit (.int .i64 0), .lit (.int .i64 0), .lit (.int .i64 0)]) (lt_of rfl) Try.zeroValue124 rfl rfl) ?_
 rintro _ ⟨b2, rfl⟩
 refine tr_nil ?_
 refine tr_seq ?_
 refine tr_region ?_
 refine tr1 rfl (s_move (v := .d (.lit (.int .i64 number_1))) (lt_of rfl) rfl rfl) ?_
 refine tr1 rfl (s_build (lt_of rfl) stu_124 (zs := [.lit (.int .i64 0), .lit (.int .i64 0), .lit (.int .i64 0), .lit (.int .i64 0), .lit (.int .i64 0), .lit (.int .i64 0), .lit (.int .i64 0), .lit (.int .i64 0), .lit (.int .i64 0), .lit (.int .i64 0)]) rfl rfl rfl rfl (es := [.lit (.int .i64 number_1), .lit (.int .i64 0), .lit (.int .i64 0), .lit (.int .i64 0), .lit (.int .i64 0), .lit (.int .i64 0), .lit (.int .i64 0), .lit (.int .i64 0), .lit (.int .i64 0), .lit (.int .i64 0)]) rfl) ?_
 refine tr_op rfl (s_alloc (zs := [.lit (.int .i64 0), .lit (.int .i64 0), .lit (.int .i64 0), .lit (.int .i64 0), .lit (.int .i64 0), .lit (.int .i64 0), .lit (.int .i64 0), .lit (.int .i64 0), .lit (.int .i64 0), .lit (.int .i64 0)]) (lt_of rfl) Try.zeroValue124 rfl rfl) ?_
 rintro _ ⟨b3, rfl⟩
 refine tr1 rfl (s_store_bp (i := 2) rfl rfl rfl rfl rfl Try.sizeOf124 rfl (lt_of rfl) (Nat.le_of_ble_eq_true rfl) (ds' := (encPlayDay (PlayDay.mk number_1 (A3.mk 0 0 0) (A6.mk 0 0 0 0 0 0)))) rfl) ?_
 refine tr_nil ?_
 refine tr_seq ?_
 refine tr_seq ?_
 refine tr_region ?_
 refine tr1 rfl (s_field_bp (lt_of rfl) rfl fld_25_0) ?_
 refine tr1 rfl (s_load_bp (lt_of rfl) rfl (i := 0) rfl rfl one_22) ?_
 refine tr1 rfl (s_move (v := .d (.lit (.int .i64 number_1))) (lt_of rfl) rfl rfl) ?_
 obtain ⟨x4, h5, h⟩ := bind_some h
 refine tr1 rfl (s_index_sl (lt_of rfl) rfl rfl sl_22.of (idx_map encSl_ApiSpan h5)) ?_
 refine tr1 rfl (s_load_cp (lt_of rfl) rfl one_37) ?_
 refine tr1 rfl (s_lenm (lt_of rfl) rfl sl_37.of) ?_
 refine tr1 rfl (s_move (v := .d (.lit (.int .i64 0))) (lt_of rfl) rfl rfl) ?_
 refine tr_nil ?_
 refine tr_blk ?_
 refine tr_loopk [4, 5, 14, 15] (fun (s6 : Int × PlayDay) => [(16, .d (.lit (.int .i64 s6.1)))]) (fun (s6 : Int × PlayDay) => [.box b2 0 (encPlayDay (PlayDay.mk 0 (A3.mk 0 0 0) (A6.mk 0 0 0 0 0 0))), .box b3 0 (encPlayDay s6.2)]) (fun (k : Nat) (s6 : Int × PlayDay) => play_open_L0 x4 (x4.length : Int) (PlayDay.mk 0 (A3.mk 0 0 0) (A6.mk 0 0 0 0 0 0)) k s6.1 s6.2) (fun _ => rfl) (0, (PlayDay.mk number_1 (A3.mk 0 0 0) (A6.mk 0 0 0 0 0 0))) h (ent_pick [1, 2] rfl rfl (le_upd rfl (le_keep ⟨rfl, rfl, rfl, rfl, trivial⟩))) ?_
 rintro k7 ⟨t16_0_6, d_0_6⟩ h
 simp only [play_open_L0] at h
 refine tr_seq ?_
 refine tr_region ?_
 refine tr1 rfl (s_cmp (lt_of rfl) rfl rfl rfl) ?_
 refine tr_nil ?_
 refine tr_seq ?_
 refine tr_if rfl (fun c8 => ?_) (fun c8 => ?_)
 ·have h := cond_tt c8 h
  refine tr_skip ?_
  refine tr_seq ?_
  refine tr_blk ?_
  refine tr_seq ?_
  refine tr_region ?_
  refine tr1 rfl (s_move (v := .d (.lit (.int .i64 t16_0_6))) (lt_of rfl) rfl rfl) ?_
  obtain ⟨x9, h10, h⟩ := bind_some h
  refine tr1 rfl (s_index_sl (lt_of rfl) rfl rfl sl_37.of (idx_map encApiSpan h10)) ?_
  refine tr1 rfl (s_loada_cp (lt_of rfl) rfl agg_34 (es := (encApiSpan x9)) rfl rfl) ?_
  refine tr_op rfl (s_alloc (zs := [.lit (.int .i64 0), .lit (.int .i64 0)]) (lt_of rfl) Try.zeroValue34 rfl rfl) ?_
  rintro _ ⟨b11, rfl⟩
  refine tr1 rfl (s_assign (v := .d (.lit (.int .i64 t16_0_6))) (lt_of rfl) rfl rfl) ?_
  refine tr1 rfl (s_store_bp (i := 2) rfl rfl rfl rfl rfl Try.sizeOf34 rfl (lt_of rfl) (Nat.le_of_ble_eq_true rfl) (ds' := (encApiSpan x9)) rfl) ?_
  refine tr_nil ?_
  refine tr_region ?_
  refine tr1 rfl (s_move (v := .d (.lit (.int .i64 t16_0_6))) (lt_of rfl) rfl rfl) ?_
  refine tr1 rfl (s_field_bp (lt_of rfl) rfl fld_34_0) ?_
  refine tr1 rfl (s_load_bp (lt_of rfl) rfl (i := 2) rfl rfl one_3) ?_
  refine tr1 rfl (s_field_bp (lt_of rfl) rfl fld_124_1) ?_
  obtain ⟨u12, h13, h⟩ := bind_some h
  refine tr1 rfl (s_aindex_bp (lt_of rfl) rfl rfl arr_121 (inb_spec h13).1 (inb_spec h13).2) ?_
  refine tr1 rfl (s_store_bp (i := 1) (ds := (encPlayDay d_0_6)) rfl rfl rfl rfl rfl Try.sizeOf3 rfl (lt_of rfl) (idx_le h13 rfl) (ds' := (encPlayDay (PlayDay.mk d_0_6.number (d_0_6.free.set t16_0_6 x9.Low) d_0_6.ends))) (A3.updI (a := d_0_6.free) h13 (fun qq => (encPlayDay (PlayDay.mk d_0_6.number qq d_0_6.ends))) rfl rfl rfl)) ?_
  refine tr_nilb ?_
  refine tr_region ?_
  refine tr1 rfl (s_arith (lt_of rfl) rfl rfl rfl) ?_
  refine tr1 rfl (s_move (v := .d (.lit (.int .i64 ((w64 (t16_0_6 + 1)))))) (lt_of rfl) rfl rfl) ?_
  refine tr_nil ?_
  exact ⟨(w64 (t16_0_6 + 1), (PlayDay.mk d_0_6.number (d_0_6.free.set t16_0_6 x9.Low) d_0_6.ends)), h, ent_pick [0, 1] rfl rfl (le_upd rfl (le_keep ⟨rfl, rfl, rfl, rfl, trivial⟩))⟩
 ·have h := cond_ff c8 h
  refine tr_exit ?_
  refine .inl ⟨rfl, ?_⟩
  simp only [play_open_K0] at h
  refine tr_seq ?_
  refine tr_region ?_
  refine tr1 rfl (s_loada_bp (lt_of rfl) rfl (i := 1) rfl agg_124 (es := (encPlayDay d_0_6)) rfl rfl) ?_
  refine tr1 rfl (s_store_bp (i := 0) rfl rfl rfl rfl rfl Try.sizeOf124 rfl (lt_of rfl) (Nat.le_of_ble_eq_true rfl) (ds' := (encPlayDay d_0_6)) rfl) ?_
  refine tr_nil ?_
  have h := Option.some.inj h
  subst h
  exact tr_ret ⟨rfl, _, [.box b2 0 (encPlayDay d_0_6), .box b3 0 (encPlayDay d_0_6)], .one (.cell 4 124 rfl (i := 0) rfl agg_124 (es := (encPlayDay d_0_6)) rfl rfl), .refl _, .same _⟩

theorem play_share_1_c (x_0 : Int) (y_1 : Int) (c_2 : ApiProgram) {r : Bool} (h : play_share_1 x_0 y_1 c_2 = some r) : Fn Try.prog 126 [.d (.lit (.int .i64 x_0)), .d (.lit (.int .i64 y_1)), .cp (encApiProgram c_2)] (.d (.lit (.bool r))) := by
 unfold play_share_1 at h
 refine Fn.of_tr Try.func126 rfl (rs := [.tmp 5]) Try.results126 Try.ntmps126 (Nat.le_of_ble_eq_true rfl) ?_
 refine tr_seq ?_
 refine tr_region ?_
 refine tr1 rfl (s_assign (v := .d (.lit (.bool false))) (lt_of rfl) rfl rfl) ?_
 refine tr_nil ?_
 refine tr_seq ?_
 refine tr_region ?_
 refine tr1 rfl (s_field_cp (lt_of rfl) rfl fld_25_2 (es := [.sl 6 (c_2.Jobs.map encApiJob)]) rfl) ?_
 refine tr1 rfl (s_load_cp (lt_of rfl) rfl one_23) ?_
 refine tr1 rfl (s_move (v := .d (.lit (.int .i64 x_0))) (lt_of rfl) rfl rfl) ?_
 obtain ⟨x1, h2, h⟩ := bind_some h
 refine tr1 rfl (s_index_sl (lt_of rfl) rfl rfl sl_23.of (idx_map encApiJob h2)) ?_
 refine tr1 rfl (s_loada_cp (lt_of rfl) rfl agg_36 (es := (encApiJob x1)) rfl rfl) ?_
 refine tr_op rfl (s_alloc (zs := [.lit (.int .i64 0), .lit (.int .i64 0), .sl 1 ((([] : List Int)).map encI), .sl 1 ((([] : List Int)).map encI), .lit (.int .i64 0), .lit (.int .i64 0)]) (lt_of rfl) Try.zeroValue36 rfl rfl) ?_
 rintro _ ⟨b3, rfl⟩
 refine tr1 rfl (s_store_bp (i := 0) rfl rfl rfl rfl rfl Try.sizeOf36 rfl (lt_of rfl) (Nat.le_of_ble_eq_true rfl) (ds' := (encApiJob x1)) rfl) ?_
 refine tr_nil ?_
 refine tr_seq ?_
 refine tr_region ?_
 refine tr1 rfl (s_field_bp (lt_of rfl) rfl fld_36_1) ?_
 refine tr1 rfl (s_load_bp (lt_of rfl) rfl (i := 0) rfl rfl one_27) ?_
 refine tr1 rfl (s_move (v := .d (.lit (.int .i64 y_1))) (lt_of rfl) rfl rfl) ?_
 obtain ⟨r4, h5, h⟩ := bind_some h
 refine tr1 rfl (s_call (lt_of rfl) (.func _ _ Try.call63) rfl rfl (BVs.refl _ _) (slices_Contains_int_c _ _ h5) rfl) ?_
 refine tr1 rfl (s_move (v := .d (.lit (.bool r4))) (lt_of rfl) rfl rfl) ?_
 obtain ⟨b6, h7, h⟩ := bind_some h
 refine tr_guard 5 [] 21 b6 ?_ ?_
 ·refine bool_cases (r4) (fun c8 => ?_) (fun c8 => ?_)
  ·have h7 := cond_tt c8 h7
   refine tr_pass rfl rfl (lt_of rfl) rfl (lt_of rfl) rfl c8 ?_
   refine tr_pass rfl rfl (lt_of rfl) rfl (lt_of rfl) rfl c8 ?_
   refine tr_pass rfl rfl (lt_of rfl) rfl (lt_of rfl) rfl c8 ?_
   refine tr_pass rfl rfl (lt_of rfl) rfl (lt_of rfl) rfl c8 ?_
   refine tr1 rfl (s_pick_t (v := .d (.lit (.bool true))) (lt_of rfl) rfl c8 rfl rfl) ?_
   have h7 := Option.some.inj h7
   subst h7
   refine tr_nil (ent_keep rfl trivial rfl)
  ·have h7 := cond_ff c8 h7
   refine tr_take1 rfl rfl (lt_of rfl) rfl c8 (s_field_bp (lt_of rfl) rfl fld_36_2) ?_
   refine tr_take1 rfl rfl (lt_of rfl) rfl c8 (s_load_bp (lt_of rfl) rfl (i := 0) rfl rfl one_27) ?_
   refine tr_take1 rfl rfl (lt_of rfl) rfl c8 (s_move (v := .d (.lit (.int .i64 y_1))) (lt_of rfl) rfl rfl) ?_
   obtain ⟨r9, h10, h7⟩ := bind_some h7
   refine tr_take1 rfl rfl (lt_of rfl) rfl c8 (s_call (lt_of rfl) (.func _ _ Try.call63) rfl rfl (BVs.refl _ _) (slices_Contains_int_c _ _ h10) rfl) ?_
   refine tr1 rfl (s_pick_f (v := .d (.lit (.bool r9))) (lt_of rfl) rfl c8 rfl rfl) ?_
   have h7 := Option.some.inj h7
   subst h7
   refine tr_nil (ent_keep rfl trivial rfl)
 ·refine tr1 rfl (s_assign (v := .d (.lit (.bool b6))) (lt_of rfl) rfl rfl) ?_
  refine tr_nil ?_
  have h := Option.some.inj h
  subst h
  refine tr_ent (ent_free (ble_keep (l := [5]) ⟨rfl, trivial⟩)) ?_
  exact tr_ret ⟨rfl, _, .one _, rfl, rfl⟩

theorem play_share_c (p_0 : ApiProgram) (a_1 : Int) (b_2 : Int) {r : Bool} (h : play_share p_0 a_1 b_2 = some r) : Fn Try.prog 109 [.agg (encApiProgram p_0), .d (.lit (.int .i64 a_1)), .d (.lit (.int .i64 b_2))] (.d (.lit (.bool r))) := by
 unfold play_share at h
 refine Fn.of_tr Try.func109 rfl (rs := [.tmp 6]) Try.results109 Try.ntmps109 (Nat.le_of_ble_eq_true rfl) ?_
 refine tr_seq ?_
 refine tr_region ?_
 refine tr_op rfl (s_box (v := .agg (encApiProgram p_0)) (lt_of rfl) rfl rfl rfl) ?_
 rintro _ ⟨b1, rfl⟩
 refine tr1 rfl (s_assign (v := .d (.lit (.bool false))) (lt_of rfl) rfl rfl) ?_
 refine tr_nil ?_
 refine tr_seq ?_
 refine tr_region ?_
 refine tr1 rfl (s_func (lt_of rfl) rfl rfl) ?_
 refine tr1 rfl (s_assign (v := .fn 126 [.bp b1 0 0]) (lt_of rfl) rfl rfl) ?_
 refine tr_nil ?_
 refine tr_seq ?_
 refine tr_region ?_
 refine tr1 rfl (s_move (v := .fn 126 [.bp b1 0 0]) (lt_of rfl) rfl rfl) ?_
 refine tr1 rfl (s_move (v := .d (.lit (.int .i64 a_1))) (lt_of rfl) rfl rfl) ?_
 refine tr1 rfl (s_move (v := .d (.lit (.int .i64 b_2))) (lt_of rfl) rfl rfl) ?_
 obtain ⟨r2, h3, h⟩ := bind_some h
 refine tr1 rfl (s_call (lt_of rfl) (.clo _ _ _ _ Try.call126 rfl) (evap rfl) rfl (.cons (.same _) (.cons (.same _) (.cons ((bv_bp 0 rfl rfl (dvc (.same _) (dvc (.same _) (dvc (.same _) dvn))))) .nil))) (play_share_1_c _ _ _ h3) rfl) ?_
 refine tr1 rfl (s_move (v := .d (.lit (.bool r2))) (lt_of rfl) rfl rfl) ?_
 obtain ⟨b4, h5, h⟩ := bind_some h
 refine tr_guard 5 [] 18 b4 ?_ ?_
 ·refine bool_cases (r2) (fun c6 => ?_) (fun c6 => ?_)
  ·have h5 := cond_tt c6 h5
   refine tr_pass rfl rfl (lt_of rfl) rfl (lt_of rfl) rfl c6 ?_
   refine tr_pass rfl rfl (lt_of rfl) rfl (lt_of rfl) rfl c6 ?_
   refine tr_pass rfl rfl (lt_of rfl) rfl (lt_of rfl) rfl c6 ?_
   refine tr_pass rfl rfl (lt_of rfl) rfl (lt_of rfl) rfl c6 ?_
   refine tr1 rfl (s_pick_t (v := .d (.lit (.bool true))) (lt_of rfl) rfl c6 rfl rfl) ?_
   have h5 := Option.some.inj h5
   subst h5
   refine tr_nil (ent_keep rfl trivial rfl)
  ·have h5 := cond_ff c6 h5
   refine tr_take1 rfl rfl (lt_of rfl) rfl c6 (s_move (v := .fn 126 [.bp b1 0 0]) (lt_of rfl) rfl rfl) ?_
   refine tr_take1 rfl rfl (lt_of rfl) rfl c6 (s_move (v := .d (.lit (.int .i64 b_2))) (lt_of rfl) rfl rfl) ?_
   refine tr_take1 rfl rfl (lt_of rfl) rfl c6 (s_move (v := .d (.lit (.int .i64 a_1))) (lt_of rfl) rfl rfl) ?_
   obtain ⟨r7, h8, h5⟩ := bind_some h5
   refine tr_take1 rfl rfl (lt_of rfl) rfl c6 (s_call (lt_of rfl) (.clo _ _ _ _ Try.call126 rfl) (evap rfl) rfl (.cons (.same _) (.cons (.same _) (.cons ((bv_bp 0 rfl rfl (dvc (.same _) (dvc (.same _) (dvc (.same _) dvn))))) .nil))) (play_share_1_c _ _ _ h8) rfl) ?_
   refine tr1 rfl (s_pick_f (v := .d (.lit (.bool r7))) (lt_of rfl) rfl c6 rfl rfl) ?_
   have h5 := Option.some.inj h5
   subst h5
   refine tr_nil (ent_keep rfl trivial rfl)
 ·refine tr1 rfl (s_assign (v := .d (.lit (.bool b4))) (lt_of rfl) rfl rfl) ?_
  refine tr_nil ?_
  have h := Option.some.inj h
  subst h
  refine tr_ent (ent_free (ble_keep (l := [6]) ⟨rfl, trivial⟩)) ?_
  exact tr_ret ⟨rfl, _, .one _, rfl, rfl⟩

end Go.Am
