/- The functions compute what the shallow ones say: printed by program. -/
import Derived.Test.YtikcmpflkibomaaPlayDaysSimP2
namespace Go.Am
open Go.Proofs
set_option maxRecDepth 100000
set_option maxHeartbeats 4000000

theorem deuceref08_IsOld_c (p_0 : ApiProgram) (old_1 : List ApiSeat) {r : Bool} (h : deuceref08_IsOld p_0 old_1 = some r) : Fn Try.prog 31 [.agg (encApiProgram p_0), .d (.sl 3 (old_1.map encApiSeat))] (.d (.lit (.bool r))) := by
 unfold deuceref08_IsOld at h
 refine Fn.of_tr Try.func31 rfl (rs := [.tmp 4]) Try.results31 Try.ntmps31 (Nat.le_of_ble_eq_true rfl) ?_
 refine tr_seq ?_
 refine tr_region ?_
 refine tr_op rfl (s_box (v := .agg (encApiProgram p_0)) (lt_of rfl) rfl rfl rfl) ?_
 rintro _ ⟨b1, rfl⟩
 refine tr1 rfl (s_assign (v := .d (.lit (.bool false))) (lt_of rfl) rfl rfl) ?_
 refine tr_nil ?_
 refine tr_seq ?_
 refine tr_seq ?_
 refine tr_region ?_
 refine tr1 rfl (s_assign (v := .d (.lit (.int .i64 0))) (lt_of rfl) rfl rfl) ?_
 refine tr_nil ?_
 refine tr_blk ?_
 refine tr_loopk [1, 2] (fun (s2 : Int) => [(5, .d (.lit (.int .i64 s2)))]) (fun (s2 : Int) => [.box b1 0 (encApiProgram p_0)]) (fun (k : Nat) (s2 : Int) => deuceref08_IsOld_L0 old_1 p_0 k s2) (fun _ => rfl) (0) h (ent_pick [0] rfl rfl (le_upd rfl (le_keep ⟨rfl, rfl, trivial⟩))) ?_
 rintro k3 i_0_2 h
 simp only [deuceref08_IsOld_L0] at h
 refine tr_seq ?_
 refine tr_seq ?_
 refine tr_region ?_
 refine tr1 rfl (s_move (v := .d (.lit (.int .i64 i_0_2))) (lt_of rfl) rfl rfl) ?_
 refine tr1 rfl (s_move (v := .d (.sl 3 (old_1.map encApiSeat))) (lt_of rfl) rfl rfl) ?_
 refine tr1 rfl (s_lenm (lt_of rfl) rfl sl_26.of) ?_
 refine tr1 rfl (s_cmp (lt_of rfl) rfl rfl rfl) ?_
 refine tr_nil ?_
 refine tr_if rfl (fun c4 => ?_) (fun c4 => ?_)
 ·have h := cond_tt c4 h
  refine tr_skip ?_
  refine tr_seq ?_
  refine tr_blk ?_
  refine tr_seq ?_
  refine tr_region ?_
  refine tr1 rfl (s_move (v := .d (.sl 3 (old_1.map encApiSeat))) (lt_of rfl) rfl rfl) ?_
  refine tr1 rfl (s_move (v := .d (.lit (.int .i64 i_0_2))) (lt_of rfl) rfl rfl) ?_
  obtain ⟨x5, h6, h⟩ := bind_some h
  refine tr1 rfl (s_index_sl (lt_of rfl) rfl rfl sl_26.of (idx_map encApiSeat h6)) ?_
  refine tr1 rfl (s_loada_cp (lt_of rfl) rfl agg_45 (es := (encApiSeat x5)) rfl rfl) ?_
  refine tr_op rfl (s_alloc (zs := [.lit (.int .i64 0), .lit (.int .i64 0), .lit (.int .i64 0)]) (lt_of rfl) Try.zeroValue45 rfl rfl) ?_
  rintro _ ⟨b7, rfl⟩
  refine tr1 rfl (s_store_bp (i := 1) rfl rfl rfl rfl rfl Try.sizeOf45 rfl (lt_of rfl) (Nat.le_of_ble_eq_true rfl) (ds' := (encApiSeat x5)) rfl) ?_
  refine tr_nil ?_
  refine tr_seq ?_
  obtain ⟨r8, h9, h⟩ := bind_some h
  obtain ⟨b10, h11, h⟩ := bind_some h
  refine tr_drawk mix 16 [1, 2, 5, 6] [(32, .d (.lit (.bool b10)))] ?_ ?_
  ·refine bool_cases (!r8) (fun c12 => ?_) (fun c12 => ?_)
   ·have h11 := cond_tt c12 h11
    have h11 := Option.some.inj h11
    subst h11
    refine ⟨[(17, 0, .bp b7 0 0), (18, 1, .d (.lit (.int .i64 x5.Job))), (19, 2, .bp b1 0 2), (20, 3, .d (.sl 6 (p_0.Jobs.map encApiJob))), (21, 4, .d (.lit (.int .i64 ((p_0.Jobs.length : Int))))), (22, 5, .d (.lit (.int .i64 ((w64 ((p_0.Jobs.length : Int) - 1)))))), (23, 6, .d (.lit (.bool r8))), (24, 7, .d (.lit (.bool (!r8)))), (25, 8, .d (.lit (.bool (!r8)))), (26, 9, .tup []), (27, 10, .tup []), (28, 11, .tup []), (29, 12, .tup []), (30, 13, .tup []), (31, 14, .tup []), (32, 15, .d (.lit (.bool true)))], ?_, ?_⟩
    · exact ⟨by kernel_rfl, by kernel_rfl, by kernel_rfl, by kernel_rfl, by kernel_rfl, [([], []), ([0], []), ([], []), ([2], []), ([3], []), ([4], []), ([1, 5], []), ([6], []), ([7], []), ([8], []), ([8], []), ([8, 9, 10], []), ([8], []), ([8, 12], []), ([8, 11, 13], []), ([8, 14], [])], by kernel_rfl, ⟨fun S hS => g_fin rfl (g_op rfl (s_field_bp (lt_of rfl) (ov_ev hS rfl) fld_45_0)),
      fun S hS => g_fin rfl (g_op rfl (s_load_bp (lt_of rfl) (ov_ev hS rfl) (i := 1) rfl rfl one_3)),
      fun S hS => g_fin rfl (g_op rfl (s_field_bp (lt_of rfl) (ov_ev hS rfl) fld_25_2)),
      fun S hS => g_fin rfl (g_op rfl (s_load_bp (lt_of rfl) (ov_ev hS rfl) (i := 0) rfl rfl one_23)),
      fun S hS => g_fin rfl (g_op rfl (s_lenm (lt_of rfl) (ov_ev hS rfl) sl_23.of)),
      fun S hS => g_fin rfl (g_op rfl (s_arith (lt_of rfl) (ov_ev hS rfl) rfl rfl)),
      fun S hS => g_fin rfl (g_op rfl (s_call (lt_of rfl) (.func _ _ Try.call46) (ev2 (ov_ev hS rfl) (ev2 rfl (ev2 (ov_ev hS rfl) evn))) rfl (BVs.refl _ _) (deuceref08_within_c _ _ _ h9) rfl)),
      fun S hS => g_fin rfl (g_op rfl (s_not (lt_of rfl) (ov_ev hS rfl))),
      fun S hS => g_fin rfl (g_op rfl (s_move (v := .d (.lit (.bool (!r8)))) (lt_of rfl) (ov_ev hS rfl) rfl)),
      fun S hS => g_fin rfl (g_pass rfl rfl (lt_of rfl) rfl (lt_of rfl) (ov_en hS rfl) c12),
      fun S hS => g_fin rfl (g_pass rfl rfl (lt_of rfl) rfl (lt_of rfl) (ov_en hS rfl) c12),
      fun S hS => g_fin rfl (g_pass rfl rfl (lt_of rfl) rfl (lt_of rfl) (ov_en hS rfl) c12),
      fun S hS => g_fin rfl (g_pass rfl rfl (lt_of rfl) rfl (lt_of rfl) (ov_en hS rfl) c12),
      fun S hS => g_fin rfl (g_pass rfl rfl (lt_of rfl) rfl (lt_of rfl) (ov_en hS rfl) c12),
      fun S hS => g_fin rfl (g_pass rfl rfl (lt_of rfl) rfl (lt_of rfl) (ov_en hS rfl) c12),
      fun S hS => g_fin rfl (g_op rfl (s_pick_t (v := .d (.lit (.bool true))) (lt_of rfl) (ov_ev hS rfl) c12 rfl rfl)), trivial⟩⟩
    · exact ent_le (le_upd rfl (le_keep ⟨rfl, rfl, rfl, rfl, trivial⟩))
   ·have h11 := cond_ff c12 h11
    obtain ⟨x13, h14, h11⟩ := bind_some h11
    obtain ⟨r15, h16, h11⟩ := bind_some h11
    have h11 := Option.some.inj h11
    subst h11
    refine ⟨[(17, 0, .bp b7 0 0), (18, 1, .d (.lit (.int .i64 x5.Job))), (19, 2, .bp b1 0 2), (20, 3, .d (.sl 6 (p_0.Jobs.map encApiJob))), (21, 4, .d (.lit (.int .i64 ((p_0.Jobs.length : Int))))), (22, 5, .d (.lit (.int .i64 ((w64 ((p_0.Jobs.length : Int) - 1)))))), (23, 6, .d (.lit (.bool r8))), (24, 7, .d (.lit (.bool (!r8)))), (25, 8, .d (.lit (.bool (!r8)))), (26, 9, .d (.sl 3 (old_1.map encApiSeat))), (27, 10, .d (.lit (.int .i64 i_0_2))), (28, 11, .d (.sl 3 (x13.map encApiSeat))), (29, 12, .bp b7 0 0), (30, 13, .d (.lit (.int .i64 x5.Job))), (31, 14, .d (.lit (.bool r15))), (32, 15, .d (.lit (.bool r15)))], ?_, ?_⟩
    · exact ⟨by kernel_rfl, by kernel_rfl, by kernel_rfl, by kernel_rfl, by kernel_rfl, [([], []), ([0], []), ([], []), ([2], []), ([3], []), ([4], []), ([1, 5], []), ([6], []), ([7], []), ([8], []), ([8], []), ([8, 9, 10], []), ([8], []), ([8, 12], []), ([8, 11, 13], []), ([8, 14], [])], by kernel_rfl, ⟨fun S hS => g_fin rfl (g_op rfl (s_field_bp (lt_of rfl) (ov_ev hS rfl) fld_45_0)),
      fun S hS => g_fin rfl (g_op rfl (s_load_bp (lt_of rfl) (ov_ev hS rfl) (i := 1) rfl rfl one_3)),
      fun S hS => g_fin rfl (g_op rfl (s_field_bp (lt_of rfl) (ov_ev hS rfl) fld_25_2)),
      fun S hS => g_fin rfl (g_op rfl (s_load_bp (lt_of rfl) (ov_ev hS rfl) (i := 0) rfl rfl one_23)),
      fun S hS => g_fin rfl (g_op rfl (s_lenm (lt_of rfl) (ov_ev hS rfl) sl_23.of)),
      fun S hS => g_fin rfl (g_op rfl (s_arith (lt_of rfl) (ov_ev hS rfl) rfl rfl)),
      fun S hS => g_fin rfl (g_op rfl (s_call (lt_of rfl) (.func _ _ Try.call46) (ev2 (ov_ev hS rfl) (ev2 rfl (ev2 (ov_ev hS rfl) evn))) rfl (BVs.refl _ _) (deuceref08_within_c _ _ _ h9) rfl)),
      fun S hS => g_fin rfl (g_op rfl (s_not (lt_of rfl) (ov_ev hS rfl))),
      fun S hS => g_fin rfl (g_op rfl (s_move (v := .d (.lit (.bool (!r8)))) (lt_of rfl) (ov_ev hS rfl) rfl)),
      fun S hS => g_fin rfl (g_take rfl rfl (lt_of rfl) (ov_en hS rfl) c12 (s_move (v := .d (.sl 3 (old_1.map encApiSeat))) (lt_of rfl) (ov_ev hS rfl) rfl)),
      fun S hS => g_fin rfl (g_take rfl rfl (lt_of rfl) (ov_en hS rfl) c12 (s_move (v := .d (.lit (.int .i64 i_0_2))) (lt_of rfl) (ov_ev hS rfl) rfl)),
      fun S hS => g_fin rfl (g_take rfl rfl (lt_of rfl) (ov_en hS rfl) c12 (s_slice_sl (lt_of rfl) sl_26.of (ov_ev hS rfl) rfl (bo (ov_ev hS rfl)) (sub_map encApiSeat h14))),
      fun S hS => g_fin rfl (g_take rfl rfl (lt_of rfl) (ov_en hS rfl) c12 (s_field_bp (lt_of rfl) (ov_ev hS rfl) fld_45_0)),
      fun S hS => g_fin rfl (g_take rfl rfl (lt_of rfl) (ov_en hS rfl) c12 (s_load_bp (lt_of rfl) (ov_ev hS rfl) (i := 1) rfl rfl one_3)),
      fun S hS => g_fin rfl (g_take rfl rfl (lt_of rfl) (ov_en hS rfl) c12 (s_call (lt_of rfl) (.func _ _ Try.call67) (ev2 (ov_ev hS rfl) (ev2 (ov_ev hS rfl) evn)) rfl (BVs.refl _ _) (deuceref08_has_c _ _ h16) rfl)),
      fun S hS => g_fin rfl (g_op rfl (s_pick_f (v := .d (.lit (.bool r15))) (lt_of rfl) (ov_ev hS rfl) c12 (ov_ev hS rfl) rfl)), trivial⟩⟩
    · exact ent_le (le_upd rfl (le_keep ⟨rfl, rfl, rfl, rfl, trivial⟩))
  ·refine tr1 rfl (s_move (v := .d (.lit (.bool b10))) (lt_of rfl) rfl rfl) ?_
   obtain ⟨b17, h18, h⟩ := bind_some h
   refine tr_guard 5 [1, 2, 5, 6] 38 b17 ?_ ?_
   ·refine bool_cases (b10) (fun c25 => ?_) (fun c25 => ?_)
    ·have h18 := cond_tt c25 h18
     refine tr_pass rfl rfl (lt_of rfl) rfl (lt_of rfl) rfl c25 ?_
     refine tr_pass rfl rfl (lt_of rfl) rfl (lt_of rfl) rfl c25 ?_
     refine tr_pass rfl rfl (lt_of rfl) rfl (lt_of rfl) rfl c25 ?_
     refine tr_pass rfl rfl (lt_of rfl) rfl (lt_of rfl) rfl c25 ?_
     refine tr1 rfl (s_pick_t (v := .d (.lit (.bool true))) (lt_of rfl) rfl c25 rfl rfl) ?_
     have h18 := Option.some.inj h18
     subst h18
     refine tr_nil (ent_keep rfl ⟨rfl, rfl, rfl, rfl, trivial⟩ rfl)
    ·have h18 := cond_ff c25 h18
     refine tr_take1 rfl rfl (lt_of rfl) rfl c25 (s_field_bp (lt_of rfl) rfl fld_45_1) ?_
     refine tr_take1 rfl rfl (lt_of rfl) rfl c25 (s_load_bp (lt_of rfl) rfl (i := 1) rfl rfl one_3) ?_
     obtain ⟨r26, h27, h18⟩ := bind_some h18
     refine tr_take1 rfl rfl (lt_of rfl) rfl c25 (s_call (lt_of rfl) (.func _ _ Try.call46) rfl rfl (BVs.refl _ _) (deuceref08_within_c _ _ _ h27) rfl) ?_
     refine tr_take1 rfl rfl (lt_of rfl) rfl c25 (s_not (lt_of rfl) rfl) ?_
     refine tr1 rfl (s_pick_f (v := .d (.lit (.bool (!r26)))) (lt_of rfl) rfl c25 rfl rfl) ?_
     have h18 := Option.some.inj h18
     subst h18
     refine tr_nil (ent_keep rfl ⟨rfl, rfl, rfl, rfl, trivial⟩ rfl)
   ·refine tr1 rfl (s_move (v := .d (.lit (.bool b17))) (lt_of rfl) rfl rfl) ?_
    obtain ⟨b19, h20, h⟩ := bind_some h
    refine tr_guard 5 [1, 2, 5] 44 b19 ?_ ?_
    ·refine bool_cases (b17) (fun c22 => ?_) (fun c22 => ?_)
     ·have h20 := cond_tt c22 h20
      refine tr_pass rfl rfl (lt_of rfl) rfl (lt_of rfl) rfl c22 ?_
      refine tr_pass rfl rfl (lt_of rfl) rfl (lt_of rfl) rfl c22 ?_
      refine tr_pass rfl rfl (lt_of rfl) rfl (lt_of rfl) rfl c22 ?_
      refine tr_pass rfl rfl (lt_of rfl) rfl (lt_of rfl) rfl c22 ?_
      refine tr1 rfl (s_pick_t (v := .d (.lit (.bool true))) (lt_of rfl) rfl c22 rfl rfl) ?_
      have h20 := Option.some.inj h20
      subst h20
      refine tr_nil (ent_keep rfl ⟨rfl, rfl, rfl, trivial⟩ rfl)
     ·have h20 := cond_ff c22 h20
      refine tr_take1 rfl rfl (lt_of rfl) rfl c22 (s_field_bp (lt_of rfl) rfl fld_45_2) ?_
      refine tr_take1 rfl rfl (lt_of rfl) rfl c22 (s_load_bp (lt_of rfl) rfl (i := 1) rfl rfl one_3) ?_
      obtain ⟨r23, h24, h20⟩ := bind_some h20
      refine tr_take1 rfl rfl (lt_of rfl) rfl c22 (s_call (lt_of rfl) (.func _ _ Try.call46) rfl rfl (BVs.refl _ _) (deuceref08_within_c _ _ _ h24) rfl) ?_
      refine tr_take1 rfl rfl (lt_of rfl) rfl c22 (s_not (lt_of rfl) rfl) ?_
      refine tr1 rfl (s_pick_f (v := .d (.lit (.bool (!r23)))) (lt_of rfl) rfl c22 rfl rfl) ?_
      have h20 := Option.some.inj h20
      subst h20
      refine tr_nil (ent_keep rfl ⟨rfl, rfl, rfl, trivial⟩ rfl)
    ·refine tr_nil ?_
     refine tr_if rfl (fun c21 => ?_) (fun c21 => ?_)
     ·have h := cond_tt c21 h
      refine tr_seq ?_
      refine tr_region ?_
      refine tr1 rfl (s_assign (v := .d (.lit (.bool false))) (lt_of rfl) rfl rfl) ?_
      refine tr_nil ?_
      have h := Option.some.inj h
      subst h
      refine tr_ent (ent_free (ble_keep (l := [4]) ⟨rfl, trivial⟩)) ?_
      exact tr_ret ⟨rfl, _, .one _, rfl, rfl⟩
     ·have h := cond_ff c21 h
      refine tr_skipb ?_
      refine tr_region ?_
      refine tr1 rfl (s_move (v := .d (.lit (.int .i64 i_0_2))) (lt_of rfl) rfl rfl) ?_
      refine tr1 rfl (s_arith (lt_of rfl) rfl rfl rfl) ?_
      refine tr1 rfl (s_assign (v := .d (.lit (.int .i64 ((w64 (i_0_2 + 1)))))) (lt_of rfl) rfl rfl) ?_
      refine tr_nil ?_
      exact ⟨(w64 (i_0_2 + 1)), h, ent_pick [0] rfl rfl (le_upd rfl (le_keep ⟨rfl, rfl, trivial⟩))⟩
 ·have h := cond_ff c4 h
  refine tr_exit ?_
  refine .inl ⟨rfl, ?_⟩
  simp only [deuceref08_IsOld_K0] at h
  refine tr_seq ?_
  refine tr_region ?_
  refine tr1 rfl (s_move (v := .d (.sl 3 (old_1.map encApiSeat))) (lt_of rfl) rfl rfl) ?_
  refine tr1 rfl (s_lenm (lt_of rfl) rfl sl_26.of) ?_
  refine tr1 rfl (s_field_bp (lt_of rfl) rfl fld_25_2) ?_
  refine tr1 rfl (s_load_bp (lt_of rfl) rfl (i := 0) rfl rfl one_23) ?_
  refine tr1 rfl (s_lenm (lt_of rfl) rfl sl_23.of) ?_
  refine tr1 rfl (s_cmp (lt_of rfl) rfl rfl rfl) ?_
  refine tr1 rfl (s_assign (v := .d (.lit (.bool ((decide ((old_1.length : Int) = (p_0.Jobs.length : Int))))))) (lt_of rfl) rfl rfl) ?_
  refine tr_nil ?_
  have h := Option.some.inj h
  subst h
  refine tr_ent (ent_free (ble_keep (l := [4]) ⟨rfl, trivial⟩)) ?_
  exact tr_ret ⟨rfl, _, .one _, rfl, rfl⟩

theorem slices_IndexFunc_api_Seat_c (s_0 : List ApiSeat) (f_1 : ApiSeat → Option Bool) {r : Int} (f_1_f : Nat) (f_1_v : List AV) (f_1_e : ∀ args w, (callFunc f_1_f args).run Try.prog w = .ok (.enter f_1_f args) w) (f_1_h : ∀ (x0 : ApiSeat) r, f_1 x0 = some r → Fn Try.prog f_1_f ([.agg (encApiSeat x0)] ++ f_1_v) (.d (.lit (.bool r)))) (h : slices_IndexFunc_api_Seat s_0 f_1 = some r) : Fn Try.prog 129 [.d (.sl 3 (s_0.map encApiSeat)), .fn f_1_f f_1_v] (.d (.lit (.int .i64 r))) := by
 unfold slices_IndexFunc_api_Seat at h
 refine Fn.of_tr Try.func129 rfl (rs := [.tmp 4]) Try.results129 Try.ntmps129 (Nat.le_of_ble_eq_true rfl) ?_
 refine tr_seq ?_
 refine tr_region ?_
 refine tr1 rfl (s_assign (v := .d (.lit (.int .i64 0))) (lt_of rfl) rfl rfl) ?_
 refine tr_nil ?_
 refine tr_seq ?_
 refine tr_seq ?_
 refine tr_region ?_
 refine tr1 rfl (s_move (v := .d (.sl 3 (s_0.map encApiSeat))) (lt_of rfl) rfl rfl) ?_
 refine tr1 rfl (s_lenm (lt_of rfl) rfl sl_26.of) ?_
 refine tr1 rfl (s_move (v := .d (.lit (.int .i64 0))) (lt_of rfl) rfl rfl) ?_
 refine tr_nil ?_
 refine tr_blk ?_
 refine tr_loopk [0, 1, 7] (fun (s1 : Int) => [(8, .d (.lit (.int .i64 s1)))]) (fun (s1 : Int) => []) (fun (k : Nat) (s1 : Int) => slices_IndexFunc_api_Seat_L0 s_0 f_1 (s_0.length : Int) k s1) (fun _ => rfl) (0) h (ent_pick [] rfl rfl (le_upd rfl (le_keep ⟨rfl, rfl, rfl, trivial⟩))) ?_
 rintro k2 t8_0_1 h
 simp only [slices_IndexFunc_api_Seat_L0] at h
 refine tr_seq ?_
 refine tr_region ?_
 refine tr1 rfl (s_cmp (lt_of rfl) rfl rfl rfl) ?_
 refine tr_nil ?_
 refine tr_seq ?_
 refine tr_if rfl (fun c3 => ?_) (fun c3 => ?_)
 ·have h := cond_tt c3 h
  refine tr_skip ?_
  refine tr_seq ?_
  refine tr_blk ?_
  refine tr_seq ?_
  refine tr_region ?_
  refine tr1 rfl (s_move (v := .d (.lit (.int .i64 t8_0_1))) (lt_of rfl) rfl rfl) ?_
  refine tr1 rfl (s_assign (v := .d (.lit (.int .i64 t8_0_1))) (lt_of rfl) rfl rfl) ?_
  refine tr_nil ?_
  refine tr_seq ?_
  refine tr_region ?_
  refine tr1 rfl (s_move (v := .fn f_1_f f_1_v) (lt_of rfl) rfl rfl) ?_
  refine tr1 rfl (s_move (v := .d (.sl 3 (s_0.map encApiSeat))) (lt_of rfl) rfl rfl) ?_
  refine tr1 rfl (s_move (v := .d (.lit (.int .i64 t8_0_1))) (lt_of rfl) rfl rfl) ?_
  obtain ⟨x4, h5, h⟩ := bind_some h
  refine tr1 rfl (s_index_sl (lt_of rfl) rfl rfl sl_26.of (idx_map encApiSeat h5)) ?_
  refine tr1 rfl (s_loada_cp (lt_of rfl) rfl agg_45 (es := (encApiSeat x4)) rfl rfl) ?_
  obtain ⟨r6, h7, h⟩ := bind_some h
  refine tr1 rfl (s_call (lt_of rfl) (.clo _ _ _ _ f_1_e rfl) (evap rfl) rfl (BVs.refl _ _) (f_1_h _ _  h7) rfl) ?_
  refine tr_nil ?_
  refine tr_if rfl (fun c8 => ?_) (fun c8 => ?_)
  ·have h := cond_tt c8 h
   refine tr_seq ?_
   refine tr_region ?_
   refine tr1 rfl (s_move (v := .d (.lit (.int .i64 t8_0_1))) (lt_of rfl) rfl rfl) ?_
   refine tr1 rfl (s_assign (v := .d (.lit (.int .i64 t8_0_1))) (lt_of rfl) rfl rfl) ?_
   refine tr_nil ?_
   have h := Option.some.inj h
   subst h
   exact tr_ret ⟨rfl, _, .one _, rfl, rfl⟩
  ·have h := cond_ff c8 h
   refine tr_skipb ?_
   refine tr_region ?_
   refine tr1 rfl (s_arith (lt_of rfl) rfl rfl rfl) ?_
   refine tr1 rfl (s_move (v := .d (.lit (.int .i64 ((w64 (t8_0_1 + 1)))))) (lt_of rfl) rfl rfl) ?_
   refine tr_nil ?_
   exact ⟨(w64 (t8_0_1 + 1)), h, ent_pick [] rfl rfl (le_upd rfl (le_keep ⟨rfl, rfl, rfl, trivial⟩))⟩
 ·have h := cond_ff c3 h
  refine tr_exit ?_
  refine .inl ⟨rfl, ?_⟩
  simp only [slices_IndexFunc_api_Seat_K0] at h
  refine tr_seq ?_
  refine tr_region ?_
  refine tr1 rfl (s_assign (v := .d (.lit (.int .i64 (-1)))) (lt_of rfl) rfl rfl) ?_
  refine tr_nil ?_
  have h := Option.some.inj h
  subst h
  exact tr_ret ⟨rfl, _, .one _, rfl, rfl⟩

theorem slices_ContainsFunc_api_Seat_c (s_0 : List ApiSeat) (f_1 : ApiSeat → Option Bool) {r : Bool} (f_1_f : Nat) (f_1_v : List AV) (f_1_e : ∀ args w, (callFunc f_1_f args).run Try.prog w = .ok (.enter f_1_f args) w) (f_1_h : ∀ (x0 : ApiSeat) r, f_1 x0 = some r → Fn Try.prog f_1_f ([.agg (encApiSeat x0)] ++ f_1_v) (.d (.lit (.bool r)))) (h : slices_ContainsFunc_api_Seat s_0 f_1 = some r) : Fn Try.prog 111 [.d (.sl 3 (s_0.map encApiSeat)), .fn f_1_f f_1_v] (.d (.lit (.bool r))) := by
 unfold slices_ContainsFunc_api_Seat at h
 refine Fn.of_tr Try.func111 rfl (rs := [.tmp 4]) Try.results111 Try.ntmps111 (Nat.le_of_ble_eq_true rfl) ?_
 refine tr_seq ?_
 refine tr_region ?_
 refine tr1 rfl (s_assign (v := .d (.lit (.bool false))) (lt_of rfl) rfl rfl) ?_
 refine tr_nil ?_
 refine tr_seq ?_
 refine tr_region ?_
 refine tr1 rfl (s_move (v := .d (.sl 3 (s_0.map encApiSeat))) (lt_of rfl) rfl rfl) ?_
 refine tr1 rfl (s_move (v := .fn f_1_f f_1_v) (lt_of rfl) rfl rfl) ?_
 obtain ⟨r1, h2, h⟩ := bind_some h
 refine tr1 rfl (s_call (lt_of rfl) (.func _ _ Try.call129) rfl rfl (BVs.refl _ _) (slices_IndexFunc_api_Seat_c _ _ f_1_f f_1_v f_1_e f_1_h h2) rfl) ?_
 refine tr1 rfl (s_cmp (lt_of rfl) rfl rfl rfl) ?_
 refine tr1 rfl (s_assign (v := .d (.lit (.bool ((decide (0 ≤ r1)))))) (lt_of rfl) rfl rfl) ?_
 refine tr_nil ?_
 have h := Option.some.inj h
 subst h
 exact tr_ret ⟨rfl, _, .one _, rfl, rfl⟩

theorem play_isOld_1_c (o_0 : ApiSeat) (c_1 : ApiSeat) {r : Bool} (h : play_isOld_1 o_0 c_1 = some r) : Fn Try.prog 112 [.agg (encApiSeat o_0), .cp (encApiSeat c_1)] (.d (.lit (.bool r))) := by
 unfold play_isOld_1 at h
 refine Fn.of_tr Try.func112 rfl (rs := [.tmp 3]) Try.results112 Try.ntmps112 (Nat.le_of_ble_eq_true rfl) ?_
 refine tr_seq ?_
 refine tr_region ?_
 refine tr_op rfl (s_box (v := .agg (encApiSeat o_0)) (lt_of rfl) rfl rfl rfl) ?_
 rintro _ ⟨b1, rfl⟩
 refine tr1 rfl (s_assign (v := .d (.lit (.bool false))) (lt_of rfl) rfl rfl) ?_
 refine tr_nil ?_
 refine tr_seq ?_
 refine tr_region ?_
 refine tr1 rfl (s_field_bp (lt_of rfl) rfl fld_45_0) ?_
 refine tr1 rfl (s_load_bp (lt_of rfl) rfl (i := 0) rfl rfl one_3) ?_
 refine tr1 rfl (s_field_cp (lt_of rfl) rfl fld_45_0 (es := [.lit (.int .i64 c_1.Job)]) rfl) ?_
 refine tr1 rfl (s_load_cp (lt_of rfl) rfl one_3) ?_
 refine tr1 rfl (s_cmp (lt_of rfl) rfl rfl rfl) ?_
 refine tr1 rfl (s_assign (v := .d (.lit (.bool ((decide (o_0.Job = c_1.Job)))))) (lt_of rfl) rfl rfl) ?_
 refine tr_nil ?_
 have h := Option.some.inj h
 subst h
 refine tr_ent (ent_free (ble_keep (l := [3]) ⟨rfl, trivial⟩)) ?_
 exact tr_ret ⟨rfl, _, .one _, rfl, rfl⟩

theorem play_isOld_c (p_0 : ApiProgram) (old_1 : List ApiSeat) {r : Bool} (h : play_isOld p_0 old_1 = some r) : Fn Try.prog 91 [.agg (encApiProgram p_0), .d (.sl 3 (old_1.map encApiSeat))] (.d (.lit (.bool r))) := by
 unfold play_isOld at h
 refine Fn.of_tr Try.func91 rfl (rs := [.tmp 4]) Try.results91 Try.ntmps91 (Nat.le_of_ble_eq_true rfl) ?_
 refine tr_seq ?_
 refine tr_region ?_
 refine tr_op rfl (s_box (v := .agg (encApiProgram p_0)) (lt_of rfl) rfl rfl rfl) ?_
 rintro _ ⟨b1, rfl⟩
 refine tr1 rfl (s_assign (v := .d (.lit (.bool false))) (lt_of rfl) rfl rfl) ?_
 refine tr_nil ?_
 refine tr_seq ?_
 refine tr_seq ?_
 refine tr_region ?_
 refine tr1 rfl (s_move (v := .d (.sl 3 (old_1.map encApiSeat))) (lt_of rfl) rfl rfl) ?_
 refine tr1 rfl (s_lenm (lt_of rfl) rfl sl_26.of) ?_
 refine tr1 rfl (s_move (v := .d (.lit (.int .i64 0))) (lt_of rfl) rfl rfl) ?_
 refine tr_nil ?_
 refine tr_blk ?_
 refine tr_loopk [1, 2, 8, 9] (fun (s2 : Int) => [(10, .d (.lit (.int .i64 s2)))]) (fun (s2 : Int) => [.box b1 0 (encApiProgram p_0)]) (fun (k : Nat) (s2 : Int) => play_isOld_L0 old_1 old_1 (old_1.length : Int) p_0 k s2) (fun _ => rfl) (0) h (ent_pick [0] rfl rfl (le_upd rfl (le_keep ⟨rfl, rfl, rfl, rfl, trivial⟩))) ?_
 rintro k3 t10_0_2 h
 simp only [play_isOld_L0] at h
 refine tr_seq ?_
 refine tr_region ?_
 refine tr1 rfl (s_cmp (lt_of rfl) rfl rfl rfl) ?_
 refine tr_nil ?_
 refine tr_seq ?_
 refine tr_if rfl (fun c4 => ?_) (fun c4 => ?_)
 ·have h := cond_tt c4 h
  refine tr_skip ?_
  refine tr_seq ?_
  refine tr_blk ?_
  refine tr_seq ?_
  refine tr_region ?_
  refine tr1 rfl (s_move (v := .d (.lit (.int .i64 t10_0_2))) (lt_of rfl) rfl rfl) ?_
  obtain ⟨x5, h6, h⟩ := bind_some h
  refine tr1 rfl (s_index_sl (lt_of rfl) rfl rfl sl_26.of (idx_map encApiSeat h6)) ?_
  refine tr1 rfl (s_loada_cp (lt_of rfl) rfl agg_45 (es := (encApiSeat x5)) rfl rfl) ?_
  refine tr_op rfl (s_alloc (zs := [.lit (.int .i64 0), .lit (.int .i64 0), .lit (.int .i64 0)]) (lt_of rfl) Try.zeroValue45 rfl rfl) ?_
  rintro _ ⟨b7, rfl⟩
  refine tr1 rfl (s_assign (v := .d (.lit (.int .i64 t10_0_2))) (lt_of rfl) rfl rfl) ?_
  refine tr1 rfl (s_store_bp (i := 1) rfl rfl rfl rfl rfl Try.sizeOf45 rfl (lt_of rfl) (Nat.le_of_ble_eq_true rfl) (ds' := (encApiSeat x5)) rfl) ?_
  refine tr_nil ?_
  refine tr_seq ?_
  refine tr_region ?_
  refine tr1 rfl (s_move (v := .d (.sl 3 (old_1.map encApiSeat))) (lt_of rfl) rfl rfl) ?_
  refine tr1 rfl (s_move (v := .d (.lit (.int .i64 t10_0_2))) (lt_of rfl) rfl rfl) ?_
  obtain ⟨x8, h9, h⟩ := bind_some h
  refine tr1 rfl (s_slice_sl (lt_of rfl) sl_26.of rfl rfl rfl (sub_map encApiSeat h9)) ?_
  refine tr1 rfl (s_func (lt_of rfl) rfl rfl) ?_
  obtain ⟨r11, h12, h⟩ := bind_some h
  refine tr1 rfl (s_call (lt_of rfl) (.func _ _ Try.call111) rfl rfl (.cons (.same _) (.cons ((bv_fn (.cons ((bv_bp 1 rfl rfl (dvc (.same _) (dvc (.same _) (dvc (.same _) dvn))))) .nil))) .nil)) (slices_ContainsFunc_api_Seat_c _ _ 112 [.cp [.lit (.int .i64 x5.Job), .lit (.int .i64 x5.Day), .lit (.int .i64 x5.Court)]] Try.call112 (fun _ _ h => play_isOld_1_c _ _ h) h12) rfl) ?_
  refine tr1 rfl (s_assign (v := .d (.lit (.bool r11))) (lt_of rfl) rfl rfl) ?_
  refine tr_nil ?_
  refine tr_seq ?_
  refine tr_region ?_
  refine tr1 rfl (s_move (v := .d (.lit (.bool r11))) (lt_of rfl) rfl rfl) ?_
  refine tr1 rfl (s_move (v := .d (.lit (.bool r11))) (lt_of rfl) rfl rfl) ?_
  obtain ⟨b13, h14, h⟩ := bind_some h
  refine tr_guard 9 [1, 2, 6, 8, 9, 10] 30 b13 ?_ ?_
  ·refine bool_cases (r11) (fun c26 => ?_) (fun c26 => ?_)
   ·have h14 := cond_tt c26 h14
    refine tr_pass rfl rfl (lt_of rfl) rfl (lt_of rfl) rfl c26 ?_
    refine tr_pass rfl rfl (lt_of rfl) rfl (lt_of rfl) rfl c26 ?_
    refine tr_pass rfl rfl (lt_of rfl) rfl (lt_of rfl) rfl c26 ?_
    refine tr_pass rfl rfl (lt_of rfl) rfl (lt_of rfl) rfl c26 ?_
    refine tr_pass rfl rfl (lt_of rfl) rfl (lt_of rfl) rfl c26 ?_
    refine tr_pass rfl rfl (lt_of rfl) rfl (lt_of rfl) rfl c26 ?_
    refine tr_pass rfl rfl (lt_of rfl) rfl (lt_of rfl) rfl c26 ?_
    refine tr_pass rfl rfl (lt_of rfl) rfl (lt_of rfl) rfl c26 ?_
    refine tr1 rfl (s_pick_t (v := .d (.lit (.bool true))) (lt_of rfl) rfl c26 rfl rfl) ?_
    have h14 := Option.some.inj h14
    subst h14
    refine tr_nil (ent_keep rfl ⟨rfl, rfl, rfl, rfl, rfl, rfl, trivial⟩ rfl)
   ·have h14 := cond_ff c26 h14
    refine tr_take1 rfl rfl (lt_of rfl) rfl c26 (s_field_bp (lt_of rfl) rfl fld_45_0) ?_
    refine tr_take1 rfl rfl (lt_of rfl) rfl c26 (s_load_bp (lt_of rfl) rfl (i := 1) rfl rfl one_3) ?_
    refine tr_take1 rfl rfl (lt_of rfl) rfl c26 (s_field_bp (lt_of rfl) rfl fld_25_2) ?_
    refine tr_take1 rfl rfl (lt_of rfl) rfl c26 (s_load_bp (lt_of rfl) rfl (i := 0) rfl rfl one_23) ?_
    refine tr_take1 rfl rfl (lt_of rfl) rfl c26 (s_lenm (lt_of rfl) rfl sl_23.of) ?_
    refine tr_take1 rfl rfl (lt_of rfl) rfl c26 (s_arith (lt_of rfl) rfl rfl rfl) ?_
    obtain ⟨r27, h28, h14⟩ := bind_some h14
    refine tr_take1 rfl rfl (lt_of rfl) rfl c26 (s_call (lt_of rfl) (.func _ _ Try.call57) rfl rfl (BVs.refl _ _) (play_within_c _ _ _ h28) rfl) ?_
    refine tr_take1 rfl rfl (lt_of rfl) rfl c26 (s_not (lt_of rfl) rfl) ?_
    refine tr1 rfl (s_pick_f (v := .d (.lit (.bool (!r27)))) (lt_of rfl) rfl c26 rfl rfl) ?_
    have h14 := Option.some.inj h14
    subst h14
    refine tr_nil (ent_keep rfl ⟨rfl, rfl, rfl, rfl, rfl, rfl, trivial⟩ rfl)
  ·refine tr1 rfl (s_move (v := .d (.lit (.bool b13))) (lt_of rfl) rfl rfl) ?_
   obtain ⟨b15, h16, h⟩ := bind_some h
   refine tr_guard 5 [1, 2, 6, 8, 9, 10] 36 b15 ?_ ?_
   ·refine bool_cases (b13) (fun c23 => ?_) (fun c23 => ?_)
    ·have h16 := cond_tt c23 h16
     refine tr_pass rfl rfl (lt_of rfl) rfl (lt_of rfl) rfl c23 ?_
     refine tr_pass rfl rfl (lt_of rfl) rfl (lt_of rfl) rfl c23 ?_
     refine tr_pass rfl rfl (lt_of rfl) rfl (lt_of rfl) rfl c23 ?_
     refine tr_pass rfl rfl (lt_of rfl) rfl (lt_of rfl) rfl c23 ?_
     refine tr1 rfl (s_pick_t (v := .d (.lit (.bool true))) (lt_of rfl) rfl c23 rfl rfl) ?_
     have h16 := Option.some.inj h16
     subst h16
     refine tr_nil (ent_keep rfl ⟨rfl, rfl, rfl, rfl, rfl, rfl, trivial⟩ rfl)
    ·have h16 := cond_ff c23 h16
     refine tr_take1 rfl rfl (lt_of rfl) rfl c23 (s_field_bp (lt_of rfl) rfl fld_45_1) ?_
     refine tr_take1 rfl rfl (lt_of rfl) rfl c23 (s_load_bp (lt_of rfl) rfl (i := 1) rfl rfl one_3) ?_
     obtain ⟨r24, h25, h16⟩ := bind_some h16
     refine tr_take1 rfl rfl (lt_of rfl) rfl c23 (s_call (lt_of rfl) (.func _ _ Try.call57) rfl rfl (BVs.refl _ _) (play_within_c _ _ _ h25) rfl) ?_
     refine tr_take1 rfl rfl (lt_of rfl) rfl c23 (s_not (lt_of rfl) rfl) ?_
     refine tr1 rfl (s_pick_f (v := .d (.lit (.bool (!r24)))) (lt_of rfl) rfl c23 rfl rfl) ?_
     have h16 := Option.some.inj h16
     subst h16
     refine tr_nil (ent_keep rfl ⟨rfl, rfl, rfl, rfl, rfl, rfl, trivial⟩ rfl)
   ·refine tr1 rfl (s_move (v := .d (.lit (.bool b15))) (lt_of rfl) rfl rfl) ?_
    obtain ⟨b17, h18, h⟩ := bind_some h
    refine tr_guard 5 [1, 2, 8, 9, 10] 42 b17 ?_ ?_
    ·refine bool_cases (b15) (fun c20 => ?_) (fun c20 => ?_)
     ·have h18 := cond_tt c20 h18
      refine tr_pass rfl rfl (lt_of rfl) rfl (lt_of rfl) rfl c20 ?_
      refine tr_pass rfl rfl (lt_of rfl) rfl (lt_of rfl) rfl c20 ?_
      refine tr_pass rfl rfl (lt_of rfl) rfl (lt_of rfl) rfl c20 ?_
      refine tr_pass rfl rfl (lt_of rfl) rfl (lt_of rfl) rfl c20 ?_
      refine tr1 rfl (s_pick_t (v := .d (.lit (.bool true))) (lt_of rfl) rfl c20 rfl rfl) ?_
      have h18 := Option.some.inj h18
      subst h18
      refine tr_nil (ent_keep rfl ⟨rfl, rfl, rfl, rfl, rfl, trivial⟩ rfl)
     ·have h18 := cond_ff c20 h18
      refine tr_take1 rfl rfl (lt_of rfl) rfl c20 (s_field_bp (lt_of rfl) rfl fld_45_2) ?_
      refine tr_take1 rfl rfl (lt_of rfl) rfl c20 (s_load_bp (lt_of rfl) rfl (i := 1) rfl rfl one_3) ?_
      obtain ⟨r21, h22, h18⟩ := bind_some h18
      refine tr_take1 rfl rfl (lt_of rfl) rfl c20 (s_call (lt_of rfl) (.func _ _ Try.call57) rfl rfl (BVs.refl _ _) (play_within_c _ _ _ h22) rfl) ?_
      refine tr_take1 rfl rfl (lt_of rfl) rfl c20 (s_not (lt_of rfl) rfl) ?_
      refine tr1 rfl (s_pick_f (v := .d (.lit (.bool (!r21)))) (lt_of rfl) rfl c20 rfl rfl) ?_
      have h18 := Option.some.inj h18
      subst h18
      refine tr_nil (ent_keep rfl ⟨rfl, rfl, rfl, rfl, rfl, trivial⟩ rfl)
    ·refine tr_nil ?_
     refine tr_if rfl (fun c19 => ?_) (fun c19 => ?_)
     ·have h := cond_tt c19 h
      refine tr_seq ?_
      refine tr_region ?_
      refine tr1 rfl (s_assign (v := .d (.lit (.bool false))) (lt_of rfl) rfl rfl) ?_
      refine tr_nil ?_
      have h := Option.some.inj h
      subst h
      refine tr_ent (ent_free (ble_keep (l := [4]) ⟨rfl, trivial⟩)) ?_
      exact tr_ret ⟨rfl, _, .one _, rfl, rfl⟩
     ·have h := cond_ff c19 h
      refine tr_skipb ?_
      refine tr_region ?_
      refine tr1 rfl (s_arith (lt_of rfl) rfl rfl rfl) ?_
      refine tr1 rfl (s_move (v := .d (.lit (.int .i64 ((w64 (t10_0_2 + 1)))))) (lt_of rfl) rfl rfl) ?_
      refine tr_nil ?_
      exact ⟨(w64 (t10_0_2 + 1)), h, ent_pick [0] rfl rfl (le_upd rfl (le_keep ⟨rfl, rfl, rfl, rfl, trivial⟩))⟩
 ·have h := cond_ff c4 h
  refine tr_exit ?_
  refine .inl ⟨rfl, ?_⟩
  simp only [play_isOld_K0] at h
  refine tr_seq ?_
  refine tr_region ?_
  refine tr1 rfl (s_move (v := .d (.sl 3 (old_1.map encApiSeat))) (lt_of rfl) rfl rfl) ?_
  refine tr1 rfl (s_lenm (lt_of rfl) rfl sl_26.of) ?_
  refine tr1 rfl (s_field_bp (lt_of rfl) rfl fld_25_2) ?_
  refine tr1 rfl (s_load_bp (lt_of rfl) rfl (i := 0) rfl rfl one_23) ?_
  refine tr1 rfl (s_lenm (lt_of rfl) rfl sl_23.of) ?_
  refine tr1 rfl (s_cmp (lt_of rfl) rfl rfl rfl) ?_
  refine tr1 rfl (s_assign (v := .d (.lit (.bool ((decide ((old_1.length : Int) = (p_0.Jobs.length : Int))))))) (lt_of rfl) rfl rfl) ?_
  refine tr_nil ?_
  have h := Option.some.inj h
  subst h
  refine tr_ent (ent_free (ble_keep (l := [4]) ⟨rfl, trivial⟩)) ?_
  exact tr_ret ⟨rfl, _, .one _, rfl, rfl⟩

theorem play_repair_c (p_0 : ApiProgram) (old_1 : List ApiSeat) {r : Int × (List ApiSeat) × Int} (h : play_repair p_0 old_1 = some r) : Fn Try.prog 68 [.agg (encApiProgram p_0), .d (.sl 3 (old_1.map encApiSeat))] (.tup [.d (.lit (.int .i64 r.1)), .d (.sl 3 (r.2.1.map encApiSeat)), .d (.lit (.int .i64 r.2.2))]) := by
 unfold play_repair at h
 refine Fn.of_tr Try.func68 rfl (rs := [.tmp 4, .tmp 5, .tmp 6]) Try.results68 Try.ntmps68 (Nat.le_of_ble_eq_true rfl) ?_
 refine tr_seq ?_
 refine tr_region ?_
 refine tr_op rfl (s_box (v := .agg (encApiProgram p_0)) (lt_of rfl) rfl rfl rfl) ?_
 rintro _ ⟨b1, rfl⟩
 refine tr1 rfl (s_assign (v := .d (.lit (.int .i64 0))) (lt_of rfl) rfl rfl) ?_
 refine tr1 rfl (s_nil 3 (lt_of rfl)) ?_
 refine tr1 rfl (s_assign (v := .d (.lit (.int .i64 0))) (lt_of rfl) rfl rfl) ?_
 refine tr_nil ?_
 refine tr_seq ?_
 refine tr_seq ?_
 refine tr_region ?_
 refine tr1 rfl (s_loada_bp (lt_of rfl) rfl (i := 0) rfl agg_25 (es := (encApiProgram p_0)) rfl rfl) ?_
 obtain ⟨r2, h3, h⟩ := bind_some h
 refine tr1 rfl (s_call (lt_of rfl) (.func _ _ Try.call25) rfl rfl (BVs.refl _ _) (play_Check_c _ h3) rfl) ?_
 refine tr1 rfl (s_assign (v := .d (.lit (.int .i64 r2))) (lt_of rfl) rfl rfl) ?_
 refine tr_nil ?_
 refine tr_seq ?_
 refine tr_region ?_
 refine tr1 rfl (s_move (v := .d (.lit (.int .i64 r2))) (lt_of rfl) rfl rfl) ?_
 refine tr1 rfl (s_cmp (lt_of rfl) rfl rfl rfl) ?_
 refine tr_nil ?_
 refine tr_if rfl (fun c4 => ?_) (fun c4 => ?_)
 ·have h := cond_tt c4 h
  refine tr_seq ?_
  refine tr_region ?_
  refine tr1 rfl (s_move (v := .d (.lit (.int .i64 r2))) (lt_of rfl) rfl rfl) ?_
  refine tr1 rfl (s_assign (v := .d (.lit (.int .i64 0))) (lt_of rfl) rfl rfl) ?_
  refine tr1 rfl (s_nil 3 (lt_of rfl)) ?_
  refine tr1 rfl (s_assign (v := .d (.lit (.int .i64 r2))) (lt_of rfl) rfl rfl) ?_
  refine tr_nil ?_
  have h := Option.some.inj h
  subst h
  refine tr_ent (ent_free (ble_keep (l := [4, 5, 6]) ⟨rfl, rfl, rfl, trivial⟩)) ?_
  exact tr_ret ⟨rfl, _, .three _ _ _, rfl, rfl⟩
 ·have h := cond_ff c4 h
  refine tr_skip ?_
  refine tr_seq ?_
  refine tr_seq ?_
  refine tr_region ?_
  refine tr1 rfl (s_loada_bp (lt_of rfl) rfl (i := 0) rfl agg_25 (es := (encApiProgram p_0)) rfl rfl) ?_
  refine tr1 rfl (s_move (v := .d (.sl 3 (old_1.map encApiSeat))) (lt_of rfl) rfl rfl) ?_
  obtain ⟨r5, h6, h⟩ := bind_some h
  refine tr1 rfl (s_call (lt_of rfl) (.func _ _ Try.call91) rfl rfl (BVs.refl _ _) (play_isOld_c _ _ h6) rfl) ?_
  refine tr1 rfl (s_not (lt_of rfl) rfl) ?_
  refine tr_nil ?_
  refine tr_if rfl (fun c7 => ?_) (fun c7 => ?_)
  ·have h := cond_tt c7 h
   refine tr_seq ?_
   refine tr_region ?_
   refine tr1 rfl (s_assign (v := .d (.lit (.int .i64 0))) (lt_of rfl) rfl rfl) ?_
   refine tr1 rfl (s_nil 3 (lt_of rfl)) ?_
   refine tr1 rfl (s_assign (v := .d (.lit (.int .i64 81))) (lt_of rfl) rfl rfl) ?_
   refine tr_nil ?_
   have h := Option.some.inj h
   subst h
   refine tr_ent (ent_free (ble_keep (l := [4, 5, 6]) ⟨rfl, rfl, rfl, trivial⟩)) ?_
   exact tr_ret ⟨rfl, _, .three _ _ _, rfl, rfl⟩
  ·have h := cond_ff c7 h
   refine tr_skip ?_
   refine tr_seq ?_
   refine tr_seq ?_
   refine tr_region ?_
   refine tr1 rfl (s_field_bp (lt_of rfl) rfl fld_25_2) ?_
   refine tr1 rfl (s_load_bp (lt_of rfl) rfl (i := 0) rfl rfl one_23) ?_
   refine tr1 rfl (s_lenm (lt_of rfl) rfl sl_23.of) ?_
   refine tr1 rfl (s_arith (lt_of rfl) rfl rfl rfl) ?_
   refine tr1 rfl (s_move (v := .d (.lit (.int .i64 0))) (lt_of rfl) rfl rfl) ?_
   refine tr_nil ?_
   refine tr_blk ?_
   refine tr_loopk [1, 2, 23] (fun (s8 : Int) => [(24, .d (.lit (.int .i64 s8)))]) (fun (s8 : Int) => [.box b1 0 (encApiProgram p_0)]) (fun (k : Nat) (s8 : Int) => play_repair_L0 old_1 (w64 ((p_0.Jobs.length : Int) + 1)) p_0 k s8) (fun _ => rfl) (0) h (ent_pick [0] rfl rfl (le_upd rfl (le_keep ⟨rfl, rfl, rfl, trivial⟩))) ?_
   rintro k9 t24_0_8 h
   simp only [play_repair_L0] at h
   refine tr_seq ?_
   refine tr_region ?_
   refine tr1 rfl (s_cmp (lt_of rfl) rfl rfl rfl) ?_
   refine tr_nil ?_
   refine tr_seq ?_
   refine tr_if rfl (fun c10 => ?_) (fun c10 => ?_)
   ·have h := cond_tt c10 h
    refine tr_skip ?_
    refine tr_seq ?_
    refine tr_blk ?_
    refine tr_seq ?_
    refine tr_region ?_
    refine tr1 rfl (s_move (v := .d (.lit (.int .i64 t24_0_8))) (lt_of rfl) rfl rfl) ?_
    refine tr1 rfl (s_assign (v := .d (.lit (.int .i64 t24_0_8))) (lt_of rfl) rfl rfl) ?_
    refine tr_nil ?_
    refine tr_seq ?_
    obtain ⟨x12, h13, h⟩ := bind_some h
    obtain ⟨r14, h15, h⟩ := bind_some h
    refine tr_drawxk mix 13 [1, 2, 8, 23, 24] (fun X11 => [(9, .d (.sl 3 (r14.1.map encApiSeat))), (38, .d (.lit (.bool r14.2)))]) (fun X11 => [.box b1 0 (encApiProgram p_0)]) ?_ ?_
    ·refine ⟨0, fun X11 => [(28, 0, .agg (encApiProgram p_0)), (29, 1, .bp b1 0 0), (30, 2, .d (.sl 1 (p_0.Days.map encSl_ApiSpan))), (31, 3, .d (.lit (.int .i64 ((p_0.Days.length : Int))))), (32, 4, .fl true 3 (([] : List ApiSeat).map encApiSeat)), (33, 5, .d (.sl 3 (old_1.map encApiSeat))), (34, 6, .d (.sn 3 (x12.map encApiSeat))), (35, 7, .d (.lit (.int .i64 t24_0_8))), (36, 8, .tup [.d (.sl 3 (r14.1.map encApiSeat)), .d (.lit (.bool r14.2))]), (27, 9, .tup [.d (.sl 3 (r14.1.map encApiSeat)), .d (.lit (.bool r14.2))]), (37, 10, .d (.sl 3 (r14.1.map encApiSeat))), (38, 11, .d (.lit (.bool r14.2))), (9, 12, .d (.sl 3 (r14.1.map encApiSeat)))], fun X11 => [([], .box b1 0 (encApiProgram p_0))], ?_, ?_⟩
     · exact ⟨by kernel_rfl, by kernel_rfl, by kernel_rfl, fun _ => by kernel_rfl, fun _ => by kernel_rfl, fun _ => by kernel_rfl, fun _ => rfl, [([], []), ([], []), ([1], []), ([2], []), ([], [6]), ([], [6]), ([4, 5], []), ([], []), ([0, 3, 6, 7], []), ([6, 8], []), ([6, 9], []), ([6, 9], []), ([6, 10], [])], by kernel_rfl, ⟨fun X11 S hw hi hS => x_pure (X := X11) rfl (hw X11) rfl (g_op rfl (s_loada_bp (lt_of rfl) (ov_ev hS rfl) (i := 0) (og hS rfl rfl) agg_25 (es := (encApiProgram p_0)) rfl rfl)),
      fun X11 S hw hi hS => x_pure (X := X11) rfl (hw X11) rfl (g_op rfl (s_field_bp (lt_of rfl) (ov_ev hS rfl) fld_25_0)),
      fun X11 S hw hi hS => x_pure (X := X11) rfl (hw X11) rfl (g_op rfl (s_load_bp (lt_of rfl) (ov_ev hS rfl) (i := 0) (og hS rfl rfl) rfl one_22)),
      fun X11 S hw hi hS => x_pure (X := X11) rfl (hw X11) rfl (g_op rfl (s_lenm (lt_of rfl) (ov_ev hS rfl) sl_22.of)),
      fun X11 S hw hi hS => x_pure (X := X11) rfl (hw X11) rfl (g_op rfl (s_lit_fl (lt_of rfl) sl_26 rfl pan (rows := (([] : List ApiSeat)).map encApiSeat) rfl (map_len (f := encApiSeat) fun _ => rfl) rfl (by decide))),
      fun X11 S hw hi hS => x_pure (X := X11) rfl (hw X11) rfl (g_op rfl (s_move (v := .d (.sl 3 (old_1.map encApiSeat))) (lt_of rfl) (ov_ev hS rfl) rfl)),
      fun X11 S hw hi hS => x_pure (X := X11) rfl (hw X11) rfl (g_op rfl (s_appendf (nn := true) (f := encApiSeat) (xs := ([] : List ApiSeat)) (ys := old_1) (lt_of rfl) sl_26 (ov_ev hS rfl) (ov_ev hS rfl) (fun _ => rfl) h13 rfl)),
      fun X11 S hw hi hS => x_pure (X := X11) rfl (hw X11) rfl (g_op rfl (s_move (v := .d (.lit (.int .i64 t24_0_8))) (lt_of rfl) (ov_ev hS rfl) rfl)),
      fun X11 S hw hi hS => x_pure (X := X11) rfl (hw X11) rfl (g_op rfl (s_callf (lt_of rfl) (.func _ _ Try.call88) (ev2 (ov_ev hS rfl) (ev2 (ov_ev hS rfl) (ev2 (ov_ev hS rfl) (ev2 (ov_ev hS rfl) evn)))) rfl (play_order_c _ _ _ _ h15))),
      fun X11 S hw hi hS => x_pure (X := X11) rfl (hw X11) rfl (g_op rfl (s_move (v := .tup [.d (.sl 3 (r14.1.map encApiSeat)), .d (.lit (.bool r14.2))]) (lt_of rfl) (ov_ev hS rfl) rfl)),
      fun X11 S hw hi hS => x_pure (X := X11) rfl (hw X11) rfl (g_op rfl (s_extract (lt_of rfl) (ov_ev hS rfl) rfl)),
      fun X11 S hw hi hS => x_pure (X := X11) rfl (hw X11) rfl (g_op rfl (s_extract (lt_of rfl) (ov_ev hS rfl) rfl)),
      fun X11 S hw hi hS => x_pure (X := X11) rfl (hw X11) rfl (g_op rfl (s_assign (v := .d (.sl 3 (r14.1.map encApiSeat))) (lt_of rfl) (ov_ev hS rfl) rfl)), trivial⟩⟩
     · exact fun X11 => ent_le (le_upd rfl (le_upd rfl (le_keep ⟨rfl, rfl, rfl, rfl, rfl, trivial⟩)))
    ·intro X11
     refine tr1 rfl (s_assign (v := .d (.lit (.bool r14.2))) (lt_of rfl) rfl rfl) ?_
     refine tr_nil ?_
     refine tr_seq ?_
     refine tr_region ?_
     refine tr1 rfl (s_move (v := .d (.lit (.bool r14.2))) (lt_of rfl) rfl rfl) ?_
     refine tr_nil ?_
     refine tr_if rfl (fun c16 => ?_) (fun c16 => ?_)
     ·have h := cond_tt c16 h
      refine tr_seq ?_
      refine tr_region ?_
      refine tr1 rfl (s_move (v := .d (.lit (.int .i64 t24_0_8))) (lt_of rfl) rfl rfl) ?_
      refine tr1 rfl (s_move (v := .d (.sl 3 (r14.1.map encApiSeat))) (lt_of rfl) rfl rfl) ?_
      refine tr1 rfl (s_assign (v := .d (.lit (.int .i64 t24_0_8))) (lt_of rfl) rfl rfl) ?_
      refine tr1 rfl (s_assign (v := .d (.sl 3 (r14.1.map encApiSeat))) (lt_of rfl) rfl rfl) ?_
      refine tr1 rfl (s_assign (v := .d (.lit (.int .i64 0))) (lt_of rfl) rfl rfl) ?_
      refine tr_nil ?_
      have h := Option.some.inj h
      subst h
      refine tr_ent (ent_free (ble_keep (l := [4, 5, 6]) ⟨rfl, rfl, rfl, trivial⟩)) ?_
      exact tr_ret ⟨rfl, _, .three _ _ _, rfl, rfl⟩
     ·have h := cond_ff c16 h
      refine tr_skipb ?_
      refine tr_region ?_
      refine tr1 rfl (s_arith (lt_of rfl) rfl rfl rfl) ?_
      refine tr1 rfl (s_move (v := .d (.lit (.int .i64 ((w64 (t24_0_8 + 1)))))) (lt_of rfl) rfl rfl) ?_
      refine tr_nil ?_
      exact ⟨(w64 (t24_0_8 + 1)), h, ent_pick [0] rfl rfl (le_upd rfl (le_keep ⟨rfl, rfl, rfl, trivial⟩))⟩
   ·have h := cond_ff c10 h
    refine tr_exit ?_
    refine .inl ⟨rfl, ?_⟩
    simp only [play_repair_K0] at h
    refine tr_seq ?_
    refine tr_region ?_
    refine tr1 rfl (s_assign (v := .d (.lit (.int .i64 0))) (lt_of rfl) rfl rfl) ?_
    refine tr1 rfl (s_nil 3 (lt_of rfl)) ?_
    refine tr1 rfl (s_assign (v := .d (.lit (.int .i64 3))) (lt_of rfl) rfl rfl) ?_
    refine tr_nil ?_
    have h := Option.some.inj h
    subst h
    refine tr_ent (ent_free (ble_keep (l := [4, 5, 6]) ⟨rfl, rfl, rfl, trivial⟩)) ?_
    exact tr_ret ⟨rfl, _, .three _ _ _, rfl, rfl⟩

theorem play_Fewest_c (p_0 : ApiProgram) (old_1 : List ApiSeat) {r : Int × Int} (h : play_Fewest p_0 old_1 = some r) : Fn Try.prog 32 [.agg (encApiProgram p_0), .d (.sl 3 (old_1.map encApiSeat))] (.tup [.d (.lit (.int .i64 r.1)), .d (.lit (.int .i64 r.2))]) := by
 unfold play_Fewest at h
 refine Fn.of_tr Try.func32 rfl (rs := [.tmp 4, .tmp 5]) Try.results32 Try.ntmps32 (Nat.le_of_ble_eq_true rfl) ?_
 refine tr_seq ?_
 refine tr_region ?_
 refine tr_op rfl (s_box (v := .agg (encApiProgram p_0)) (lt_of rfl) rfl rfl rfl) ?_
 rintro _ ⟨b1, rfl⟩
 refine tr1 rfl (s_assign (v := .d (.lit (.int .i64 0))) (lt_of rfl) rfl rfl) ?_
 refine tr1 rfl (s_assign (v := .d (.lit (.int .i64 0))) (lt_of rfl) rfl rfl) ?_
 refine tr_nil ?_
 refine tr_seq ?_
 refine tr_region ?_
 refine tr1 rfl (s_loada_bp (lt_of rfl) rfl (i := 0) rfl agg_25 (es := (encApiProgram p_0)) rfl rfl) ?_
 refine tr1 rfl (s_move (v := .d (.sl 3 (old_1.map encApiSeat))) (lt_of rfl) rfl rfl) ?_
 obtain ⟨r2, h3, h⟩ := bind_some h
 refine tr1 rfl (s_callf (lt_of rfl) (.func _ _ Try.call68) rfl rfl (play_repair_c _ _ h3)) ?_
 refine tr1 rfl (s_move (v := .tup [.d (.lit (.int .i64 r2.1)), .d (.sl 3 (r2.2.1.map encApiSeat)), .d (.lit (.int .i64 r2.2.2))]) (lt_of rfl) rfl rfl) ?_
 refine tr1 rfl (s_extract (lt_of rfl) rfl rfl) ?_
 refine tr1 rfl (s_extract (lt_of rfl) rfl rfl) ?_
 refine tr1 rfl (s_extract (lt_of rfl) rfl rfl) ?_
 refine tr1 rfl (s_assign (v := .d (.lit (.int .i64 r2.1))) (lt_of rfl) rfl rfl) ?_
 refine tr1 rfl (s_assign (v := .d (.sl 3 (r2.2.1.map encApiSeat))) (lt_of rfl) rfl rfl) ?_
 refine tr1 rfl (s_assign (v := .d (.lit (.int .i64 r2.2.2))) (lt_of rfl) rfl rfl) ?_
 refine tr_nil ?_
 refine tr_seq ?_
 refine tr_region ?_
 refine tr1 rfl (s_move (v := .d (.lit (.int .i64 r2.1))) (lt_of rfl) rfl rfl) ?_
 refine tr1 rfl (s_move (v := .d (.lit (.int .i64 r2.2.2))) (lt_of rfl) rfl rfl) ?_
 refine tr1 rfl (s_assign (v := .d (.lit (.int .i64 r2.1))) (lt_of rfl) rfl rfl) ?_
 refine tr1 rfl (s_assign (v := .d (.lit (.int .i64 r2.2.2))) (lt_of rfl) rfl rfl) ?_
 refine tr_nil ?_
 have h := Option.some.inj h
 subst h
 refine tr_ent (ent_free (ble_keep (l := [4, 5]) ⟨rfl, rfl, trivial⟩)) ?_
 exact tr_ret ⟨rfl, _, .two _ _, rfl, rfl⟩

theorem deuceref08_moved_c (order_0 : List ApiSeat) (old_1 : List ApiSeat) {r : Int} (h : deuceref08_moved order_0 old_1 = some r) : Fn Try.prog 69 [.d (.sl 3 (order_0.map encApiSeat)), .d (.sl 3 (old_1.map encApiSeat))] (.d (.lit (.int .i64 r))) := by
 unfold deuceref08_moved at h
 refine Fn.of_tr Try.func69 rfl (rs := [.tmp 4]) Try.results69 Try.ntmps69 (Nat.le_of_ble_eq_true rfl) ?_
 refine tr_seq ?_
 refine tr_region ?_
 refine tr1 rfl (s_assign (v := .d (.lit (.int .i64 0))) (lt_of rfl) rfl rfl) ?_
 refine tr_nil ?_
 refine tr_seq ?_
 refine tr_region ?_
 refine tr1 rfl (s_assign (v := .d (.lit (.int .i64 0))) (lt_of rfl) rfl rfl) ?_
 refine tr_nil ?_
 refine tr_seq ?_
 refine tr_seq ?_
 refine tr_region ?_
 refine tr1 rfl (s_assign (v := .d (.lit (.int .i64 0))) (lt_of rfl) rfl rfl) ?_
 refine tr_nil ?_
 refine tr_blk ?_
 refine tr_loopk [0, 1] (fun (s1 : Int × Int) => [(5, .d (.lit (.int .i64 s1.1))), (6, .d (.lit (.int .i64 s1.2)))]) (fun (s1 : Int × Int) => []) (fun (k : Nat) (s1 : Int × Int) => deuceref08_moved_L0 order_0 old_1 k s1.1 s1.2) (fun _ => rfl) (0, 0) h (ent_pick [] rfl rfl (le_upd rfl (le_upd rfl (le_keep ⟨rfl, rfl, trivial⟩)))) ?_
 rintro k2 ⟨n_0_1, i_0_1⟩ h
 simp only [deuceref08_moved_L0] at h
 refine tr_seq ?_
 refine tr_seq ?_
 refine tr_region ?_
 refine tr1 rfl (s_move (v := .d (.lit (.int .i64 i_0_1))) (lt_of rfl) rfl rfl) ?_
 refine tr1 rfl (s_move (v := .d (.sl 3 (order_0.map encApiSeat))) (lt_of rfl) rfl rfl) ?_
 refine tr1 rfl (s_lenm (lt_of rfl) rfl sl_26.of) ?_
 refine tr1 rfl (s_cmp (lt_of rfl) rfl rfl rfl) ?_
 refine tr_nil ?_
 refine tr_if rfl (fun c3 => ?_) (fun c3 => ?_)
 ·have h := cond_tt c3 h
  refine tr_skip ?_
  refine tr_seq ?_
  refine tr_blk ?_
  refine tr_seq ?_
  refine tr_region ?_
  refine tr1 rfl (s_assign (v := .d (.lit (.int .i64 0))) (lt_of rfl) rfl rfl) ?_
  refine tr_nil ?_
  refine tr_blkb ?_
  refine tr_loopk [0, 1, 6] (fun (s4 : Int × Int) => [(5, .d (.lit (.int .i64 s4.1))), (7, .d (.lit (.int .i64 s4.2)))]) (fun (s4 : Int × Int) => []) (fun (k : Nat) (s4 : Int × Int) => deuceref08_moved_L2 (deuceref08_moved_L0 order_0 old_1 k2) order_0 old_1 i_0_1 k s4.1 s4.2) (fun _ => rfl) (n_0_1, 0) h (ent_pick [] rfl rfl (le_upd rfl (le_upd rfl (le_keep ⟨rfl, rfl, rfl, trivial⟩)))) ?_
  rintro k5 ⟨n_2_4, k_2_4⟩ h
  simp only [deuceref08_moved_L2] at h
  refine tr_seq ?_
  refine tr_seq ?_
  refine tr_region ?_
  refine tr1 rfl (s_move (v := .d (.lit (.int .i64 k_2_4))) (lt_of rfl) rfl rfl) ?_
  refine tr1 rfl (s_move (v := .d (.sl 3 (old_1.map encApiSeat))) (lt_of rfl) rfl rfl) ?_
  refine tr1 rfl (s_lenm (lt_of rfl) rfl sl_26.of) ?_
  refine tr1 rfl (s_cmp (lt_of rfl) rfl rfl rfl) ?_
  refine tr_nil ?_
  refine tr_if rfl (fun c6 => ?_) (fun c6 => ?_)
  ·have h := cond_tt c6 h
   refine tr_skip ?_
   refine tr_seq ?_
   refine tr_blk ?_
   refine tr_seq ?_
   obtain ⟨x7, h8, h⟩ := bind_some h
   obtain ⟨x9, h10, h⟩ := bind_some h
   obtain ⟨b11, h12, h⟩ := bind_some h
   refine tr_drawk mix 37 [0, 1, 5, 6, 7] [(56, .d (.lit (.bool b11)))] ?_ ?_
   ·refine bool_cases (decide (x7.Job = x9.Job)) (fun c13 => ?_) (fun c13 => ?_)
    ·have h12 := cond_tt c13 h12
     obtain ⟨x14, h15, h12⟩ := bind_some h12
     obtain ⟨x16, h17, h12⟩ := bind_some h12
     obtain ⟨b18, h19, h12⟩ := bind_some h12
     refine bool_cases (!decide (x14.Day = x16.Day)) (fun c20 => ?_) (fun c20 => ?_)
     ·have h19 := cond_tt c20 h19
      have h19 := Option.some.inj h19
      subst h19
      have h12 := Option.some.inj h12
      subst h12
      refine ⟨[(20, 0, .d (.sl 3 (old_1.map encApiSeat))), (21, 1, .d (.lit (.int .i64 k_2_4))), (22, 2, .cp [.lit (.int .i64 x7.Job), .lit (.int .i64 x7.Day), .lit (.int .i64 x7.Court)]), (23, 3, .cp [.lit (.int .i64 x7.Job)]), (24, 4, .d (.lit (.int .i64 x7.Job))), (25, 5, .d (.sl 3 (order_0.map encApiSeat))), (26, 6, .d (.lit (.int .i64 i_0_1))), (27, 7, .cp [.lit (.int .i64 x9.Job), .lit (.int .i64 x9.Day), .lit (.int .i64 x9.Court)]), (28, 8, .cp [.lit (.int .i64 x9.Job)]), (29, 9, .d (.lit (.int .i64 x9.Job))), (30, 10, .d (.lit (.bool ((decide (x7.Job = x9.Job)))))), (31, 11, .d (.lit (.bool ((decide (x7.Job = x9.Job)))))), (32, 12, .d (.sl 3 (old_1.map encApiSeat))), (33, 13, .d (.lit (.int .i64 k_2_4))), (34, 14, .cp [.lit (.int .i64 x14.Job), .lit (.int .i64 x14.Day), .lit (.int .i64 x14.Court)]), (35, 15, .cp [.lit (.int .i64 x14.Day)]), (36, 16, .d (.lit (.int .i64 x14.Day))), (37, 17, .d (.sl 3 (order_0.map encApiSeat))), (38, 18, .d (.lit (.int .i64 i_0_1))), (39, 19, .cp [.lit (.int .i64 x16.Job), .lit (.int .i64 x16.Day), .lit (.int .i64 x16.Court)]), (40, 20, .cp [.lit (.int .i64 x16.Day)]), (41, 21, .d (.lit (.int .i64 x16.Day))), (42, 22, .d (.lit (.bool ((!decide (x14.Day = x16.Day)))))), (43, 23, .d (.lit (.bool ((!decide (x14.Day = x16.Day)))))), (44, 24, .tup []), (45, 25, .tup []), (46, 26, .tup []), (47, 27, .tup []), (48, 28, .tup []), (49, 29, .tup []), (50, 30, .tup []), (51, 31, .tup []), (52, 32, .tup []), (53, 33, .tup []), (54, 34, .tup []), (55, 35, .d (.lit (.bool true))), (56, 36, .d (.lit (.bool (true))))], ?_, ?_⟩
      · exact ⟨by kernel_rfl, by kernel_rfl, by kernel_rfl, by kernel_rfl, by kernel_rfl, [([], []), ([], []), ([0, 1], []), ([2], []), ([3], []), ([], []), ([], []), ([5, 6], []), ([7], []), ([8], []), ([4, 9], []), ([10], []), ([11], []), ([11], []), ([11, 12, 13], []), ([11, 14], []), ([11, 15], []), ([11], []), ([11], []), ([11, 17, 18], []), ([11, 19], []), ([11, 20], []), ([11, 16, 21], []), ([11, 22], []), ([23], []), ([23], []), ([23, 24, 25], []), ([23, 26], []), ([23, 27], []), ([23], []), ([23], []), ([23, 29, 30], []), ([23, 31], []), ([23, 32], []), ([23, 28, 33], []), ([11, 23, 34], []), ([11, 35], [])], by kernel_rfl, ⟨fun S hS => g_fin rfl (g_op rfl (s_move (v := .d (.sl 3 (old_1.map encApiSeat))) (lt_of rfl) (ov_ev hS rfl) rfl)),
      fun S hS => g_fin rfl (g_op rfl (s_move (v := .d (.lit (.int .i64 k_2_4))) (lt_of rfl) (ov_ev hS rfl) rfl)),
      fun S hS => g_fin rfl (g_op rfl (s_index_sl (lt_of rfl) (ov_ev hS rfl) (ov_ev hS rfl) sl_26.of (idx_map encApiSeat h8))),
      fun S hS => g_fin rfl (g_op rfl (s_field_cp (lt_of rfl) (ov_ev hS rfl) fld_45_0 (es := [.lit (.int .i64 x7.Job)]) rfl)),
      fun S hS => g_fin rfl (g_op rfl (s_load_cp (lt_of rfl) (ov_ev hS rfl) one_3)),
      fun S hS => g_fin rfl (g_op rfl (s_move (v := .d (.sl 3 (order_0.map encApiSeat))) (lt_of rfl) (ov_ev hS rfl) rfl)),
      fun S hS => g_fin rfl (g_op rfl (s_move (v := .d (.lit (.int .i64 i_0_1))) (lt_of rfl) (ov_ev hS rfl) rfl)),
      fun S hS => g_fin rfl (g_op rfl (s_index_sl (lt_of rfl) (ov_ev hS rfl) (ov_ev hS rfl) sl_26.of (idx_map encApiSeat h10))),
      fun S hS => g_fin rfl (g_op rfl (s_field_cp (lt_of rfl) (ov_ev hS rfl) fld_45_0 (es := [.lit (.int .i64 x9.Job)]) rfl)),
      fun S hS => g_fin rfl (g_op rfl (s_load_cp (lt_of rfl) (ov_ev hS rfl) one_3)),
      fun S hS => g_fin rfl (g_op rfl (s_cmp (lt_of rfl) (ov_ev hS rfl) (ov_ev hS rfl) rfl)),
      fun S hS => g_fin rfl (g_op rfl (s_move (v := .d (.lit (.bool ((decide (x7.Job = x9.Job)))))) (lt_of rfl) (ov_ev hS rfl) rfl)),
      fun S hS => g_fin rfl (g_take rfl rfl (lt_of rfl) (ov_en hS rfl) c13 (s_move (v := .d (.sl 3 (old_1.map encApiSeat))) (lt_of rfl) (ov_ev hS rfl) rfl)),
      fun S hS => g_fin rfl (g_take rfl rfl (lt_of rfl) (ov_en hS rfl) c13 (s_move (v := .d (.lit (.int .i64 k_2_4))) (lt_of rfl) (ov_ev hS rfl) rfl)),
      fun S hS => g_fin rfl (g_take rfl rfl (lt_of rfl) (ov_en hS rfl) c13 (s_index_sl (lt_of rfl) (ov_ev hS rfl) (ov_ev hS rfl) sl_26.of (idx_map encApiSeat h15))),
      fun S hS => g_fin rfl (g_take rfl rfl (lt_of rfl) (ov_en hS rfl) c13 (s_field_cp (lt_of rfl) (ov_ev hS rfl) fld_45_1 (es := [.lit (.int .i64 x14.Day)]) rfl)),
      fun S hS => g_fin rfl (g_take rfl rfl (lt_of rfl) (ov_en hS rfl) c13 (s_load_cp (lt_of rfl) (ov_ev hS rfl) one_3)),
      fun S hS => g_fin rfl (g_take rfl rfl (lt_of rfl) (ov_en hS rfl) c13 (s_move (v := .d (.sl 3 (order_0.map encApiSeat))) (lt_of rfl) (ov_ev hS rfl) rfl)),
      fun S hS => g_fin rfl (g_take rfl rfl (lt_of rfl) (ov_en hS rfl) c13 (s_move (v := .d (.lit (.int .i64 i_0_1))) (lt_of rfl) (ov_ev hS rfl) rfl)),
      fun S hS => g_fin rfl (g_take rfl rfl (lt_of rfl) (ov_en hS rfl) c13 (s_index_sl (lt_of rfl) (ov_ev hS rfl) (ov_ev hS rfl) sl_26.of (idx_map encApiSeat h17))),
      fun S hS => g_fin rfl (g_take rfl rfl (lt_of rfl) (ov_en hS rfl) c13 (s_field_cp (lt_of rfl) (ov_ev hS rfl) fld_45_1 (es := [.lit (.int .i64 x16.Day)]) rfl)),
      fun S hS => g_fin rfl (g_take rfl rfl (lt_of rfl) (ov_en hS rfl) c13 (s_load_cp (lt_of rfl) (ov_ev hS rfl) one_3)),
      fun S hS => g_fin rfl (g_take rfl rfl (lt_of rfl) (ov_en hS rfl) c13 (s_cmp (lt_of rfl) (ov_ev hS rfl) (ov_ev hS rfl) rfl)),
      fun S hS => g_fin rfl (g_take rfl rfl (lt_of rfl) (ov_en hS rfl) c13 (s_move (v := .d (.lit (.bool ((!decide (x14.Day = x16.Day)))))) (lt_of rfl) (ov_ev hS rfl) rfl)),
      fun S hS => g_fin rfl (g_pass rfl rfl (lt_of rfl) rfl (lt_of rfl) (ov_en hS rfl) c20),
      fun S hS => g_fin rfl (g_pass rfl rfl (lt_of rfl) rfl (lt_of rfl) (ov_en hS rfl) c20),
      fun S hS => g_fin rfl (g_pass rfl rfl (lt_of rfl) rfl (lt_of rfl) (ov_en hS rfl) c20),
      fun S hS => g_fin rfl (g_pass rfl rfl (lt_of rfl) rfl (lt_of rfl) (ov_en hS rfl) c20),
      fun S hS => g_fin rfl (g_pass rfl rfl (lt_of rfl) rfl (lt_of rfl) (ov_en hS rfl) c20),
      fun S hS => g_fin rfl (g_pass rfl rfl (lt_of rfl) rfl (lt_of rfl) (ov_en hS rfl) c20),
      fun S hS => g_fin rfl (g_pass rfl rfl (lt_of rfl) rfl (lt_of rfl) (ov_en hS rfl) c20),
      fun S hS => g_fin rfl (g_pass rfl rfl (lt_of rfl) rfl (lt_of rfl) (ov_en hS rfl) c20),
      fun S hS => g_fin rfl (g_pass rfl rfl (lt_of rfl) rfl (lt_of rfl) (ov_en hS rfl) c20),
      fun S hS => g_fin rfl (g_pass rfl rfl (lt_of rfl) rfl (lt_of rfl) (ov_en hS rfl) c20),
      fun S hS => g_fin rfl (g_pass rfl rfl (lt_of rfl) rfl (lt_of rfl) (ov_en hS rfl) c20),
      fun S hS => g_fin rfl (g_take rfl rfl (lt_of rfl) (ov_en hS rfl) c13 (s_pick_t (v := .d (.lit (.bool true))) (lt_of rfl) (ov_ev hS rfl) c20 rfl rfl)),
      fun S hS => g_fin rfl (g_op rfl (s_pick_t (v := .d (.lit (.bool (true)))) (lt_of rfl) (ov_ev hS rfl) c13 (ov_ev hS rfl) rfl)), trivial⟩⟩
      · exact ent_le (le_upd rfl (le_keep ⟨rfl, rfl, rfl, rfl, rfl, trivial⟩))
     ·have h19 := cond_ff c20 h19
      obtain ⟨x21, h22, h19⟩ := bind_some h19
      obtain ⟨x23, h24, h19⟩ := bind_some h19
      have h19 := Option.some.inj h19
      subst h19
      have h12 := Option.some.inj h12
      subst h12
      refine ⟨[(20, 0, .d (.sl 3 (old_1.map encApiSeat))), (21, 1, .d (.lit (.int .i64 k_2_4))), (22, 2, .cp [.lit (.int .i64 x7.Job), .lit (.int .i64 x7.Day), .lit (.int .i64 x7.Court)]), (23, 3, .cp [.lit (.int .i64 x7.Job)]), (24, 4, .d (.lit (.int .i64 x7.Job))), (25, 5, .d (.sl 3 (order_0.map encApiSeat))), (26, 6, .d (.lit (.int .i64 i_0_1))), (27, 7, .cp [.lit (.int .i64 x9.Job), .lit (.int .i64 x9.Day), .lit (.int .i64 x9.Court)]), (28, 8, .cp [.lit (.int .i64 x9.Job)]), (29, 9, .d (.lit (.int .i64 x9.Job))), (30, 10, .d (.lit (.bool ((decide (x7.Job = x9.Job)))))), (31, 11, .d (.lit (.bool ((decide (x7.Job = x9.Job)))))), (32, 12, .d (.sl 3 (old_1.map encApiSeat))), (33, 13, .d (.lit (.int .i64 k_2_4))), (34, 14, .cp [.lit (.int .i64 x14.Job), .lit (.int .i64 x14.Day), .lit (.int .i64 x14.Court)]), (35, 15, .cp [.lit (.int .i64 x14.Day)]), (36, 16, .d (.lit (.int .i64 x14.Day))), (37, 17, .d (.sl 3 (order_0.map encApiSeat))), (38, 18, .d (.lit (.int .i64 i_0_1))), (39, 19, .cp [.lit (.int .i64 x16.Job), .lit (.int .i64 x16.Day), .lit (.int .i64 x16.Court)]), (40, 20, .cp [.lit (.int .i64 x16.Day)]), (41, 21, .d (.lit (.int .i64 x16.Day))), (42, 22, .d (.lit (.bool ((!decide (x14.Day = x16.Day)))))), (43, 23, .d (.lit (.bool ((!decide (x14.Day = x16.Day)))))), (44, 24, .d (.sl 3 (old_1.map encApiSeat))), (45, 25, .d (.lit (.int .i64 k_2_4))), (46, 26, .cp [.lit (.int .i64 x21.Job), .lit (.int .i64 x21.Day), .lit (.int .i64 x21.Court)]), (47, 27, .cp [.lit (.int .i64 x21.Court)]), (48, 28, .d (.lit (.int .i64 x21.Court))), (49, 29, .d (.sl 3 (order_0.map encApiSeat))), (50, 30, .d (.lit (.int .i64 i_0_1))), (51, 31, .cp [.lit (.int .i64 x23.Job), .lit (.int .i64 x23.Day), .lit (.int .i64 x23.Court)]), (52, 32, .cp [.lit (.int .i64 x23.Court)]), (53, 33, .d (.lit (.int .i64 x23.Court))), (54, 34, .d (.lit (.bool ((!decide (x21.Court = x23.Court)))))), (55, 35, .d (.lit (.bool ((!decide (x21.Court = x23.Court)))))), (56, 36, .d (.lit (.bool (!decide (x21.Court = x23.Court)))))], ?_, ?_⟩
      · exact ⟨by kernel_rfl, by kernel_rfl, by kernel_rfl, by kernel_rfl, by kernel_rfl, [([], []), ([], []), ([0, 1], []), ([2], []), ([3], []), ([], []), ([], []), ([5, 6], []), ([7], []), ([8], []), ([4, 9], []), ([10], []), ([11], []), ([11], []), ([11, 12, 13], []), ([11, 14], []), ([11, 15], []), ([11], []), ([11], []), ([11, 17, 18], []), ([11, 19], []), ([11, 20], []), ([11, 16, 21], []), ([11, 22], []), ([23], []), ([23], []), ([23, 24, 25], []), ([23, 26], []), ([23, 27], []), ([23], []), ([23], []), ([23, 29, 30], []), ([23, 31], []), ([23, 32], []), ([23, 28, 33], []), ([11, 23, 34], []), ([11, 35], [])], by kernel_rfl, ⟨fun S hS => g_fin rfl (g_op rfl (s_move (v := .d (.sl 3 (old_1.map encApiSeat))) (lt_of rfl) (ov_ev hS rfl) rfl)),
      fun S hS => g_fin rfl (g_op rfl (s_move (v := .d (.lit (.int .i64 k_2_4))) (lt_of rfl) (ov_ev hS rfl) rfl)),
      fun S hS => g_fin rfl (g_op rfl (s_index_sl (lt_of rfl) (ov_ev hS rfl) (ov_ev hS rfl) sl_26.of (idx_map encApiSeat h8))),
      fun S hS => g_fin rfl (g_op rfl (s_field_cp (lt_of rfl) (ov_ev hS rfl) fld_45_0 (es := [.lit (.int .i64 x7.Job)]) rfl)),
      fun S hS => g_fin rfl (g_op rfl (s_load_cp (lt_of rfl) (ov_ev hS rfl) one_3)),
      fun S hS => g_fin rfl (g_op rfl (s_move (v := .d (.sl 3 (order_0.map encApiSeat))) (lt_of rfl) (ov_ev hS rfl) rfl)),
      fun S hS => g_fin rfl (g_op rfl (s_move (v := .d (.lit (.int .i64 i_0_1))) (lt_of rfl) (ov_ev hS rfl) rfl)),
      fun S hS => g_fin rfl (g_op rfl (s_index_sl (lt_of rfl) (ov_ev hS rfl) (ov_ev hS rfl) sl_26.of (idx_map encApiSeat h10))),
      fun S hS => g_fin rfl (g_op rfl (s_field_cp (lt_of rfl) (ov_ev hS rfl) fld_45_0 (es := [.lit (.int .i64 x9.Job)]) rfl)),
      fun S hS => g_fin rfl (g_op rfl (s_load_cp (lt_of rfl) (ov_ev hS rfl) one_3)),
      fun S hS => g_fin rfl (g_op rfl (s_cmp (lt_of rfl) (ov_ev hS rfl) (ov_ev hS rfl) rfl)),
      fun S hS => g_fin rfl (g_op rfl (s_move (v := .d (.lit (.bool ((decide (x7.Job = x9.Job)))))) (lt_of rfl) (ov_ev hS rfl) rfl)),
      fun S hS => g_fin rfl (g_take rfl rfl (lt_of rfl) (ov_en hS rfl) c13 (s_move (v := .d (.sl 3 (old_1.map encApiSeat))) (lt_of rfl) (ov_ev hS rfl) rfl)),
      fun S hS => g_fin rfl (g_take rfl rfl (lt_of rfl) (ov_en hS rfl) c13 (s_move (v := .d (.lit (.int .i64 k_2_4))) (lt_of rfl) (ov_ev hS rfl) rfl)),
      fun S hS => g_fin rfl (g_take rfl rfl (lt_of rfl) (ov_en hS rfl) c13 (s_index_sl (lt_of rfl) (ov_ev hS rfl) (ov_ev hS rfl) sl_26.of (idx_map encApiSeat h15))),
      fun S hS => g_fin rfl (g_take rfl rfl (lt_of rfl) (ov_en hS rfl) c13 (s_field_cp (lt_of rfl) (ov_ev hS rfl) fld_45_1 (es := [.lit (.int .i64 x14.Day)]) rfl)),
      fun S hS => g_fin rfl (g_take rfl rfl (lt_of rfl) (ov_en hS rfl) c13 (s_load_cp (lt_of rfl) (ov_ev hS rfl) one_3)),
      fun S hS => g_fin rfl (g_take rfl rfl (lt_of rfl) (ov_en hS rfl) c13 (s_move (v := .d (.sl 3 (order_0.map encApiSeat))) (lt_of rfl) (ov_ev hS rfl) rfl)),
      fun S hS => g_fin rfl (g_take rfl rfl (lt_of rfl) (ov_en hS rfl) c13 (s_move (v := .d (.lit (.int .i64 i_0_1))) (lt_of rfl) (ov_ev hS rfl) rfl)),
      fun S hS => g_fin rfl (g_take rfl rfl (lt_of rfl) (ov_en hS rfl) c13 (s_index_sl (lt_of rfl) (ov_ev hS rfl) (ov_ev hS rfl) sl_26.of (idx_map encApiSeat h17))),
      fun S hS => g_fin rfl (g_take rfl rfl (lt_of rfl) (ov_en hS rfl) c13 (s_field_cp (lt_of rfl) (ov_ev hS rfl) fld_45_1 (es := [.lit (.int .i64 x16.Day)]) rfl)),
      fun S hS => g_fin rfl (g_take rfl rfl (lt_of rfl) (ov_en hS rfl) c13 (s_load_cp (lt_of rfl) (ov_ev hS rfl) one_3)),
      fun S hS => g_fin rfl (g_take rfl rfl (lt_of rfl) (ov_en hS rfl) c13 (s_cmp (lt_of rfl) (ov_ev hS rfl) (ov_ev hS rfl) rfl)),
      fun S hS => g_fin rfl (g_take rfl rfl (lt_of rfl) (ov_en hS rfl) c13 (s_move (v := .d (.lit (.bool ((!decide (x14.Day = x16.Day)))))) (lt_of rfl) (ov_ev hS rfl) rfl)),
      fun S hS => g_fin rfl (g_take rfl rfl (lt_of rfl) (ov_en hS rfl) c20 (s_move (v := .d (.sl 3 (old_1.map encApiSeat))) (lt_of rfl) (ov_ev hS rfl) rfl)),
      fun S hS => g_fin rfl (g_take rfl rfl (lt_of rfl) (ov_en hS rfl) c20 (s_move (v := .d (.lit (.int .i64 k_2_4))) (lt_of rfl) (ov_ev hS rfl) rfl)),
      fun S hS => g_fin rfl (g_take rfl rfl (lt_of rfl) (ov_en hS rfl) c20 (s_index_sl (lt_of rfl) (ov_ev hS rfl) (ov_ev hS rfl) sl_26.of (idx_map encApiSeat h22))),
      fun S hS => g_fin rfl (g_take rfl rfl (lt_of rfl) (ov_en hS rfl) c20 (s_field_cp (lt_of rfl) (ov_ev hS rfl) fld_45_2 (es := [.lit (.int .i64 x21.Court)]) rfl)),
      fun S hS => g_fin rfl (g_take rfl rfl (lt_of rfl) (ov_en hS rfl) c20 (s_load_cp (lt_of rfl) (ov_ev hS rfl) one_3)),
      fun S hS => g_fin rfl (g_take rfl rfl (lt_of rfl) (ov_en hS rfl) c20 (s_move (v := .d (.sl 3 (order_0.map encApiSeat))) (lt_of rfl) (ov_ev hS rfl) rfl)),
      fun S hS => g_fin rfl (g_take rfl rfl (lt_of rfl) (ov_en hS rfl) c20 (s_move (v := .d (.lit (.int .i64 i_0_1))) (lt_of rfl) (ov_ev hS rfl) rfl)),
      fun S hS => g_fin rfl (g_take rfl rfl (lt_of rfl) (ov_en hS rfl) c20 (s_index_sl (lt_of rfl) (ov_ev hS rfl) (ov_ev hS rfl) sl_26.of (idx_map encApiSeat h24))),
      fun S hS => g_fin rfl (g_take rfl rfl (lt_of rfl) (ov_en hS rfl) c20 (s_field_cp (lt_of rfl) (ov_ev hS rfl) fld_45_2 (es := [.lit (.int .i64 x23.Court)]) rfl)),
      fun S hS => g_fin rfl (g_take rfl rfl (lt_of rfl) (ov_en hS rfl) c20 (s_load_cp (lt_of rfl) (ov_ev hS rfl) one_3)),
      fun S hS => g_fin rfl (g_take rfl rfl (lt_of rfl) (ov_en hS rfl) c20 (s_cmp (lt_of rfl) (ov_ev hS rfl) (ov_ev hS rfl) rfl)),
      fun S hS => g_fin rfl (g_take rfl rfl (lt_of rfl) (ov_en hS rfl) c13 (s_pick_f (v := .d (.lit (.bool ((!decide (x21.Court = x23.Court)))))) (lt_of rfl) (ov_ev hS rfl) c20 (ov_ev hS rfl) rfl)),
      fun S hS => g_fin rfl (g_op rfl (s_pick_t (v := .d (.lit (.bool (!decide (x21.Court = x23.Court))))) (lt_of rfl) (ov_ev hS rfl) c13 (ov_ev hS rfl) rfl)), trivial⟩⟩
      · exact ent_le (le_upd rfl (le_keep ⟨rfl, rfl, rfl, rfl, rfl, trivial⟩))
    ·have h12 := cond_ff c13 h12
     have h12 := Option.some.inj h12
     subst h12
     refine ⟨[(20, 0, .d (.sl 3 (old_1.map encApiSeat))), (21, 1, .d (.lit (.int .i64 k_2_4))), (22, 2, .cp [.lit (.int .i64 x7.Job), .lit (.int .i64 x7.Day), .lit (.int .i64 x7.Court)]), (23, 3, .cp [.lit (.int .i64 x7.Job)]), (24, 4, .d (.lit (.int .i64 x7.Job))), (25, 5, .d (.sl 3 (order_0.map encApiSeat))), (26, 6, .d (.lit (.int .i64 i_0_1))), (27, 7, .cp [.lit (.int .i64 x9.Job), .lit (.int .i64 x9.Day), .lit (.int .i64 x9.Court)]), (28, 8, .cp [.lit (.int .i64 x9.Job)]), (29, 9, .d (.lit (.int .i64 x9.Job))), (30, 10, .d (.lit (.bool ((decide (x7.Job = x9.Job)))))), (31, 11, .d (.lit (.bool ((decide (x7.Job = x9.Job)))))), (32, 12, .tup []), (33, 13, .tup []), (34, 14, .tup []), (35, 15, .tup []), (36, 16, .tup []), (37, 17, .tup []), (38, 18, .tup []), (39, 19, .tup []), (40, 20, .tup []), (41, 21, .tup []), (42, 22, .tup []), (43, 23, .tup []), (44, 24, .tup []), (45, 25, .tup []), (46, 26, .tup []), (47, 27, .tup []), (48, 28, .tup []), (49, 29, .tup []), (50, 30, .tup []), (51, 31, .tup []), (52, 32, .tup []), (53, 33, .tup []), (54, 34, .tup []), (55, 35, .tup []), (56, 36, .d (.lit (.bool false)))], ?_, ?_⟩
     · exact ⟨by kernel_rfl, by kernel_rfl, by kernel_rfl, by kernel_rfl, by kernel_rfl, [([], []), ([], []), ([0, 1], []), ([2], []), ([3], []), ([], []), ([], []), ([5, 6], []), ([7], []), ([8], []), ([4, 9], []), ([10], []), ([11], []), ([11], []), ([11, 12, 13], []), ([11, 14], []), ([11, 15], []), ([11], []), ([11], []), ([11, 17, 18], []), ([11, 19], []), ([11, 20], []), ([11, 16, 21], []), ([11, 22], []), ([23], []), ([23], []), ([23, 24, 25], []), ([23, 26], []), ([23, 27], []), ([23], []), ([23], []), ([23, 29, 30], []), ([23, 31], []), ([23, 32], []), ([23, 28, 33], []), ([11, 23, 34], []), ([11, 35], [])], by kernel_rfl, ⟨fun S hS => g_fin rfl (g_op rfl (s_move (v := .d (.sl 3 (old_1.map encApiSeat))) (lt_of rfl) (ov_ev hS rfl) rfl)),
      fun S hS => g_fin rfl (g_op rfl (s_move (v := .d (.lit (.int .i64 k_2_4))) (lt_of rfl) (ov_ev hS rfl) rfl)),
      fun S hS => g_fin rfl (g_op rfl (s_index_sl (lt_of rfl) (ov_ev hS rfl) (ov_ev hS rfl) sl_26.of (idx_map encApiSeat h8))),
      fun S hS => g_fin rfl (g_op rfl (s_field_cp (lt_of rfl) (ov_ev hS rfl) fld_45_0 (es := [.lit (.int .i64 x7.Job)]) rfl)),
      fun S hS => g_fin rfl (g_op rfl (s_load_cp (lt_of rfl) (ov_ev hS rfl) one_3)),
      fun S hS => g_fin rfl (g_op rfl (s_move (v := .d (.sl 3 (order_0.map encApiSeat))) (lt_of rfl) (ov_ev hS rfl) rfl)),
      fun S hS => g_fin rfl (g_op rfl (s_move (v := .d (.lit (.int .i64 i_0_1))) (lt_of rfl) (ov_ev hS rfl) rfl)),
      fun S hS => g_fin rfl (g_op rfl (s_index_sl (lt_of rfl) (ov_ev hS rfl) (ov_ev hS rfl) sl_26.of (idx_map encApiSeat h10))),
      fun S hS => g_fin rfl (g_op rfl (s_field_cp (lt_of rfl) (ov_ev hS rfl) fld_45_0 (es := [.lit (.int .i64 x9.Job)]) rfl)),
      fun S hS => g_fin rfl (g_op rfl (s_load_cp (lt_of rfl) (ov_ev hS rfl) one_3)),
      fun S hS => g_fin rfl (g_op rfl (s_cmp (lt_of rfl) (ov_ev hS rfl) (ov_ev hS rfl) rfl)),
      fun S hS => g_fin rfl (g_op rfl (s_move (v := .d (.lit (.bool ((decide (x7.Job = x9.Job)))))) (lt_of rfl) (ov_ev hS rfl) rfl)),
      fun S hS => g_fin rfl (g_pass rfl rfl (lt_of rfl) rfl (lt_of rfl) (ov_en hS rfl) c13),
      fun S hS => g_fin rfl (g_pass rfl rfl (lt_of rfl) rfl (lt_of rfl) (ov_en hS rfl) c13),
      fun S hS => g_fin rfl (g_pass rfl rfl (lt_of rfl) rfl (lt_of rfl) (ov_en hS rfl) c13),
      fun S hS => g_fin rfl (g_pass rfl rfl (lt_of rfl) rfl (lt_of rfl) (ov_en hS rfl) c13),
      fun S hS => g_fin rfl (g_pass rfl rfl (lt_of rfl) rfl (lt_of rfl) (ov_en hS rfl) c13),
      fun S hS => g_fin rfl (g_pass rfl rfl (lt_of rfl) rfl (lt_of rfl) (ov_en hS rfl) c13),
      fun S hS => g_fin rfl (g_pass rfl rfl (lt_of rfl) rfl (lt_of rfl) (ov_en hS rfl) c13),
      fun S hS => g_fin rfl (g_pass rfl rfl (lt_of rfl) rfl (lt_of rfl) (ov_en hS rfl) c13),
      fun S hS => g_fin rfl (g_pass rfl rfl (lt_of rfl) rfl (lt_of rfl) (ov_en hS rfl) c13),
      fun S hS => g_fin rfl (g_pass rfl rfl (lt_of rfl) rfl (lt_of rfl) (ov_en hS rfl) c13),
      fun S hS => g_fin rfl (g_pass rfl rfl (lt_of rfl) rfl (lt_of rfl) (ov_en hS rfl) c13),
      fun S hS => g_fin rfl (g_pass rfl rfl (lt_of rfl) rfl (lt_of rfl) (ov_en hS rfl) c13),
      fun S hS => g_fin rfl (g_pass' rfl rfl (lt_of rfl) rfl (lt_of rfl) (ov_en hS rfl)),
      fun S hS => g_fin rfl (g_pass' rfl rfl (lt_of rfl) rfl (lt_of rfl) (ov_en hS rfl)),
      fun S hS => g_fin rfl (g_pass' rfl rfl (lt_of rfl) rfl (lt_of rfl) (ov_en hS rfl)),
      fun S hS => g_fin rfl (g_pass' rfl rfl (lt_of rfl) rfl (lt_of rfl) (ov_en hS rfl)),
      fun S hS => g_fin rfl (g_pass' rfl rfl (lt_of rfl) rfl (lt_of rfl) (ov_en hS rfl)),
      fun S hS => g_fin rfl (g_pass' rfl rfl (lt_of rfl) rfl (lt_of rfl) (ov_en hS rfl)),
      fun S hS => g_fin rfl (g_pass' rfl rfl (lt_of rfl) rfl (lt_of rfl) (ov_en hS rfl)),
      fun S hS => g_fin rfl (g_pass' rfl rfl (lt_of rfl) rfl (lt_of rfl) (ov_en hS rfl)),
      fun S hS => g_fin rfl (g_pass' rfl rfl (lt_of rfl) rfl (lt_of rfl) (ov_en hS rfl)),
      fun S hS => g_fin rfl (g_pass' rfl rfl (lt_of rfl) rfl (lt_of rfl) (ov_en hS rfl)),
      fun S hS => g_fin rfl (g_pass' rfl rfl (lt_of rfl) rfl (lt_of rfl) (ov_en hS rfl)),
      fun S hS => g_fin rfl (g_pass rfl rfl (lt_of rfl) rfl (lt_of rfl) (ov_en hS rfl) c13),
      fun S hS => g_fin rfl (g_op rfl (s_pick_f (v := .d (.lit (.bool false))) (lt_of rfl) (ov_ev hS rfl) c13 rfl rfl)), trivial⟩⟩
     · exact ent_le (le_upd rfl (le_keep ⟨rfl, rfl, rfl, rfl, rfl, trivial⟩))
   ·refine tr_nil ?_
    refine tr_if rfl (fun c25 => ?_) (fun c25 => ?_)
    ·have h := cond_tt c25 h
     refine tr_region ?_
     refine tr1 rfl (s_move (v := .d (.lit (.int .i64 n_2_4))) (lt_of rfl) rfl rfl) ?_
     refine tr1 rfl (s_arith (lt_of rfl) rfl rfl rfl) ?_
     refine tr1 rfl (s_assign (v := .d (.lit (.int .i64 ((w64 (n_2_4 + 1)))))) (lt_of rfl) rfl rfl) ?_
     refine tr_nilb ?_
     refine tr_region ?_
     refine tr1 rfl (s_move (v := .d (.lit (.int .i64 k_2_4))) (lt_of rfl) rfl rfl) ?_
     refine tr1 rfl (s_arith (lt_of rfl) rfl rfl rfl) ?_
     refine tr1 rfl (s_assign (v := .d (.lit (.int .i64 ((w64 (k_2_4 + 1)))))) (lt_of rfl) rfl rfl) ?_
     refine tr_nil ?_
     exact ⟨(w64 (n_2_4 + 1), w64 (k_2_4 + 1)), h, ent_pick [] rfl rfl (le_upd rfl (le_upd rfl (le_keep ⟨rfl, rfl, rfl, trivial⟩)))⟩
    ·have h := cond_ff c25 h
     refine tr_skipb ?_
     refine tr_region ?_
     refine tr1 rfl (s_move (v := .d (.lit (.int .i64 k_2_4))) (lt_of rfl) rfl rfl) ?_
     refine tr1 rfl (s_arith (lt_of rfl) rfl rfl rfl) ?_
     refine tr1 rfl (s_assign (v := .d (.lit (.int .i64 ((w64 (k_2_4 + 1)))))) (lt_of rfl) rfl rfl) ?_
     refine tr_nil ?_
     exact ⟨(n_2_4, w64 (k_2_4 + 1)), h, ent_pick [] rfl rfl (le_upd rfl (le_upd rfl (le_keep ⟨rfl, rfl, rfl, trivial⟩)))⟩
  ·have h := cond_ff c6 h
   refine tr_exit ?_
   refine .inl ⟨rfl, ?_⟩
   simp only [deuceref08_moved_K2] at h
   simp only [deuceref08_moved_K1] at h
   refine tr_region ?_
   refine tr1 rfl (s_move (v := .d (.lit (.int .i64 i_0_1))) (lt_of rfl) rfl rfl) ?_
   refine tr1 rfl (s_arith (lt_of rfl) rfl rfl rfl) ?_
   refine tr1 rfl (s_assign (v := .d (.lit (.int .i64 ((w64 (i_0_1 + 1)))))) (lt_of rfl) rfl rfl) ?_
   refine tr_nil ?_
   exact ⟨(n_2_4, w64 (i_0_1 + 1)), h, ent_pick [] rfl rfl (le_upd rfl (le_upd rfl (le_keep ⟨rfl, rfl, trivial⟩)))⟩
 ·have h := cond_ff c3 h
  refine tr_exit ?_
  refine .inl ⟨rfl, ?_⟩
  simp only [deuceref08_moved_K0] at h
  refine tr_seq ?_
  refine tr_region ?_
  refine tr1 rfl (s_move (v := .d (.lit (.int .i64 n_0_1))) (lt_of rfl) rfl rfl) ?_
  refine tr1 rfl (s_assign (v := .d (.lit (.int .i64 n_0_1))) (lt_of rfl) rfl rfl) ?_
  refine tr_nil ?_
  have h := Option.some.inj h
  subst h
  exact tr_ret ⟨rfl, _, .one _, rfl, rfl⟩

theorem deuceref08_fewest_rc (kr : Nat) : ∀ (p_0 : ApiProgram) (first_1 : List ApiSeat) (old_2 : List ApiSeat) (days_3 : Int) (best_4 : Int) {r : Int} (_h : deuceref08_fewest_r kr p_0 first_1 old_2 days_3 best_4 = some r), Fn Try.prog 71 [.agg (encApiProgram p_0), .d (.sl 3 (first_1.map encApiSeat)), .d (.sl 3 (old_2.map encApiSeat)), .d (.lit (.int .i64 days_3)), .d (.lit (.int .i64 best_4))] (.d (.lit (.int .i64 r))) := by
  induction kr with
  | zero => intros; rename_i h; cases h
  | succ kr ih =>
    intro p_0 first_1 old_2 days_3 best_4 r h
    simp only [deuceref08_fewest_r] at h
    refine Fn.of_tr Try.func71 rfl (rs := [.tmp 10]) Try.results71 Try.ntmps71 (Nat.le_of_ble_eq_true rfl) ?_
    refine tr_seq ?_
    refine tr_region ?_
    refine tr_op rfl (s_box (v := .agg (encApiProgram p_0)) (lt_of rfl) rfl rfl rfl) ?_
    rintro _ ⟨b1, rfl⟩
    refine tr1 rfl (s_assign (v := .d (.lit (.int .i64 0))) (lt_of rfl) rfl rfl) ?_
    refine tr_nil ?_
    refine tr_seq ?_
    refine tr_seq ?_
    refine tr_region ?_
    refine tr1 rfl (s_move (v := .d (.sl 3 (first_1.map encApiSeat))) (lt_of rfl) rfl rfl) ?_
    refine tr1 rfl (s_move (v := .d (.sl 3 (old_2.map encApiSeat))) (lt_of rfl) rfl rfl) ?_
    obtain ⟨r2, h3, h⟩ := bind_some h
    refine tr1 rfl (s_call (lt_of rfl) (.func _ _ Try.call69) rfl rfl (BVs.refl _ _) (deuceref08_moved_c _ _ h3) rfl) ?_
    refine tr1 rfl (s_move (v := .d (.lit (.int .i64 best_4))) (lt_of rfl) rfl rfl) ?_
    refine tr1 rfl (s_cmp (lt_of rfl) rfl rfl rfl) ?_
    refine tr1 rfl (s_move (v := .d (.lit (.bool ((decide (best_4 ≤ r2)))))) (lt_of rfl) rfl rfl) ?_
    obtain ⟨b4, h5, h⟩ := bind_some h
    refine tr_guard 10 [1, 2, 3, 4, 5] 30 b4 ?_ ?_
    ·refine bool_cases (decide (best_4 ≤ r2)) (fun c32 => ?_) (fun c32 => ?_)
     ·have h5 := cond_tt c32 h5
      refine tr_pass rfl rfl (lt_of rfl) rfl (lt_of rfl) rfl c32 ?_
      refine tr_pass rfl rfl (lt_of rfl) rfl (lt_of rfl) rfl c32 ?_
      refine tr_pass rfl rfl (lt_of rfl) rfl (lt_of rfl) rfl c32 ?_
      refine tr_pass rfl rfl (lt_of rfl) rfl (lt_of rfl) rfl c32 ?_
      refine tr_pass' rfl rfl (lt_of rfl) rfl (lt_of rfl) rfl ?_
      refine tr_pass' rfl rfl (lt_of rfl) rfl (lt_of rfl) rfl ?_
      refine tr_pass' rfl rfl (lt_of rfl) rfl (lt_of rfl) rfl ?_
      refine tr_pass' rfl rfl (lt_of rfl) rfl (lt_of rfl) rfl ?_
      refine tr_pass rfl rfl (lt_of rfl) rfl (lt_of rfl) rfl c32 ?_
      refine tr1 rfl (s_pick_t (v := .d (.lit (.bool true))) (lt_of rfl) rfl c32 rfl rfl) ?_
      have h5 := Option.some.inj h5
      subst h5
      refine tr_nil (ent_keep rfl ⟨rfl, rfl, rfl, rfl, rfl, trivial⟩ rfl)
     ·have h5 := cond_ff c32 h5
      refine tr_take1 rfl rfl (lt_of rfl) rfl c32 (s_move (v := .d (.sl 3 (first_1.map encApiSeat))) (lt_of rfl) rfl rfl) ?_
      refine tr_take1 rfl rfl (lt_of rfl) rfl c32 (s_lenm (lt_of rfl) rfl sl_26.of) ?_
      refine tr_take1 rfl rfl (lt_of rfl) rfl c32 (s_cmp (lt_of rfl) rfl rfl rfl) ?_
      refine tr_take1 rfl rfl (lt_of rfl) rfl c32 (s_move (v := .d (.lit (.bool ((decide (0 < (first_1.length : Int))))))) (lt_of rfl) rfl rfl) ?_
      obtain ⟨b33, h34, h5⟩ := bind_some h5
      refine tr_guard 5 [1, 2, 3, 4, 5, 20] 29 b33 ?_ ?_
      ·refine bool_cases (decide (0 < (first_1.length : Int))) (fun c35 => ?_) (fun c35 => ?_)
       ·have h34 := cond_tt c35 h34
        refine tr_take1 rfl rfl (lt_of rfl) rfl c35 (s_loada_bp (lt_of rfl) rfl (i := 0) rfl agg_25 (es := (encApiProgram p_0)) rfl rfl) ?_
        refine tr_take1 rfl rfl (lt_of rfl) rfl c35 (s_move (v := .d (.sl 3 (first_1.map encApiSeat))) (lt_of rfl) rfl rfl) ?_
        obtain ⟨r36, h37, h34⟩ := bind_some h34
        refine tr_take1 rfl rfl (lt_of rfl) rfl c35 (s_call (lt_of rfl) (.func _ _ Try.call65) rfl rfl (BVs.refl _ _) (deuceref08_late_c _ _ h37) rfl) ?_
        refine tr_take1 rfl rfl (lt_of rfl) rfl c35 (s_cmp (lt_of rfl) rfl rfl rfl) ?_
        refine tr_take1 rfl rfl (lt_of rfl) rfl c32 (s_pick_t (v := .d (.lit (.bool ((decide (0 ≤ r36)))))) (lt_of rfl) rfl c35 rfl rfl) ?_
        have h34 := Option.some.inj h34
        subst h34
        refine tr_nil (ent_keep rfl ⟨rfl, rfl, rfl, rfl, rfl, rfl, trivial⟩ rfl)
       ·have h34 := cond_ff c35 h34
        refine tr_pass rfl rfl (lt_of rfl) rfl (lt_of rfl) rfl c35 ?_
        refine tr_pass rfl rfl (lt_of rfl) rfl (lt_of rfl) rfl c35 ?_
        refine tr_pass rfl rfl (lt_of rfl) rfl (lt_of rfl) rfl c35 ?_
        refine tr_pass rfl rfl (lt_of rfl) rfl (lt_of rfl) rfl c35 ?_
        refine tr_take1 rfl rfl (lt_of rfl) rfl c32 (s_pick_f (v := .d (.lit (.bool false))) (lt_of rfl) rfl c35 rfl rfl) ?_
        have h34 := Option.some.inj h34
        subst h34
        refine tr_nil (ent_keep rfl ⟨rfl, rfl, rfl, rfl, rfl, rfl, trivial⟩ rfl)
      ·refine tr1 rfl (s_pick_f (v := .d (.lit (.bool b33))) (lt_of rfl) rfl c32 rfl rfl) ?_
       have h5 := Option.some.inj h5
       subst h5
       refine tr_nil (ent_keep rfl ⟨rfl, rfl, rfl, rfl, rfl, trivial⟩ rfl)
    ·refine tr_nil ?_
     refine tr_if rfl (fun c6 => ?_) (fun c6 => ?_)
     ·have h := cond_tt c6 h
      refine tr_seq ?_
      refine tr_region ?_
      refine tr1 rfl (s_move (v := .d (.lit (.int .i64 best_4))) (lt_of rfl) rfl rfl) ?_
      refine tr1 rfl (s_assign (v := .d (.lit (.int .i64 best_4))) (lt_of rfl) rfl rfl) ?_
      refine tr_nil ?_
      have h := Option.some.inj h
      subst h
      refine tr_ent (ent_free (ble_keep (l := [10]) ⟨rfl, trivial⟩)) ?_
      exact tr_ret ⟨rfl, _, .one _, rfl, rfl⟩
     ·have h := cond_ff c6 h
      refine tr_skip ?_
      refine tr_seq ?_
      refine tr_seq ?_
      refine tr_region ?_
      refine tr1 rfl (s_move (v := .d (.sl 3 (first_1.map encApiSeat))) (lt_of rfl) rfl rfl) ?_
      refine tr1 rfl (s_lenm (lt_of rfl) rfl sl_26.of) ?_
      refine tr1 rfl (s_field_bp (lt_of rfl) rfl fld_25_2) ?_
      refine tr1 rfl (s_load_bp (lt_of rfl) rfl (i := 0) rfl rfl one_23) ?_
      refine tr1 rfl (s_lenm (lt_of rfl) rfl sl_23.of) ?_
      refine tr1 rfl (s_cmp (lt_of rfl) rfl rfl rfl) ?_
      refine tr_nil ?_
      refine tr_if rfl (fun c7 => ?_) (fun c7 => ?_)
      ·have h := cond_tt c7 h
       refine tr_seq ?_
       refine tr_region ?_
       refine tr1 rfl (s_move (v := .d (.sl 3 (first_1.map encApiSeat))) (lt_of rfl) rfl rfl) ?_
       refine tr1 rfl (s_move (v := .d (.sl 3 (old_2.map encApiSeat))) (lt_of rfl) rfl rfl) ?_
       obtain ⟨r8, h9, h⟩ := bind_some h
       refine tr1 rfl (s_call (lt_of rfl) (.func _ _ Try.call69) rfl rfl (BVs.refl _ _) (deuceref08_moved_c _ _ h9) rfl) ?_
       refine tr1 rfl (s_assign (v := .d (.lit (.int .i64 r8))) (lt_of rfl) rfl rfl) ?_
       refine tr_nil ?_
       have h := Option.some.inj h
       subst h
       refine tr_ent (ent_free (ble_keep (l := [10]) ⟨rfl, trivial⟩)) ?_
       exact tr_ret ⟨rfl, _, .one _, rfl, rfl⟩
      ·have h := cond_ff c7 h
       refine tr_skip ?_
       refine tr_seq ?_
       refine tr_seq ?_
       refine tr_region ?_
       refine tr1 rfl (s_assign (v := .d (.lit (.int .i64 0))) (lt_of rfl) rfl rfl) ?_
       refine tr_nil ?_
       refine tr_blk ?_
       refine tr_loopk [1, 2, 3, 5] (fun (s10 : Int × Int) => [(4, .d (.lit (.int .i64 s10.1))), (11, .d (.lit (.int .i64 s10.2)))]) (fun (s10 : Int × Int) => [.box b1 0 (encApiProgram p_0)]) (fun (k : Nat) (s10 : Int × Int) => deuceref08_fewest_L0 (deuceref08_fewest_r kr) first_1 old_2 days_3 p_0 k s10.1 s10.2) (fun _ => rfl) (best_4, 0) h (ent_pick [0] rfl rfl (le_upd rfl (le_upd rfl (le_keep ⟨rfl, rfl, rfl, rfl, trivial⟩)))) ?_
       rintro k11 ⟨best_0_10, job_0_10⟩ h
       simp only [deuceref08_fewest_L0] at h
       refine tr_seq ?_
       refine tr_seq ?_
       refine tr_region ?_
       refine tr1 rfl (s_move (v := .d (.lit (.int .i64 job_0_10))) (lt_of rfl) rfl rfl) ?_
       refine tr1 rfl (s_field_bp (lt_of rfl) rfl fld_25_2) ?_
       refine tr1 rfl (s_load_bp (lt_of rfl) rfl (i := 0) rfl rfl one_23) ?_
       refine tr1 rfl (s_lenm (lt_of rfl) rfl sl_23.of) ?_
       refine tr1 rfl (s_cmp (lt_of rfl) rfl rfl rfl) ?_
       refine tr_nil ?_
       refine tr_if rfl (fun c12 => ?_) (fun c12 => ?_)
       ·have h := cond_tt c12 h
        refine tr_skip ?_
        refine tr_seq ?_
        refine tr_blk ?_
        refine tr_seq ?_
        refine tr_region ?_
        refine tr1 rfl (s_assign (v := .d (.lit (.int .i64 0))) (lt_of rfl) rfl rfl) ?_
        refine tr_nil ?_
        refine tr_blkb ?_
        refine tr_loopk [1, 2, 3, 5, 11] (fun (s13 : Int × Int) => [(4, .d (.lit (.int .i64 s13.1))), (12, .d (.lit (.int .i64 s13.2)))]) (fun (s13 : Int × Int) => [.box b1 0 (encApiProgram p_0)]) (fun (k : Nat) (s13 : Int × Int) => deuceref08_fewest_L2 (deuceref08_fewest_r kr) (deuceref08_fewest_L0 (deuceref08_fewest_r kr) first_1 old_2 days_3 p_0 k11) first_1 old_2 days_3 job_0_10 p_0 k s13.1 s13.2) (fun _ => rfl) (best_0_10, 0) h (ent_pick [0] rfl rfl (le_upd rfl (le_upd rfl (le_keep ⟨rfl, rfl, rfl, rfl, rfl, trivial⟩)))) ?_
        rintro k14 ⟨best_2_13, d_2_13⟩ h
        simp only [deuceref08_fewest_L2] at h
        refine tr_seq ?_
        refine tr_seq ?_
        refine tr_region ?_
        refine tr1 rfl (s_move (v := .d (.lit (.int .i64 d_2_13))) (lt_of rfl) rfl rfl) ?_
        refine tr1 rfl (s_move (v := .d (.lit (.int .i64 days_3))) (lt_of rfl) rfl rfl) ?_
        refine tr1 rfl (s_field_bp (lt_of rfl) rfl fld_25_0) ?_
        refine tr1 rfl (s_load_bp (lt_of rfl) rfl (i := 0) rfl rfl one_22) ?_
        refine tr1 rfl (s_lenm (lt_of rfl) rfl sl_22.of) ?_
        refine tr1 rfl (s_min (lt_of rfl) rfl rfl) ?_
        refine tr1 rfl (s_cmp (lt_of rfl) rfl rfl rfl) ?_
        refine tr_nil ?_
        refine tr_if rfl (fun c15 => ?_) (fun c15 => ?_)
        ·have h := cond_tt c15 h
         refine tr_skip ?_
         refine tr_seq ?_
         refine tr_blk ?_
         refine tr_seq ?_
         refine tr_region ?_
         refine tr1 rfl (s_assign (v := .d (.lit (.int .i64 0))) (lt_of rfl) rfl rfl) ?_
         refine tr_nil ?_
         refine tr_blkb ?_
         refine tr_loopk [1, 2, 3, 5, 11, 12] (fun (s16 : Int × Int) => [(4, .d (.lit (.int .i64 s16.1))), (13, .d (.lit (.int .i64 s16.2)))]) (fun (s16 : Int × Int) => [.box b1 0 (encApiProgram p_0)]) (fun (k : Nat) (s16 : Int × Int) => deuceref08_fewest_L4 (deuceref08_fewest_r kr) (deuceref08_fewest_L0 (deuceref08_fewest_r kr) first_1 old_2 days_3 p_0 k11) (deuceref08_fewest_L2 (deuceref08_fewest_r kr) (deuceref08_fewest_L0 (deuceref08_fewest_r kr) first_1 old_2 days_3 p_0 k11) first_1 old_2 days_3 job_0_10 p_0 k14) first_1 old_2 days_3 job_0_10 d_2_13 p_0 k s16.1 s16.2) (fun _ => rfl) (best_2_13, 0) h (ent_pick [0] rfl rfl (le_upd rfl (le_upd rfl (le_keep ⟨rfl, rfl, rfl, rfl, rfl, rfl, trivial⟩)))) ?_
         rintro k17 ⟨best_4_16, c_4_16⟩ h
         simp only [deuceref08_fewest_L4] at h
         refine tr_seq ?_
         refine tr_seq ?_
         refine tr_region ?_
         refine tr1 rfl (s_move (v := .d (.lit (.int .i64 c_4_16))) (lt_of rfl) rfl rfl) ?_
         refine tr1 rfl (s_field_bp (lt_of rfl) rfl fld_25_0) ?_
         refine tr1 rfl (s_load_bp (lt_of rfl) rfl (i := 0) rfl rfl one_22) ?_
         refine tr1 rfl (s_move (v := .d (.lit (.int .i64 d_2_13))) (lt_of rfl) rfl rfl) ?_
         obtain ⟨x18, h19, h⟩ := bind_some h
         refine tr1 rfl (s_index_sl (lt_of rfl) rfl rfl sl_22.of (idx_map encSl_ApiSpan h19)) ?_
         refine tr1 rfl (s_load_cp (lt_of rfl) rfl one_37) ?_
         refine tr1 rfl (s_lenm (lt_of rfl) rfl sl_37.of) ?_
         refine tr1 rfl (s_cmp (lt_of rfl) rfl rfl rfl) ?_
         refine tr_nil ?_
         refine tr_if rfl (fun c20 => ?_) (fun c20 => ?_)
         ·have h := cond_tt c20 h
          refine tr_skip ?_
          refine tr_seq ?_
          refine tr_blk ?_
          refine tr_seq ?_
          refine tr_region ?_
          refine tr1 rfl (s_move (v := .d (.lit (.int .i64 job_0_10))) (lt_of rfl) rfl rfl) ?_
          refine tr1 rfl (s_move (v := .d (.lit (.int .i64 d_2_13))) (lt_of rfl) rfl rfl) ?_
          refine tr1 rfl (s_move (v := .d (.lit (.int .i64 c_4_16))) (lt_of rfl) rfl rfl) ?_
          refine tr1 rfl (s_build (lt_of rfl) stu_45 (zs := [.lit (.int .i64 0), .lit (.int .i64 0), .lit (.int .i64 0)]) rfl rfl rfl rfl (es := [.lit (.int .i64 job_0_10), .lit (.int .i64 d_2_13), .lit (.int .i64 c_4_16)]) rfl) ?_
          refine tr_op rfl (s_alloc (zs := [.lit (.int .i64 0), .lit (.int .i64 0), .lit (.int .i64 0)]) (lt_of rfl) Try.zeroValue45 rfl rfl) ?_
          rintro _ ⟨b21, rfl⟩
          refine tr1 rfl (s_store_bp (i := 1) rfl rfl rfl rfl rfl Try.sizeOf45 rfl (lt_of rfl) (Nat.le_of_ble_eq_true rfl) (ds' := (encApiSeat (ApiSeat.mk job_0_10 d_2_13 c_4_16))) rfl) ?_
          refine tr_nil ?_
          refine tr_seq ?_
          refine tr_region ?_
          refine tr1 rfl (s_loada_bp (lt_of rfl) rfl (i := 0) rfl agg_25 (es := (encApiProgram p_0)) rfl rfl) ?_
          refine tr1 rfl (s_move (v := .d (.sl 3 (first_1.map encApiSeat))) (lt_of rfl) rfl rfl) ?_
          refine tr1 rfl (s_loada_bp (lt_of rfl) rfl (i := 1) rfl agg_45 (es := (encApiSeat (ApiSeat.mk job_0_10 d_2_13 c_4_16))) rfl rfl) ?_
          obtain ⟨r22, h23, h⟩ := bind_some h
          refine tr1 rfl (s_call (lt_of rfl) (.func _ _ Try.call48) rfl rfl (BVs.refl _ _) (deuceref08_MayCome_c _ _ _ h23) rfl) ?_
          refine tr_nil ?_
          refine tr_if rfl (fun c24 => ?_) (fun c24 => ?_)
          ·have h := cond_tt c24 h
           obtain ⟨x26, h27, h⟩ := bind_some h
           obtain ⟨x28, h29, h⟩ := bind_some h
           refine tr_drawxk mix 10 [1, 2, 3, 5, 11, 12, 13] (fun X25 => [(75, .agg (encApiProgram p_0)), (81, .d (.lit (X25 6).v)), (82, .d (.sl 3 (old_2.map encApiSeat))), (83, .d (.lit (.int .i64 days_3))), (84, .d (.lit (.int .i64 best_4_16)))]) (fun X25 => [.box b1 0 (encApiProgram p_0), .box b21 0 (encApiSeat (ApiSeat.mk job_0_10 d_2_13 c_4_16)), .arr (X25 6).v 45 3 (x28.map encApiSeat)]) ?_ ?_
           ·refine ⟨1, fun X25 => [(75, 0, .agg (encApiProgram p_0)), (76, 1, .d (.lit (X25 1).v)), (77, 2, .d (.sl 3 (first_1.map encApiSeat))), (78, 3, .d (.lit (X25 3).v)), (79, 4, .agg (encApiSeat (ApiSeat.mk job_0_10 d_2_13 c_4_16))), (80, 5, .d (.sl 3 ((([(ApiSeat.mk job_0_10 d_2_13 c_4_16)])).map encApiSeat))), (81, 6, .d (.lit (X25 6).v)), (82, 7, .d (.sl 3 (old_2.map encApiSeat))), (83, 8, .d (.lit (.int .i64 days_3))), (84, 9, .d (.lit (.int .i64 best_4_16)))], fun X25 => [([], .box b1 0 (encApiProgram p_0)), ([], .box b21 0 (encApiSeat (ApiSeat.mk job_0_10 d_2_13 c_4_16))), ([(6, .arr (X25 6).v 45 3 (x28.map encApiSeat)), (3, .arr (X25 3).v 45 3 (x26.map encApiSeat)), (1, .arr (X25 1).v 45 3 (([] : List ApiSeat).map encApiSeat))], nob)], ?_, ?_⟩
            · exact ⟨by kernel_rfl, by kernel_rfl, by kernel_rfl, fun _ => by kernel_rfl, fun _ => by kernel_rfl, fun _ => by kernel_rfl, fun _ => rfl, [([], []), ([], [3, 6]), ([], [3, 6]), ([1, 2], [6]), ([], [6]), ([4], [6]), ([1, 3, 5], []), ([], []), ([], []), ([], [])], by kernel_rfl, ⟨fun X25 S hw hi hS => x_pure (X := X25) rfl (hw X25) rfl (g_op rfl (s_loada_bp (lt_of rfl) (ov_ev hS rfl) (i := 0) (og hS rfl rfl) agg_25 (es := (encApiProgram p_0)) rfl rfl)),
      fun X25 S hw hi hS => x_make (X := X25) (p := 2) (v := fun x => .d (.lit x.v)) (mo := fun x => .arr x.v 45 3 (([] : List ApiSeat).map encApiSeat)) hS hi rfl rfl (fun _ => rfl) hw (fun _ => rfl) (fun _ => rfl) (fun _ => rfl) (fun _ => ⟨rfl, rfl, .inr rfl, ⟨rfl, rfl, .inl rfl, ⟨rfl, rfl, .inr rfl, ⟨rfl, rfl, .inr rfl, ⟨rfl, rfl, .inr rfl, ⟨rfl, rfl, .inr rfl, ⟨rfl, rfl, .inr rfl, ⟨rfl, rfl, .inr rfl, ⟨rfl, rfl, .inr rfl, ⟨rfl, rfl, .inr rfl, trivial⟩⟩⟩⟩⟩⟩⟩⟩⟩⟩) (fun _ => ⟨trivial, rfl, ⟨trivial, rfl, ⟨⟨rfl, .inr rfl, ⟨rfl, .inr rfl, ⟨rfl, .inl rfl, trivial⟩⟩⟩, rfl, trivial⟩⟩⟩) (step_post (s_lit_arr (lt_of rfl) sl_26 rfl pan (rows := (([] : List ApiSeat)).map encApiSeat) rfl (map_len (f := encApiSeat) fun _ => rfl) rfl (by decide)) (by rintro _ ⟨w, rfl⟩; exact ⟨⟨0, w⟩, ent_pick [0, 1, 3] rfl rfl (le_refl _)⟩)),
      fun X25 S hw hi hS => x_pure (X := X25) rfl (hw X25) rfl (g_op rfl (s_move (v := .d (.sl 3 (first_1.map encApiSeat))) (lt_of rfl) (ov_ev hS rfl) rfl)),
      fun X25 S hw hi hS => x_make (X := X25) (p := 2) (v := fun x => .d (.lit x.v)) (mo := fun x => .arr x.v 45 3 (x26.map encApiSeat)) hS hi rfl rfl (fun _ => rfl) hw (fun _ => rfl) (fun _ => rfl) (fun _ => rfl) (fun _ => ⟨rfl, rfl, .inr rfl, ⟨rfl, rfl, .inr rfl, ⟨rfl, rfl, .inr rfl, ⟨rfl, rfl, .inl rfl, ⟨rfl, rfl, .inr rfl, ⟨rfl, rfl, .inr rfl, ⟨rfl, rfl, .inr rfl, ⟨rfl, rfl, .inr rfl, ⟨rfl, rfl, .inr rfl, ⟨rfl, rfl, .inr rfl, trivial⟩⟩⟩⟩⟩⟩⟩⟩⟩⟩) (fun _ => ⟨trivial, rfl, ⟨trivial, rfl, ⟨⟨rfl, .inr rfl, ⟨rfl, .inl rfl, ⟨rfl, .inr rfl, trivial⟩⟩⟩, rfl, trivial⟩⟩⟩) (step_post (s_appendm (i := 2) (lt_of rfl) sl_26 (ov_ev hS rfl) (og hS rfl rfl) (ov_ev hS rfl) (fun _ => rfl) h27 rfl) (by rintro _ ⟨w, rfl⟩; exact ⟨⟨0, w⟩, Ent.refl _⟩)),
      fun X25 S hw hi hS => x_pure (X := X25) rfl (hw X25) rfl (g_op rfl (s_loada_bp (lt_of rfl) (ov_ev hS rfl) (i := 1) (og hS rfl rfl) agg_45 (es := (encApiSeat (ApiSeat.mk job_0_10 d_2_13 c_4_16))) rfl rfl)),
      fun X25 S hw hi hS => x_pure (X := X25) rfl (hw X25) rfl (g_op rfl (s_lit_sl (lt_of rfl) sl_26 rfl (pa2 (ov_ev hS rfl) pan) (rows := ([(ApiSeat.mk job_0_10 d_2_13 c_4_16)]).map encApiSeat) rfl (map_len (f := encApiSeat) fun _ => rfl) rfl (by decide))),
      fun X25 S hw hi hS => x_make (X := X25) (p := 2) (v := fun x => .d (.lit x.v)) (mo := fun x => .arr x.v 45 3 (x28.map encApiSeat)) hS hi rfl rfl (fun _ => rfl) hw (fun _ => rfl) (fun _ => rfl) (fun _ => rfl) (fun _ => ⟨rfl, rfl, .inr rfl, ⟨rfl, rfl, .inr rfl, ⟨rfl, rfl, .inr rfl, ⟨rfl, rfl, .inr rfl, ⟨rfl, rfl, .inr rfl, ⟨rfl, rfl, .inr rfl, ⟨rfl, rfl, .inl rfl, ⟨rfl, rfl, .inr rfl, ⟨rfl, rfl, .inr rfl, ⟨rfl, rfl, .inr rfl, trivial⟩⟩⟩⟩⟩⟩⟩⟩⟩⟩) (fun _ => ⟨trivial, rfl, ⟨trivial, rfl, ⟨⟨rfl, .inl rfl, ⟨rfl, .inr rfl, ⟨rfl, .inr rfl, trivial⟩⟩⟩, rfl, trivial⟩⟩⟩) (step_post (s_appendm (i := 2) (lt_of rfl) sl_26 (ov_ev hS rfl) (og hS rfl rfl) (ov_ev hS rfl) (fun _ => rfl) h29 rfl) (by rintro _ ⟨w, rfl⟩; exact ⟨⟨0, w⟩, Ent.refl _⟩)),
      fun X25 S hw hi hS => x_pure (X := X25) rfl (hw X25) rfl (g_op rfl (s_move (v := .d (.sl 3 (old_2.map encApiSeat))) (lt_of rfl) (ov_ev hS rfl) rfl)),
      fun X25 S hw hi hS => x_pure (X := X25) rfl (hw X25) rfl (g_op rfl (s_move (v := .d (.lit (.int .i64 days_3))) (lt_of rfl) (ov_ev hS rfl) rfl)),
      fun X25 S hw hi hS => x_pure (X := X25) rfl (hw X25) rfl (g_op rfl (s_move (v := .d (.lit (.int .i64 best_4_16))) (lt_of rfl) (ov_ev hS rfl) rfl)), trivial⟩⟩
            · exact fun X25 => ent_le (le_upd rfl (le_upd rfl (le_upd rfl (le_upd rfl (le_upd rfl (le_keep ⟨rfl, rfl, rfl, rfl, rfl, rfl, rfl, trivial⟩))))))
           ·intro X25
            obtain ⟨r30, h31, h⟩ := bind_some h
            refine tr1 rfl (s_call (lt_of rfl) (.func _ _ Try.call71) rfl rfl (.cons (.same _) (.cons (.d (dv_arr 2 rfl (map_len (f := encApiSeat) fun _ => rfl))) (.cons (.same _) (.cons (.same _) (.cons (.same _) .nil))))) (ih _ _ _ _ _ h31) rfl) ?_
            refine tr1 rfl (s_assign (v := .d (.lit (.int .i64 r30))) (lt_of rfl) rfl rfl) ?_
            refine tr_nilb ?_
            refine tr_region ?_
            refine tr1 rfl (s_move (v := .d (.lit (.int .i64 c_4_16))) (lt_of rfl) rfl rfl) ?_
            refine tr1 rfl (s_arith (lt_of rfl) rfl rfl rfl) ?_
            refine tr1 rfl (s_assign (v := .d (.lit (.int .i64 ((w64 (c_4_16 + 1)))))) (lt_of rfl) rfl rfl) ?_
            refine tr_nil ?_
            exact ⟨(r30, w64 (c_4_16 + 1)), h, ent_pick [0] rfl rfl (le_upd rfl (le_upd rfl (le_keep ⟨rfl, rfl, rfl, rfl, rfl, rfl, trivial⟩)))⟩
          ·have h := cond_ff c24 h
           refine tr_skipb ?_
           refine tr_region ?_
           refine tr1 rfl (s_move (v := .d (.lit (.int .i64 c_4_16))) (lt_of rfl) rfl rfl) ?_
           refine tr1 rfl (s_arith (lt_of rfl) rfl rfl rfl) ?_
           refine tr1 rfl (s_assign (v := .d (.lit (.int .i64 ((w64 (c_4_16 + 1)))))) (lt_of rfl) rfl rfl) ?_
           refine tr_nil ?_
           exact ⟨(best_4_16, w64 (c_4_16 + 1)), h, ent_pick [0] rfl rfl (le_upd rfl (le_upd rfl (le_keep ⟨rfl, rfl, rfl, rfl, rfl, rfl, trivial⟩)))⟩
         ·have h := cond_ff c20 h
          refine tr_exit ?_
          refine .inl ⟨rfl, ?_⟩
          simp only [deuceref08_fewest_K4] at h
          simp only [deuceref08_fewest_K3] at h
          refine tr_region ?_
          refine tr1 rfl (s_move (v := .d (.lit (.int .i64 d_2_13))) (lt_of rfl) rfl rfl) ?_
          refine tr1 rfl (s_arith (lt_of rfl) rfl rfl rfl) ?_
          refine tr1 rfl (s_assign (v := .d (.lit (.int .i64 ((w64 (d_2_13 + 1)))))) (lt_of rfl) rfl rfl) ?_
          refine tr_nil ?_
          exact ⟨(best_4_16, w64 (d_2_13 + 1)), h, ent_pick [0] rfl rfl (le_upd rfl (le_upd rfl (le_keep ⟨rfl, rfl, rfl, rfl, rfl, trivial⟩)))⟩
        ·have h := cond_ff c15 h
         refine tr_exit ?_
         refine .inl ⟨rfl, ?_⟩
         simp only [deuceref08_fewest_K2] at h
         simp only [deuceref08_fewest_K1] at h
         refine tr_region ?_
         refine tr1 rfl (s_move (v := .d (.lit (.int .i64 job_0_10))) (lt_of rfl) rfl rfl) ?_
         refine tr1 rfl (s_arith (lt_of rfl) rfl rfl rfl) ?_
         refine tr1 rfl (s_assign (v := .d (.lit (.int .i64 ((w64 (job_0_10 + 1)))))) (lt_of rfl) rfl rfl) ?_
         refine tr_nil ?_
         exact ⟨(best_2_13, w64 (job_0_10 + 1)), h, ent_pick [0] rfl rfl (le_upd rfl (le_upd rfl (le_keep ⟨rfl, rfl, rfl, rfl, trivial⟩)))⟩
       ·have h := cond_ff c12 h
        refine tr_exit ?_
        refine .inl ⟨rfl, ?_⟩
        simp only [deuceref08_fewest_K0] at h
        refine tr_seq ?_
        refine tr_region ?_
        refine tr1 rfl (s_move (v := .d (.lit (.int .i64 best_0_10))) (lt_of rfl) rfl rfl) ?_
        refine tr1 rfl (s_assign (v := .d (.lit (.int .i64 best_0_10))) (lt_of rfl) rfl rfl) ?_
        refine tr_nil ?_
        have h := Option.some.inj h
        subst h
        refine tr_ent (ent_free (ble_keep (l := [10]) ⟨rfl, trivial⟩)) ?_
        exact tr_ret ⟨rfl, _, .one _, rfl, rfl⟩
theorem deuceref08_fewest_c (p_0 : ApiProgram) (first_1 : List ApiSeat) (old_2 : List ApiSeat) (days_3 : Int) (best_4 : Int) {r : Int} (h : deuceref08_fewest p_0 first_1 old_2 days_3 best_4 = some r) : Fn Try.prog 71 [.agg (encApiProgram p_0), .d (.sl 3 (first_1.map encApiSeat)), .d (.sl 3 (old_2.map encApiSeat)), .d (.lit (.int .i64 days_3)), .d (.lit (.int .i64 best_4))] (.d (.lit (.int .i64 r))) := deuceref08_fewest_rc BIG _ _ _ _ _ h

theorem deuceref08_can_c (p_0 : ApiProgram) (days_1 : Int) {r : Bool} (h : deuceref08_can p_0 days_1 = some r) : Fn Try.prog 92 [.agg (encApiProgram p_0), .d (.lit (.int .i64 days_1))] (.d (.lit (.bool r))) := by
 unfold deuceref08_can at h
 refine Fn.of_tr Try.func92 rfl (rs := [.tmp 4]) Try.results92 Try.ntmps92 (Nat.le_of_ble_eq_true rfl) ?_
 refine tr_seq ?_
 refine tr_region ?_
 refine tr_op rfl (s_box (v := .agg (encApiProgram p_0)) (lt_of rfl) rfl rfl rfl) ?_
 rintro _ ⟨b1, rfl⟩
 refine tr1 rfl (s_assign (v := .d (.lit (.bool false))) (lt_of rfl) rfl rfl) ?_
 refine tr_nil ?_
 refine tr_seq ?_
 refine tr_region ?_
 refine tr1 rfl (s_loada_bp (lt_of rfl) rfl (i := 0) rfl agg_25 (es := (encApiProgram p_0)) rfl rfl) ?_
 refine tr1 rfl (s_move (v := .d (.lit (.int .i64 days_1))) (lt_of rfl) rfl rfl) ?_
 obtain ⟨r2, h3, h⟩ := bind_some h
 refine tr1 rfl (s_call (lt_of rfl) (.func _ _ Try.call71) rfl rfl (.cons (.same _) (.cons (.d (.nil 3)) (.cons (.d (.nil 3)) (.cons (.same _) (.cons (.same _) .nil))))) (deuceref08_fewest_c _ _ _ _ _ h3) rfl) ?_
 refine tr1 rfl (s_cmp (lt_of rfl) rfl rfl rfl) ?_
 refine tr1 rfl (s_assign (v := .d (.lit (.bool ((decide (r2 = 0)))))) (lt_of rfl) rfl rfl) ?_
 refine tr_nil ?_
 have h := Option.some.inj h
 subst h
 refine tr_ent (ent_free (ble_keep (l := [4]) ⟨rfl, trivial⟩)) ?_
 exact tr_ret ⟨rfl, _, .one _, rfl, rfl⟩

theorem deuceref08_days_c (p_0 : ApiProgram) {r : Int} (h : deuceref08_days p_0 = some r) : Fn Try.prog 70 [.agg (encApiProgram p_0)] (.d (.lit (.int .i64 r))) := by
 unfold deuceref08_days at h
 refine Fn.of_tr Try.func70 rfl (rs := [.tmp 2]) Try.results70 Try.ntmps70 (Nat.le_of_ble_eq_true rfl) ?_
 refine tr_seq ?_
 refine tr_region ?_
 refine tr_op rfl (s_box (v := .agg (encApiProgram p_0)) (lt_of rfl) rfl rfl rfl) ?_
 rintro _ ⟨b1, rfl⟩
 refine tr1 rfl (s_assign (v := .d (.lit (.int .i64 0))) (lt_of rfl) rfl rfl) ?_
 refine tr_nil ?_
 refine tr_seq ?_
 refine tr_seq ?_
 refine tr_region ?_
 refine tr1 rfl (s_assign (v := .d (.lit (.int .i64 0))) (lt_of rfl) rfl rfl) ?_
 refine tr_nil ?_
 refine tr_blk ?_
 refine tr_loopk [1] (fun (s2 : Int) => [(3, .d (.lit (.int .i64 s2)))]) (fun (s2 : Int) => [.box b1 0 (encApiProgram p_0)]) (fun (k : Nat) (s2 : Int) => deuceref08_days_L0 p_0 k s2) (fun _ => rfl) (0) h (ent_pick [0] rfl rfl (le_upd rfl (le_keep ⟨rfl, trivial⟩))) ?_
 rintro k3 n_0_2 h
 simp only [deuceref08_days_L0] at h
 refine tr_seq ?_
 refine tr_seq ?_
 refine tr_region ?_
 refine tr1 rfl (s_move (v := .d (.lit (.int .i64 n_0_2))) (lt_of rfl) rfl rfl) ?_
 refine tr1 rfl (s_field_bp (lt_of rfl) rfl fld_25_0) ?_
 refine tr1 rfl (s_load_bp (lt_of rfl) rfl (i := 0) rfl rfl one_22) ?_
 refine tr1 rfl (s_lenm (lt_of rfl) rfl sl_22.of) ?_
 refine tr1 rfl (s_cmp (lt_of rfl) rfl rfl rfl) ?_
 refine tr_nil ?_
 refine tr_if rfl (fun c4 => ?_) (fun c4 => ?_)
 ·have h := cond_tt c4 h
  refine tr_skip ?_
  refine tr_seq ?_
  refine tr_blk ?_
  refine tr_seq ?_
  refine tr_region ?_
  refine tr1 rfl (s_loada_bp (lt_of rfl) rfl (i := 0) rfl agg_25 (es := (encApiProgram p_0)) rfl rfl) ?_
  refine tr1 rfl (s_move (v := .d (.lit (.int .i64 n_0_2))) (lt_of rfl) rfl rfl) ?_
  obtain ⟨r5, h6, h⟩ := bind_some h
  refine tr1 rfl (s_call (lt_of rfl) (.func _ _ Try.call92) rfl rfl (BVs.refl _ _) (deuceref08_can_c _ _ h6) rfl) ?_
  refine tr_nil ?_
  refine tr_if rfl (fun c7 => ?_) (fun c7 => ?_)
  ·have h := cond_tt c7 h
   refine tr_seq ?_
   refine tr_region ?_
   refine tr1 rfl (s_move (v := .d (.lit (.int .i64 n_0_2))) (lt_of rfl) rfl rfl) ?_
   refine tr1 rfl (s_assign (v := .d (.lit (.int .i64 n_0_2))) (lt_of rfl) rfl rfl) ?_
   refine tr_nil ?_
   have h := Option.some.inj h
   subst h
   refine tr_ent (ent_free (ble_keep (l := [2]) ⟨rfl, trivial⟩)) ?_
   exact tr_ret ⟨rfl, _, .one _, rfl, rfl⟩
  ·have h := cond_ff c7 h
   refine tr_skipb ?_
   refine tr_region ?_
   refine tr1 rfl (s_move (v := .d (.lit (.int .i64 n_0_2))) (lt_of rfl) rfl rfl) ?_
   refine tr1 rfl (s_arith (lt_of rfl) rfl rfl rfl) ?_
   refine tr1 rfl (s_assign (v := .d (.lit (.int .i64 ((w64 (n_0_2 + 1)))))) (lt_of rfl) rfl rfl) ?_
   refine tr_nil ?_
   exact ⟨(w64 (n_0_2 + 1)), h, ent_pick [0] rfl rfl (le_upd rfl (le_keep ⟨rfl, trivial⟩))⟩
 ·have h := cond_ff c4 h
  refine tr_exit ?_
  refine .inl ⟨rfl, ?_⟩
  simp only [deuceref08_days_K0] at h
  refine tr_seq ?_
  refine tr_region ?_
  refine tr1 rfl (s_assign (v := .d (.lit (.int .i64 (-1)))) (lt_of rfl) rfl rfl) ?_
  refine tr_nil ?_
  have h := Option.some.inj h
  subst h
  refine tr_ent (ent_free (ble_keep (l := [2]) ⟨rfl, trivial⟩)) ?_
  exact tr_ret ⟨rfl, _, .one _, rfl, rfl⟩

theorem deuceref08_Days_c (p_0 : ApiProgram) {r : Int × Int} (h : deuceref08_Days p_0 = some r) : Fn Try.prog 36 [.agg (encApiProgram p_0)] (.tup [.d (.lit (.int .i64 r.1)), .d (.lit (.int .i64 r.2))]) := by
 unfold deuceref08_Days at h
 refine Fn.of_tr Try.func36 rfl (rs := [.tmp 2, .tmp 3]) Try.results36 Try.ntmps36 (Nat.le_of_ble_eq_true rfl) ?_
 refine tr_seq ?_
 refine tr_region ?_
 refine tr_op rfl (s_box (v := .agg (encApiProgram p_0)) (lt_of rfl) rfl rfl rfl) ?_
 rintro _ ⟨b1, rfl⟩
 refine tr1 rfl (s_assign (v := .d (.lit (.int .i64 0))) (lt_of rfl) rfl rfl) ?_
 refine tr1 rfl (s_assign (v := .d (.lit (.int .i64 0))) (lt_of rfl) rfl rfl) ?_
 refine tr_nil ?_
 refine tr_seq ?_
 refine tr_seq ?_
 refine tr_region ?_
 refine tr1 rfl (s_loada_bp (lt_of rfl) rfl (i := 0) rfl agg_25 (es := (encApiProgram p_0)) rfl rfl) ?_
 obtain ⟨r2, h3, h⟩ := bind_some h
 refine tr1 rfl (s_call (lt_of rfl) (.func _ _ Try.call14) rfl rfl (BVs.refl _ _) (deuceref08_Check_c _ h3) rfl) ?_
 refine tr1 rfl (s_cmp (lt_of rfl) rfl rfl rfl) ?_
 refine tr_nil ?_
 refine tr_if rfl (fun c4 => ?_) (fun c4 => ?_)
 ·have h := cond_tt c4 h
  refine tr_seq ?_
  refine tr_region ?_
  refine tr1 rfl (s_assign (v := .d (.lit (.int .i64 0))) (lt_of rfl) rfl rfl) ?_
  refine tr1 rfl (s_assign (v := .d (.lit (.int .i64 80))) (lt_of rfl) rfl rfl) ?_
  refine tr_nil ?_
  have h := Option.some.inj h
  subst h
  refine tr_ent (ent_free (ble_keep (l := [2, 3]) ⟨rfl, rfl, trivial⟩)) ?_
  exact tr_ret ⟨rfl, _, .two _ _, rfl, rfl⟩
 ·have h := cond_ff c4 h
  refine tr_skip ?_
  refine tr_seq ?_
  refine tr_region ?_
  refine tr1 rfl (s_loada_bp (lt_of rfl) rfl (i := 0) rfl agg_25 (es := (encApiProgram p_0)) rfl rfl) ?_
  obtain ⟨r5, h6, h⟩ := bind_some h
  refine tr1 rfl (s_call (lt_of rfl) (.func _ _ Try.call70) rfl rfl (BVs.refl _ _) (deuceref08_days_c _ h6) rfl) ?_
  refine tr1 rfl (s_assign (v := .d (.lit (.int .i64 r5))) (lt_of rfl) rfl rfl) ?_
  refine tr_nil ?_
  refine tr_seq ?_
  refine tr_seq ?_
  refine tr_region ?_
  refine tr1 rfl (s_move (v := .d (.lit (.int .i64 r5))) (lt_of rfl) rfl rfl) ?_
  refine tr1 rfl (s_cmp (lt_of rfl) rfl rfl rfl) ?_
  refine tr_nil ?_
  refine tr_if rfl (fun c7 => ?_) (fun c7 => ?_)
  ·have h := cond_tt c7 h
   refine tr_seq ?_
   refine tr_region ?_
   refine tr1 rfl (s_assign (v := .d (.lit (.int .i64 0))) (lt_of rfl) rfl rfl) ?_
   refine tr1 rfl (s_assign (v := .d (.lit (.int .i64 3))) (lt_of rfl) rfl rfl) ?_
   refine tr_nil ?_
   have h := Option.some.inj h
   subst h
   refine tr_ent (ent_free (ble_keep (l := [2, 3]) ⟨rfl, rfl, trivial⟩)) ?_
   exact tr_ret ⟨rfl, _, .two _ _, rfl, rfl⟩
  ·have h := cond_ff c7 h
   refine tr_skip ?_
   refine tr_seq ?_
   refine tr_region ?_
   refine tr1 rfl (s_move (v := .d (.lit (.int .i64 r5))) (lt_of rfl) rfl rfl) ?_
   refine tr1 rfl (s_assign (v := .d (.lit (.int .i64 r5))) (lt_of rfl) rfl rfl) ?_
   refine tr1 rfl (s_assign (v := .d (.lit (.int .i64 0))) (lt_of rfl) rfl rfl) ?_
   refine tr_nil ?_
   have h := Option.some.inj h
   subst h
   refine tr_ent (ent_free (ble_keep (l := [2, 3]) ⟨rfl, rfl, trivial⟩)) ?_
   exact tr_ret ⟨rfl, _, .two _ _, rfl, rfl⟩

theorem deuceref08_Fewest_c (p_0 : ApiProgram) (old_1 : List ApiSeat) {r : Int × Int} (h : deuceref08_Fewest p_0 old_1 = some r) : Fn Try.prog 37 [.agg (encApiProgram p_0), .d (.sl 3 (old_1.map encApiSeat))] (.tup [.d (.lit (.int .i64 r.1)), .d (.lit (.int .i64 r.2))]) := by
 unfold deuceref08_Fewest at h
 refine Fn.of_tr Try.func37 rfl (rs := [.tmp 4, .tmp 5]) Try.results37 Try.ntmps37 (Nat.le_of_ble_eq_true rfl) ?_
 refine tr_seq ?_
 refine tr_region ?_
 refine tr_op rfl (s_box (v := .agg (encApiProgram p_0)) (lt_of rfl) rfl rfl rfl) ?_
 rintro _ ⟨b1, rfl⟩
 refine tr1 rfl (s_assign (v := .d (.lit (.int .i64 0))) (lt_of rfl) rfl rfl) ?_
 refine tr1 rfl (s_assign (v := .d (.lit (.int .i64 0))) (lt_of rfl) rfl rfl) ?_
 refine tr_nil ?_
 refine tr_seq ?_
 refine tr_seq ?_
 refine tr_region ?_
 refine tr1 rfl (s_loada_bp (lt_of rfl) rfl (i := 0) rfl agg_25 (es := (encApiProgram p_0)) rfl rfl) ?_
 obtain ⟨r2, h3, h⟩ := bind_some h
 refine tr1 rfl (s_call (lt_of rfl) (.func _ _ Try.call14) rfl rfl (BVs.refl _ _) (deuceref08_Check_c _ h3) rfl) ?_
 refine tr1 rfl (s_cmp (lt_of rfl) rfl rfl rfl) ?_
 refine tr_nil ?_
 refine tr_if rfl (fun c4 => ?_) (fun c4 => ?_)
 ·have h := cond_tt c4 h
  refine tr_seq ?_
  refine tr_region ?_
  refine tr1 rfl (s_assign (v := .d (.lit (.int .i64 0))) (lt_of rfl) rfl rfl) ?_
  refine tr1 rfl (s_assign (v := .d (.lit (.int .i64 80))) (lt_of rfl) rfl rfl) ?_
  refine tr_nil ?_
  have h := Option.some.inj h
  subst h
  refine tr_ent (ent_free (ble_keep (l := [4, 5]) ⟨rfl, rfl, trivial⟩)) ?_
  exact tr_ret ⟨rfl, _, .two _ _, rfl, rfl⟩
 ·have h := cond_ff c4 h
  refine tr_skip ?_
  refine tr_seq ?_
  refine tr_seq ?_
  refine tr_region ?_
  refine tr1 rfl (s_loada_bp (lt_of rfl) rfl (i := 0) rfl agg_25 (es := (encApiProgram p_0)) rfl rfl) ?_
  refine tr1 rfl (s_move (v := .d (.sl 3 (old_1.map encApiSeat))) (lt_of rfl) rfl rfl) ?_
  obtain ⟨r5, h6, h⟩ := bind_some h
  refine tr1 rfl (s_call (lt_of rfl) (.func _ _ Try.call31) rfl rfl (BVs.refl _ _) (deuceref08_IsOld_c _ _ h6) rfl) ?_
  refine tr1 rfl (s_not (lt_of rfl) rfl) ?_
  refine tr_nil ?_
  refine tr_if rfl (fun c7 => ?_) (fun c7 => ?_)
  ·have h := cond_tt c7 h
   refine tr_seq ?_
   refine tr_region ?_
   refine tr1 rfl (s_assign (v := .d (.lit (.int .i64 0))) (lt_of rfl) rfl rfl) ?_
   refine tr1 rfl (s_assign (v := .d (.lit (.int .i64 81))) (lt_of rfl) rfl rfl) ?_
   refine tr_nil ?_
   have h := Option.some.inj h
   subst h
   refine tr_ent (ent_free (ble_keep (l := [4, 5]) ⟨rfl, rfl, trivial⟩)) ?_
   exact tr_ret ⟨rfl, _, .two _ _, rfl, rfl⟩
  ·have h := cond_ff c7 h
   refine tr_skip ?_
   refine tr_seq ?_
   refine tr_region ?_
   refine tr1 rfl (s_loada_bp (lt_of rfl) rfl (i := 0) rfl agg_25 (es := (encApiProgram p_0)) rfl rfl) ?_
   refine tr1 rfl (s_move (v := .d (.sl 3 (old_1.map encApiSeat))) (lt_of rfl) rfl rfl) ?_
   refine tr1 rfl (s_field_bp (lt_of rfl) rfl fld_25_0) ?_
   refine tr1 rfl (s_load_bp (lt_of rfl) rfl (i := 0) rfl rfl one_22) ?_
   refine tr1 rfl (s_lenm (lt_of rfl) rfl sl_22.of) ?_
   refine tr1 rfl (s_field_bp (lt_of rfl) rfl fld_25_2) ?_
   refine tr1 rfl (s_load_bp (lt_of rfl) rfl (i := 0) rfl rfl one_23) ?_
   refine tr1 rfl (s_lenm (lt_of rfl) rfl sl_23.of) ?_
   refine tr1 rfl (s_arith (lt_of rfl) rfl rfl rfl) ?_
   obtain ⟨r8, h9, h⟩ := bind_some h
   refine tr1 rfl (s_call (lt_of rfl) (.func _ _ Try.call71) rfl rfl (.cons (.same _) (.cons (.d (.nil 3)) (.cons (.same _) (.cons (.same _) (.cons (.same _) .nil))))) (deuceref08_fewest_c _ _ _ _ _ h9) rfl) ?_
   refine tr1 rfl (s_assign (v := .d (.lit (.int .i64 r8))) (lt_of rfl) rfl rfl) ?_
   refine tr_nil ?_
   refine tr_seq ?_
   refine tr_seq ?_
   refine tr_region ?_
   refine tr1 rfl (s_move (v := .d (.lit (.int .i64 r8))) (lt_of rfl) rfl rfl) ?_
   refine tr1 rfl (s_field_bp (lt_of rfl) rfl fld_25_2) ?_
   refine tr1 rfl (s_load_bp (lt_of rfl) rfl (i := 0) rfl rfl one_23) ?_
   refine tr1 rfl (s_lenm (lt_of rfl) rfl sl_23.of) ?_
   refine tr1 rfl (s_cmp (lt_of rfl) rfl rfl rfl) ?_
   refine tr_nil ?_
   refine tr_if rfl (fun c10 => ?_) (fun c10 => ?_)
   ·have h := cond_tt c10 h
    refine tr_seq ?_
    refine tr_region ?_
    refine tr1 rfl (s_assign (v := .d (.lit (.int .i64 0))) (lt_of rfl) rfl rfl) ?_
    refine tr1 rfl (s_assign (v := .d (.lit (.int .i64 3))) (lt_of rfl) rfl rfl) ?_
    refine tr_nil ?_
    have h := Option.some.inj h
    subst h
    refine tr_ent (ent_free (ble_keep (l := [4, 5]) ⟨rfl, rfl, trivial⟩)) ?_
    exact tr_ret ⟨rfl, _, .two _ _, rfl, rfl⟩
   ·have h := cond_ff c10 h
    refine tr_skip ?_
    refine tr_seq ?_
    refine tr_region ?_
    refine tr1 rfl (s_move (v := .d (.lit (.int .i64 r8))) (lt_of rfl) rfl rfl) ?_
    refine tr1 rfl (s_assign (v := .d (.lit (.int .i64 r8))) (lt_of rfl) rfl rfl) ?_
    refine tr1 rfl (s_assign (v := .d (.lit (.int .i64 0))) (lt_of rfl) rfl rfl) ?_
    refine tr_nil ?_
    have h := Option.some.inj h
    subst h
    refine tr_ent (ent_free (ble_keep (l := [4, 5]) ⟨rfl, rfl, trivial⟩)) ?_
    exact tr_ret ⟨rfl, _, .two _ _, rfl, rfl⟩

theorem play_due_1_c (l_0 : List Int) (c_1 : List Int) (c_2 : List Int) {r : (List Int)} (h : play_due_1 l_0 c_1 c_2 = some r) : Fn Try.prog 93 [.d (.sl 1 (l_0.map encI)), .cp [.sl 1 (c_1.map encI)], .cp [.sl 1 (c_2.map encI)]] (.d (.sl 1 (r.map encI))) := by
 unfold play_due_1 at h
 refine Fn.of_tr Try.func93 rfl (rs := [.tmp 4]) Try.results93 Try.ntmps93 (Nat.le_of_ble_eq_true rfl) ?_
 refine tr_seq ?_
 refine tr_region ?_
 refine tr1 rfl (s_nil 1 (lt_of rfl)) ?_
 refine tr_nil ?_
 refine tr_seq ?_
 refine tr_region ?_
 refine tr1 rfl (s_nil_arr 3 1 (.inl rfl) (lt_of rfl)) ?_
 refine tr_nil ?_
 refine tr_seq ?_
 refine tr_seq ?_
 refine tr_region ?_
 refine tr1 rfl (s_move (v := .d (.sl 1 (l_0.map encI))) (lt_of rfl) rfl rfl) ?_
 refine tr1 rfl (s_lenm (lt_of rfl) rfl sl_27.of) ?_
 refine tr1 rfl (s_move (v := .d (.lit (.int .i64 0))) (lt_of rfl) rfl rfl) ?_
 refine tr_nil ?_
 refine tr_blk ?_
 refine tr_loopk [1, 2, 8, 9] (fun (s2 : Int × (List Int) × Value) => [(5, .d (.lit s2.2.2)), (10, .d (.lit (.int .i64 s2.1)))]) (fun (s2 : Int × (List Int) × Value) => [.arr s2.2.2 3 1 (s2.2.1.map encI)]) (fun (k : Nat) (s2 : Int × (List Int) × Value) => play_due_1_L0 c_1 c_2 l_0 (l_0.length : Int) k s2.1 s2.2.1) (fun _ => rfl) (0, ([] : List Int), (.slice none 0 0)) h (ent_pick [0] rfl rfl (le_upd rfl (le_upd rfl (le_keep ⟨rfl, rfl, rfl, rfl, trivial⟩)))) ?_
 rintro k4 ⟨t10_0_2, out_0_2, w3⟩ h
 simp only [play_due_1_L0] at h
 refine tr_seq ?_
 refine tr_region ?_
 refine tr1 rfl (s_cmp (lt_of rfl) rfl rfl rfl) ?_
 refine tr_nil ?_
 refine tr_seq ?_
 refine tr_if rfl (fun c5 => ?_) (fun c5 => ?_)
 ·have h := cond_tt c5 h
  refine tr_skip ?_
  refine tr_seq ?_
  refine tr_blk ?_
  refine tr_seq ?_
  refine tr_region ?_
  obtain ⟨x6, h7, h⟩ := bind_some h
  refine tr1 rfl (s_index_sl (lt_of rfl) rfl rfl sl_27.of (idx_map encI h7)) ?_
  refine tr1 rfl (s_load_cp (lt_of rfl) rfl one_3) ?_
  refine tr1 rfl (s_assign (v := .d (.lit (.int .i64 x6))) (lt_of rfl) rfl rfl) ?_
  refine tr_nil ?_
  refine tr_seq ?_
  refine tr_region ?_
  refine tr1 rfl (s_load_cp (lt_of rfl) rfl one_27) ?_
  refine tr1 rfl (s_move (v := .d (.lit (.int .i64 x6))) (lt_of rfl) rfl rfl) ?_
  obtain ⟨x8, h9, h⟩ := bind_some h
  refine tr1 rfl (s_index_sl (lt_of rfl) rfl rfl sl_27.of (idx_map encI h9)) ?_
  refine tr1 rfl (s_load_cp (lt_of rfl) rfl one_3) ?_
  refine tr1 rfl (s_cmp (lt_of rfl) rfl rfl rfl) ?_
  refine tr_nil ?_
  refine tr_if rfl (fun c10 => ?_) (fun c10 => ?_)
  ·have h := cond_tt c10 h
   refine tr_region ?_
   refine tr1 rfl (s_move (v := .d (.lit w3)) (lt_of rfl) rfl rfl) ?_
   refine tr1 rfl (s_load_cp (lt_of rfl) rfl one_27) ?_
   refine tr1 rfl (s_move (v := .d (.lit (.int .i64 x6))) (lt_of rfl) rfl rfl) ?_
   obtain ⟨x11, h12, h⟩ := bind_some h
   refine tr1 rfl (s_index_sl (lt_of rfl) rfl rfl sl_27.of (idx_map encI h12)) ?_
   refine tr1 rfl (s_load_cp (lt_of rfl) rfl one_3) ?_
   refine tr1 rfl (s_lit_sl (lt_of rfl) sl_27 rfl rfl (rows := ([x11]).map encI) rfl (map_len (f := encI) fun _ => rfl) rfl (by decide)) ?_
   obtain ⟨x13, h14, h⟩ := bind_some h
   refine tr_op rfl (s_appendm (i := 0) (lt_of rfl) sl_27 rfl rfl rfl (fun _ => rfl) h14 rfl) ?_
   rintro _ ⟨v15, rfl⟩
   refine tr1 rfl (s_assign (v := .d (.lit v15)) (lt_of rfl) rfl rfl) ?_
   refine tr_nilb ?_
   refine tr_region ?_
   refine tr1 rfl (s_arith (lt_of rfl) rfl rfl rfl) ?_
   refine tr1 rfl (s_move (v := .d (.lit (.int .i64 ((w64 (t10_0_2 + 1)))))) (lt_of rfl) rfl rfl) ?_
   refine tr_nil ?_
   exact ⟨(w64 (t10_0_2 + 1), x13, v15), h, ent_pick [0] rfl rfl (le_upd rfl (le_upd rfl (le_keep ⟨rfl, rfl, rfl, rfl, trivial⟩)))⟩
  ·have h := cond_ff c10 h
   refine tr_skipb ?_
   refine tr_region ?_
   refine tr1 rfl (s_arith (lt_of rfl) rfl rfl rfl) ?_
   refine tr1 rfl (s_move (v := .d (.lit (.int .i64 ((w64 (t10_0_2 + 1)))))) (lt_of rfl) rfl rfl) ?_
   refine tr_nil ?_
   exact ⟨(w64 (t10_0_2 + 1), out_0_2, w3), h, ent_pick [0] rfl rfl (le_upd rfl (le_upd rfl (le_keep ⟨rfl, rfl, rfl, rfl, trivial⟩)))⟩
 ·have h := cond_ff c5 h
  refine tr_exit ?_
  refine .inl ⟨rfl, ?_⟩
  simp only [play_due_1_K0] at h
  refine tr_seq ?_
  refine tr_region ?_
  refine tr1 rfl (s_move (v := .d (.lit w3)) (lt_of rfl) rfl rfl) ?_
  refine tr1 rfl (s_assign (v := .d (.lit w3)) (lt_of rfl) rfl rfl) ?_
  refine tr_nil ?_
  have h := Option.some.inj h
  subst h
  refine tr_ent (ent_free (ble_upd (k := 4) (v := .d (.sl 1 (out_0_2.map encI))) (.d (dv_arr 0 rfl (map_len (f := encI) fun _ => rfl))) (ble_emp))) ?_
  exact tr_ret ⟨rfl, _, .one _, rfl, rfl⟩

theorem play_due_c (p_0 : ApiProgram) (day_1 : Int) {r : ApiProgram} (h : play_due p_0 day_1 = some r) : Fn Try.prog 72 [.agg (encApiProgram p_0), .d (.lit (.int .i64 day_1))] (.agg (encApiProgram r)) := by
 unfold play_due at h
 refine acalls_of_trw Try.func72 rfl (rs := [.cell 4 25]) Try.results72 Try.ntmps72 (Nat.le_of_ble_eq_true rfl) ?_
 refine tr_seq ?_
 refine tr_region ?_
 refine tr_op rfl (s_box (v := .agg (encApiProgram p_0)) (lt_of rfl) rfl rfl rfl) ?_
 rintro _ ⟨b1, rfl⟩
 refine tr_op rfl (s_alloc (zs := [.sl 1 ((([] : List (List ApiSpan))).map encSl_ApiSpan), .lit (.int .i64 0), .sl 6 ((([] : List ApiJob)).map encApiJob)]) (lt_of rfl) Try.zeroValue25 rfl rfl) ?_
 rintro _ ⟨b2, rfl⟩
 refine tr_nil ?_
 refine tr_seq ?_
 refine tr_region ?_
 refine tr1 rfl (s_field_bp (lt_of rfl) rfl fld_25_2) ?_
 refine tr1 rfl (s_load_bp (lt_of rfl) rfl (i := 0) rfl rfl one_23) ?_
 refine tr1 rfl (s_lenm (lt_of rfl) rfl sl_23.of) ?_
 obtain ⟨x3, h4, h⟩ := bind_some h
 refine tr_op rfl (s_make (zs := [.lit (.int .i64 0)]) (lt_of rfl) sl_27 rfl rfl rfl rfl (mk_map encI h4) (lt_of rfl)) ?_
 rintro _ ⟨v5, rfl⟩
 refine tr_op rfl (s_alloc (zs := [.lit (.slice none 0 0)]) (lt_of rfl) Try.zeroValue27 rfl rfl) ?_
 rintro _ ⟨b6, rfl⟩
 refine trl_ent (ent_nilarr 3 1) ?_
 refine tr1 rfl (s_store_bp (i := 3) rfl rfl rfl rfl rfl Try.sizeOf27 rfl (lt_of rfl) (Nat.le_of_ble_eq_true rfl) (ds' := [.lit v5]) rfl) ?_
 refine tr_nil ?_
 refine tr_seq ?_
 refine tr_seq ?_
 refine tr_region ?_
 refine tr1 rfl (s_field_bp (lt_of rfl) rfl fld_25_2) ?_
 refine tr1 rfl (s_load_bp (lt_of rfl) rfl (i := 0) rfl rfl one_23) ?_
 refine tr1 rfl (s_lenm (lt_of rfl) rfl sl_23.of) ?_
 refine tr1 rfl (s_arith (lt_of rfl) rfl rfl rfl) ?_
 refine tr1 rfl (s_assign (v := .d (.lit (.int .i64 ((w64 ((p_0.Jobs.length : Int) - 1)))))) (lt_of rfl) rfl rfl) ?_
 refine tr_nil ?_
 refine tr_blk ?_
 refine tr_loopk [1, 2, 4, 5] (fun (s7 : Int × (List Int) × Value) => [(6, .d (.lit (.int .i64 s7.1)))]) (fun (s7 : Int × (List Int) × Value) => [.box b1 0 (encApiProgram p_0), .box b2 0 (encApiProgram (ApiProgram.mk ([] : List (List ApiSpan)) 0 ([] : List ApiJob))), .box b6 0 [.lit s7.2.2], .arr s7.2.2 3 1 (s7.2.1.map encI)]) (fun (k : Nat) (s7 : Int × (List Int) × Value) => play_due_L0 day_1 p_0 (ApiProgram.mk ([] : List (List ApiSpan)) 0 ([] : List ApiJob)) k s7.1 s7.2.1) (fun _ => rfl) (w64 ((p_0.Jobs.length : Int) - 1), x3, v5) h (ent_pick [0, 1, 3, 2] rfl rfl (le_upd rfl (le_keep ⟨rfl, rfl, rfl, rfl, trivial⟩))) ?_
 rintro k9 ⟨i_0_7, o20_0_7, w8⟩ h
 simp only [play_due_L0] at h
 refine tr_seq ?_
 refine tr_seq ?_
 refine tr_region ?_
 refine tr1 rfl (s_move (v := .d (.lit (.int .i64 i_0_7))) (lt_of rfl) rfl rfl) ?_
 refine tr1 rfl (s_cmp (lt_of rfl) rfl rfl rfl) ?_
 refine tr_nil ?_
 refine tr_if rfl (fun c10 => ?_) (fun c10 => ?_)
 ·have h := cond_tt c10 h
  refine tr_skip ?_
  refine tr_seq ?_
  refine tr_blk ?_
  refine tr_seq ?_
  refine tr_seq ?_
  refine tr_region ?_
  refine tr1 rfl (s_field_bp (lt_of rfl) rfl fld_25_2) ?_
  refine tr1 rfl (s_load_bp (lt_of rfl) rfl (i := 0) rfl rfl one_23) ?_
  refine tr1 rfl (s_move (v := .d (.lit (.int .i64 i_0_7))) (lt_of rfl) rfl rfl) ?_
  obtain ⟨x11, h12, h⟩ := bind_some h
  refine tr1 rfl (s_index_sl (lt_of rfl) rfl rfl sl_23.of (idx_map encApiJob h12)) ?_
  refine tr1 rfl (s_field_cp (lt_of rfl) rfl fld_36_3 (es := [.lit (.int .i64 x11.Due)]) rfl) ?_
  refine tr1 rfl (s_load_cp (lt_of rfl) rfl one_3) ?_
  refine tr1 rfl (s_move (v := .d (.lit (.int .i64 day_1))) (lt_of rfl) rfl rfl) ?_
  refine tr1 rfl (s_cmp (lt_of rfl) rfl rfl rfl) ?_
  refine tr_nil ?_
  refine tr_if rfl (fun c13 => ?_) (fun c13 => ?_)
  ·have h := cond_tt c13 h
   refine tr_region ?_
   refine tr1 rfl (s_load_bp (lt_of rfl) rfl (i := 2) rfl rfl one_27) ?_
   refine tr1 rfl (s_move (v := .d (.lit (.int .i64 i_0_7))) (lt_of rfl) rfl rfl) ?_
   obtain ⟨x14, h15, h⟩ := bind_some h
   refine tr1 rfl (s_index_arr (m := 3) (lt_of rfl) rfl rfl rfl sl_27.of (idx_map encI h15)) ?_
   refine tr1 rfl (s_store_ep (l := 3) rfl rfl (row_of encI h15) rfl rfl rfl Try.sizeOf3 rfl (lt_of rfl) (Nat.le_of_ble_eq_true rfl) (rows' := ((o20_0_7.set i_0_7.toNat 1)).map encI) (set_map _ _ _ _ rfl)) ?_
   refine tr_nil ?_
   refine tr_seq ?_
   refine tr_region ?_
   refine tr1 rfl (s_load_bp (lt_of rfl) rfl (i := 2) rfl rfl one_27) ?_
   refine tr1 rfl (s_move (v := .d (.lit (.int .i64 i_0_7))) (lt_of rfl) rfl rfl) ?_
   obtain ⟨x16, h17, h⟩ := bind_some h
   refine tr1 rfl (s_index_arr (m := 3) (lt_of rfl) rfl rfl rfl sl_27.of (idx_map encI h17)) ?_
   refine tr1 rfl (s_load_ep (lt_of rfl) rfl (m := 3) rfl (row_of encI h17) rfl one_3) ?_
   refine tr1 rfl (s_cmp (lt_of rfl) rfl rfl rfl) ?_
   refine tr_nil ?_
   refine tr_if rfl (fun c18 => ?_) (fun c18 => ?_)
   ·have h := cond_tt c18 h
    refine tr_seq ?_
    refine tr_region ?_
    refine tr1 rfl (s_field_bp (lt_of rfl) rfl fld_25_2) ?_
    refine tr1 rfl (s_load_bp (lt_of rfl) rfl (i := 0) rfl rfl one_23) ?_
    refine tr1 rfl (s_move (v := .d (.lit (.int .i64 i_0_7))) (lt_of rfl) rfl rfl) ?_
    obtain ⟨x19, h20, h⟩ := bind_some h
    refine tr1 rfl (s_index_sl (lt_of rfl) rfl rfl sl_23.of (idx_map encApiJob h20)) ?_
    refine tr1 rfl (s_field_cp (lt_of rfl) rfl fld_36_1 (es := [.sl 1 (x19.After.map encI)]) rfl) ?_
    refine tr1 rfl (s_load_cp (lt_of rfl) rfl one_27) ?_
    refine tr1 rfl (s_lenm (lt_of rfl) rfl sl_27.of) ?_
    refine tr1 rfl (s_move (v := .d (.lit (.int .i64 0))) (lt_of rfl) rfl rfl) ?_
    refine tr_nil ?_
    refine tr_blkb ?_
    refine tr_loopk [1, 2, 4, 5, 6, 50, 51] (fun (s21 : Int × (List Int) × Value) => [(52, .d (.lit (.int .i64 s21.1)))]) (fun (s21 : Int × (List Int) × Value) => [.box b1 0 (encApiProgram p_0), .box b2 0 (encApiProgram (ApiProgram.mk ([] : List (List ApiSpan)) 0 ([] : List ApiJob))), .box b6 0 [.lit s21.2.2], .arr s21.2.2 3 1 (s21.2.1.map encI)]) (fun (k : Nat) (s21 : Int × (List Int) × Value) => play_due_L2 (play_due_L0 day_1 p_0 (ApiProgram.mk ([] : List (List ApiSpan)) 0 ([] : List ApiJob)) k9) day_1 i_0_7 x19.After (x19.After.length : Int) p_0 (ApiProgram.mk ([] : List (List ApiSpan)) 0 ([] : List ApiJob)) k s21.1 s21.2.1) (fun _ => rfl) (0, (o20_0_7.set i_0_7.toNat 1), w8) h (ent_pick [0, 1, 2, 3] rfl rfl (le_upd rfl (le_keep ⟨rfl, rfl, rfl, rfl, rfl, rfl, rfl, trivial⟩))) ?_
    rintro k23 ⟨t52_2_21, o20_2_21, w22⟩ h
    simp only [play_due_L2] at h
    refine tr_seq ?_
    refine tr_region ?_
    refine tr1 rfl (s_cmp (lt_of rfl) rfl rfl rfl) ?_
    refine tr_nil ?_
    refine tr_seq ?_
    refine tr_if rfl (fun c24 => ?_) (fun c24 => ?_)
    ·have h := cond_tt c24 h
     refine tr_skip ?_
     refine tr_seq ?_
     refine tr_blk ?_
     refine tr_seq ?_
     refine tr_region ?_
     obtain ⟨x25, h26, h⟩ := bind_some h
     refine tr1 rfl (s_index_sl (lt_of rfl) rfl rfl sl_27.of (idx_map encI h26)) ?_
     refine tr1 rfl (s_load_cp (lt_of rfl) rfl one_3) ?_
     refine tr1 rfl (s_assign (v := .d (.lit (.int .i64 x25))) (lt_of rfl) rfl rfl) ?_
     refine tr_nil ?_
     refine tr_region ?_
     refine tr1 rfl (s_load_bp (lt_of rfl) rfl (i := 2) rfl rfl one_27) ?_
     refine tr1 rfl (s_move (v := .d (.lit (.int .i64 x25))) (lt_of rfl) rfl rfl) ?_
     obtain ⟨x27, h28, h⟩ := bind_some h
     refine tr1 rfl (s_index_arr (m := 3) (lt_of rfl) rfl rfl rfl sl_27.of (idx_map encI h28)) ?_
     refine tr1 rfl (s_store_ep (l := 3) rfl rfl (row_of encI h28) rfl rfl rfl Try.sizeOf3 rfl (lt_of rfl) (Nat.le_of_ble_eq_true rfl) (rows' := ((o20_2_21.set x25.toNat 1)).map encI) (set_map _ _ _ _ rfl)) ?_
     refine tr_nilb ?_
     refine tr_region ?_
     refine tr1 rfl (s_arith (lt_of rfl) rfl rfl rfl) ?_
     refine tr1 rfl (s_move (v := .d (.lit (.int .i64 ((w64 (t52_2_21 + 1)))))) (lt_of rfl) rfl rfl) ?_
     refine tr_nil ?_
     exact ⟨(w64 (t52_2_21 + 1), (o20_2_21.set x25.toNat 1), w22), h, ent_pick [0, 1, 2, 3] rfl rfl (le_upd rfl (le_keep ⟨rfl, rfl, rfl, rfl, rfl, rfl, rfl, trivial⟩))⟩
    ·have h := cond_ff c24 h
     refine tr_exit ?_
     refine .inl ⟨rfl, ?_⟩
     simp only [play_due_K2] at h
     simp only [play_due_K1] at h
     refine tr_region ?_
     refine tr1 rfl (s_move (v := .d (.lit (.int .i64 i_0_7))) (lt_of rfl) rfl rfl) ?_
     refine tr1 rfl (s_arith (lt_of rfl) rfl rfl rfl) ?_
     refine tr1 rfl (s_assign (v := .d (.lit (.int .i64 ((w64 (i_0_7 - 1)))))) (lt_of rfl) rfl rfl) ?_
     refine tr_nil ?_
     exact ⟨(w64 (i_0_7 - 1), o20_2_21, w22), h, ent_pick [0, 1, 2, 3] rfl rfl (le_upd rfl (le_keep ⟨rfl, rfl, rfl, rfl, trivial⟩))⟩
   ·have h := cond_ff c18 h
    refine tr_skipb ?_
    simp only [play_due_K1] at h
    refine tr_region ?_
    refine tr1 rfl (s_move (v := .d (.lit (.int .i64 i_0_7))) (lt_of rfl) rfl rfl) ?_
    refine tr1 rfl (s_arith (lt_of rfl) rfl rfl rfl) ?_
    refine tr1 rfl (s_assign (v := .d (.lit (.int .i64 ((w64 (i_0_7 - 1)))))) (lt_of rfl) rfl rfl) ?_
    refine tr_nil ?_
    exact ⟨(w64 (i_0_7 - 1), (o20_0_7.set i_0_7.toNat 1), w8), h, ent_pick [0, 1, 2, 3] rfl rfl (le_upd rfl (le_keep ⟨rfl, rfl, rfl, rfl, trivial⟩))⟩
  ·have h := cond_ff c13 h
   refine tr_skip ?_
   refine tr_seq ?_
   refine tr_region ?_
   refine tr1 rfl (s_load_bp (lt_of rfl) rfl (i := 2) rfl rfl one_27) ?_
   refine tr1 rfl (s_move (v := .d (.lit (.int .i64 i_0_7))) (lt_of rfl) rfl rfl) ?_
   obtain ⟨x29, h30, h⟩ := bind_some h
   refine tr1 rfl (s_index_arr (m := 3) (lt_of rfl) rfl rfl rfl sl_27.of (idx_map encI h30)) ?_
   refine tr1 rfl (s_load_ep (lt_of rfl) rfl (m := 3) rfl (row_of encI h30) rfl one_3) ?_
   refine tr1 rfl (s_cmp (lt_of rfl) rfl rfl rfl) ?_
   refine tr_nil ?_
   refine tr_if rfl (fun c31 => ?_) (fun c31 => ?_)
   ·have h := cond_tt c31 h
    refine tr_seq ?_
    refine tr_region ?_
    refine tr1 rfl (s_field_bp (lt_of rfl) rfl fld_25_2) ?_
    refine tr1 rfl (s_load_bp (lt_of rfl) rfl (i := 0) rfl rfl one_23) ?_
    refine tr1 rfl (s_move (v := .d (.lit (.int .i64 i_0_7))) (lt_of rfl) rfl rfl) ?_
    obtain ⟨x32, h33, h⟩ := bind_some h
    refine tr1 rfl (s_index_sl (lt_of rfl) rfl rfl sl_23.of (idx_map encApiJob h33)) ?_
    refine tr1 rfl (s_field_cp (lt_of rfl) rfl fld_36_1 (es := [.sl 1 (x32.After.map encI)]) rfl) ?_
    refine tr1 rfl (s_load_cp (lt_of rfl) rfl one_27) ?_
    refine tr1 rfl (s_lenm (lt_of rfl) rfl sl_27.of) ?_
    refine tr1 rfl (s_move (v := .d (.lit (.int .i64 0))) (lt_of rfl) rfl rfl) ?_
    refine tr_nil ?_
    refine tr_blkb ?_
    refine tr_loopk [1, 2, 4, 5, 6, 50, 51] (fun (s34 : Int × (List Int) × Value) => [(52, .d (.lit (.int .i64 s34.1)))]) (fun (s34 : Int × (List Int) × Value) => [.box b1 0 (encApiProgram p_0), .box b2 0 (encApiProgram (ApiProgram.mk ([] : List (List ApiSpan)) 0 ([] : List ApiJob))), .box b6 0 [.lit s34.2.2], .arr s34.2.2 3 1 (s34.2.1.map encI)]) (fun (k : Nat) (s34 : Int × (List Int) × Value) => play_due_L2 (play_due_L0 day_1 p_0 (ApiProgram.mk ([] : List (List ApiSpan)) 0 ([] : List ApiJob)) k9) day_1 i_0_7 x32.After (x32.After.length : Int) p_0 (ApiProgram.mk ([] : List (List ApiSpan)) 0 ([] : List ApiJob)) k s34.1 s34.2.1) (fun _ => rfl) (0, o20_0_7, w8) h (ent_pick [0, 1, 2, 3] rfl rfl (le_upd rfl (le_keep ⟨rfl, rfl, rfl, rfl, rfl, rfl, rfl, trivial⟩))) ?_
    rintro k36 ⟨t52_2_34, o20_2_34, w35⟩ h
    simp only [play_due_L2] at h
    refine tr_seq ?_
    refine tr_region ?_
    refine tr1 rfl (s_cmp (lt_of rfl) rfl rfl rfl) ?_
    refine tr_nil ?_
    refine tr_seq ?_
    refine tr_if rfl (fun c37 => ?_) (fun c37 => ?_)
    ·have h := cond_tt c37 h
     refine tr_skip ?_
     refine tr_seq ?_
     refine tr_blk ?_
     refine tr_seq ?_
     refine tr_region ?_
     obtain ⟨x38, h39, h⟩ := bind_some h
     refine tr1 rfl (s_index_sl (lt_of rfl) rfl rfl sl_27.of (idx_map encI h39)) ?_
     refine tr1 rfl (s_load_cp (lt_of rfl) rfl one_3) ?_
     refine tr1 rfl (s_assign (v := .d (.lit (.int .i64 x38))) (lt_of rfl) rfl rfl) ?_
     refine tr_nil ?_
     refine tr_region ?_
     refine tr1 rfl (s_load_bp (lt_of rfl) rfl (i := 2) rfl rfl one_27) ?_
     refine tr1 rfl (s_move (v := .d (.lit (.int .i64 x38))) (lt_of rfl) rfl rfl) ?_
     obtain ⟨x40, h41, h⟩ := bind_some h
     refine tr1 rfl (s_index_arr (m := 3) (lt_of rfl) rfl rfl rfl sl_27.of (idx_map encI h41)) ?_
     refine tr1 rfl (s_store_ep (l := 3) rfl rfl (row_of encI h41) rfl rfl rfl Try.sizeOf3 rfl (lt_of rfl) (Nat.le_of_ble_eq_true rfl) (rows' := ((o20_2_34.set x38.toNat 1)).map encI) (set_map _ _ _ _ rfl)) ?_
     refine tr_nilb ?_
     refine tr_region ?_
     refine tr1 rfl (s_arith (lt_of rfl) rfl rfl rfl) ?_
     refine tr1 rfl (s_move (v := .d (.lit (.int .i64 ((w64 (t52_2_34 + 1)))))) (lt_of rfl) rfl rfl) ?_
     refine tr_nil ?_
     exact ⟨(w64 (t52_2_34 + 1), (o20_2_34.set x38.toNat 1), w35), h, ent_pick [0, 1, 2, 3] rfl rfl (le_upd rfl (le_keep ⟨rfl, rfl, rfl, rfl, rfl, rfl, rfl, trivial⟩))⟩
    ·have h := cond_ff c37 h
     refine tr_exit ?_
     refine .inl ⟨rfl, ?_⟩
     simp only [play_due_K2] at h
     simp only [play_due_K1] at h
     refine tr_region ?_
     refine tr1 rfl (s_move (v := .d (.lit (.int .i64 i_0_7))) (lt_of rfl) rfl rfl) ?_
     refine tr1 rfl (s_arith (lt_of rfl) rfl rfl rfl) ?_
     refine tr1 rfl (s_assign (v := .d (.lit (.int .i64 ((w64 (i_0_7 - 1)))))) (lt_of rfl) rfl rfl) ?_
     refine tr_nil ?_
     exact ⟨(w64 (i_0_7 - 1), o20_2_34, w35), h, ent_pick [0, 1, 2, 3] rfl rfl (le_upd rfl (le_keep ⟨rfl, rfl, rfl, rfl, trivial⟩))⟩
   ·have h := cond_ff c31 h
    refine tr_skipb ?_
    simp only [play_due_K1] at h
    refine tr_region ?_
    refine tr1 rfl (s_move (v := .d (.lit (.int .i64 i_0_7))) (lt_of rfl) rfl rfl) ?_
    refine tr1 rfl (s_arith (lt_of rfl) rfl rfl rfl) ?_
    refine tr1 rfl (s_assign (v := .d (.lit (.int .i64 ((w64 (i_0_7 - 1)))))) (lt_of rfl) rfl rfl) ?_
    refine tr_nil ?_
    exact ⟨(w64 (i_0_7 - 1), o20_0_7, w8), h, ent_pick [0, 1, 2, 3] rfl rfl (le_upd rfl (le_keep ⟨rfl, rfl, rfl, rfl, trivial⟩))⟩
 ·have h := cond_ff c10 h
  refine tr_exit ?_
  refine .inl ⟨rfl, ?_⟩
  simp only [play_due_K0] at h
  refine tr_seq ?_
  refine tr_region ?_
  refine tr1 rfl (s_field_bp (lt_of rfl) rfl fld_25_2) ?_
  refine tr1 rfl (s_load_bp (lt_of rfl) rfl (i := 0) rfl rfl one_23) ?_
  refine tr1 rfl (s_lenm (lt_of rfl) rfl sl_23.of) ?_
  obtain ⟨x42, h43, h⟩ := bind_some h
  refine tr_op rfl (s_make (zs := [.lit (.int .i64 0)]) (lt_of rfl) sl_27 rfl rfl rfl rfl (mk_map encI h43) (lt_of rfl)) ?_
  rintro _ ⟨v44, rfl⟩
  refine tr_op rfl (s_alloc (zs := [.lit (.slice none 0 0)]) (lt_of rfl) Try.zeroValue27 rfl rfl) ?_
  rintro _ ⟨b45, rfl⟩
  refine trl_ent (ent_nilarr 3 1) ?_
  refine tr1 rfl (s_store_bp (i := 5) rfl rfl rfl rfl rfl Try.sizeOf27 rfl (lt_of rfl) (Nat.le_of_ble_eq_true rfl) (ds' := [.lit v44]) rfl) ?_
  refine tr_nil ?_
  refine tr_seq ?_
  refine tr_region ?_
  refine tr1 rfl (s_assign (v := .d (.lit (.int .i64 0))) (lt_of rfl) rfl rfl) ?_
  refine tr_nil ?_
  refine tr_seq ?_
  refine tr_seq ?_
  refine tr_region ?_
  refine tr1 rfl (s_load_bp (lt_of rfl) rfl (i := 2) rfl rfl one_27) ?_
  refine tr1 rfl (s_lenm_arr (m := 3) (lt_of rfl) rfl rfl sl_27.of) ?_
  refine tr1 rfl (s_move (v := .d (.lit (.int .i64 0))) (lt_of rfl) rfl rfl) ?_
  refine tr_nil ?_
  refine tr_blk ?_
  refine tr_loopk [2, 4, 5, 9, 64, 65] (fun (s46 : Int × Int × (List Int) × Value) => [(10, .d (.lit (.int .i64 s46.1))), (66, .d (.lit (.int .i64 s46.2.1)))]) (fun (s46 : Int × Int × (List Int) × Value) => [.box b1 0 (encApiProgram p_0), .box b2 0 (encApiProgram (ApiProgram.mk ([] : List (List ApiSpan)) 0 ([] : List ApiJob))), .box b6 0 [.lit w8], .box b45 0 [.lit s46.2.2.2], .arr w8 3 1 (o20_0_7.map encI), .arr s46.2.2.2 3 1 (s46.2.2.1.map encI)]) (fun (k : Nat) (s46 : Int × Int × (List Int) × Value) => play_due_L4 (o20_0_7.length : Int) p_0 (ApiProgram.mk ([] : List (List ApiSpan)) 0 ([] : List ApiJob)) o20_0_7 k s46.1 s46.2.1 s46.2.2.1) (fun _ => rfl) (0, 0, x42, v44) h (ent_pick [0, 1, 2, 5, 3, 4] rfl rfl (le_upd rfl (le_upd rfl (le_keep ⟨rfl, rfl, rfl, rfl, rfl, rfl, trivial⟩)))) ?_
  rintro k48 ⟨many_4_46, t66_4_46, o63_4_46, w47⟩ h
  simp only [play_due_L4] at h
  refine tr_seq ?_
  refine tr_region ?_
  refine tr1 rfl (s_cmp (lt_of rfl) rfl rfl rfl) ?_
  refine tr_nil ?_
  refine tr_seq ?_
  refine tr_if rfl (fun c49 => ?_) (fun c49 => ?_)
  ·have h := cond_tt c49 h
   refine tr_skip ?_
   refine tr_seq ?_
   refine tr_blk ?_
   refine tr_seq ?_
   refine tr_region ?_
   refine tr1 rfl (s_move (v := .d (.lit (.int .i64 t66_4_46))) (lt_of rfl) rfl rfl) ?_
   obtain ⟨x50, h51, h⟩ := bind_some h
   refine tr1 rfl (s_index_arr (m := 4) (lt_of rfl) rfl rfl rfl sl_27.of (idx_map encI h51)) ?_
   refine tr1 rfl (s_load_ep (lt_of rfl) rfl (m := 4) rfl (row_of encI h51) rfl one_3) ?_
   refine tr1 rfl (s_assign (v := .d (.lit (.int .i64 t66_4_46))) (lt_of rfl) rfl rfl) ?_
   refine tr1 rfl (s_assign (v := .d (.lit (.int .i64 x50))) (lt_of rfl) rfl rfl) ?_
   refine tr_nil ?_
   refine tr_seq ?_
   refine tr_region ?_
   refine tr1 rfl (s_load_bp (lt_of rfl) rfl (i := 3) rfl rfl one_27) ?_
   refine tr1 rfl (s_move (v := .d (.lit (.int .i64 t66_4_46))) (lt_of rfl) rfl rfl) ?_
   refine tr1 rfl (s_move (v := .d (.lit (.int .i64 many_4_46))) (lt_of rfl) rfl rfl) ?_
   obtain ⟨x52, h53, h⟩ := bind_some h
   refine tr1 rfl (s_index_arr (m := 5) (lt_of rfl) rfl rfl rfl sl_27.of (idx_map encI h53)) ?_
   refine tr1 rfl (s_store_ep (l := 5) rfl rfl (row_of encI h53) rfl rfl rfl Try.sizeOf3 rfl (lt_of rfl) (Nat.le_of_ble_eq_true rfl) (rows' := ((o63_4_46.set t66_4_46.toNat many_4_46)).map encI) (set_map _ _ _ _ rfl)) ?_
   refine tr_nil ?_
   refine tr_region ?_
   refine tr1 rfl (s_move (v := .d (.lit (.int .i64 many_4_46))) (lt_of rfl) rfl rfl) ?_
   refine tr1 rfl (s_move (v := .d (.lit (.int .i64 x50))) (lt_of rfl) rfl rfl) ?_
   refine tr1 rfl (s_arith (lt_of rfl) rfl rfl rfl) ?_
   refine tr1 rfl (s_assign (v := .d (.lit (.int .i64 ((w64 (many_4_46 + x50)))))) (lt_of rfl) rfl rfl) ?_
   refine tr_nilb ?_
   refine tr_region ?_
   refine tr1 rfl (s_arith (lt_of rfl) rfl rfl rfl) ?_
   refine tr1 rfl (s_move (v := .d (.lit (.int .i64 ((w64 (t66_4_46 + 1)))))) (lt_of rfl) rfl rfl) ?_
   refine tr_nil ?_
   exact ⟨(w64 (many_4_46 + x50), w64 (t66_4_46 + 1), (o63_4_46.set t66_4_46.toNat many_4_46), w47), h, ent_pick [0, 1, 2, 3, 4, 5] rfl rfl (le_upd rfl (le_upd rfl (le_keep ⟨rfl, rfl, rfl, rfl, rfl, rfl, trivial⟩)))⟩
  ·have h := cond_ff c49 h
   refine tr_exit ?_
   refine .inl ⟨rfl, ?_⟩
   simp only [play_due_K4] at h
   refine tr_seq ?_
   refine tr_region ?_
   refine tr1 rfl (s_func (lt_of rfl) rfl rfl) ?_
   refine tr1 rfl (s_assign (v := .fn 93 [.bp b6 0 0, .bp b45 0 0]) (lt_of rfl) rfl rfl) ?_
   refine tr_nil ?_
   refine tr_seq ?_
   refine tr_region ?_
   refine tr1 rfl (s_loada_bp (lt_of rfl) rfl (i := 0) rfl agg_25 (es := (encApiProgram p_0)) rfl rfl) ?_
   refine tr_op rfl (s_alloc (zs := [.sl 1 ((([] : List (List ApiSpan))).map encSl_ApiSpan), .lit (.int .i64 0), .lit (.slice none 0 0)]) (lt_of rfl) Try.zeroValue25 rfl rfl) ?_
   rintro _ ⟨b54, rfl⟩
   refine trl_ent (ent_nilarr 36 6) ?_
   refine tr1 rfl (s_store_bp (i := 6) rfl rfl rfl rfl rfl Try.sizeOf25 rfl (lt_of rfl) (Nat.le_of_ble_eq_true rfl) (ds' := (encApiProgram p_0)) rfl) ?_
   refine tr_nil ?_
   refine tr_seq ?_
   refine tr_region ?_
   refine tr1 rfl (s_field_bp (lt_of rfl) rfl fld_25_2) ?_
   refine trl_ent (ent_nilarr 36 6) ?_
   refine tr1 rfl (s_store_bp (i := 6) rfl rfl rfl rfl rfl Try.sizeOf23 rfl (lt_of rfl) (Nat.le_of_ble_eq_true rfl) (ds' := [.sl 1 (p_0.Days.map encSl_ApiSpan), .lit (.int .i64 p_0.Rest), .lit (.slice none 0 0)]) rfl) ?_
   refine tr_nil ?_
   refine tr_seq ?_
   refine tr_seq ?_
   refine tr_region ?_
   refine tr1 rfl (s_field_bp (lt_of rfl) rfl fld_25_2) ?_
   refine tr1 rfl (s_load_bp (lt_of rfl) rfl (i := 0) rfl rfl one_23) ?_
   refine tr1 rfl (s_lenm (lt_of rfl) rfl sl_23.of) ?_
   refine tr1 rfl (s_move (v := .d (.lit (.int .i64 0))) (lt_of rfl) rfl rfl) ?_
   refine tr_nil ?_
   refine tr_blk ?_
   refine tr_ent (ent_pick [0, 1, 6, 7, 8, 2, 3, 4, 5] rfl rfl (le_refl _)) ?_
   refine tr_ent (ent_let [.box b1 0 (encApiProgram p_0), .box b2 0 (encApiProgram (ApiProgram.mk ([] : List (List ApiSpan)) 0 ([] : List ApiJob))), .box b54 0 [.sl 1 (p_0.Days.map encSl_ApiSpan), .lit (.int .i64 p_0.Rest), .lit (.slice none 0 0)], .arr (.slice none 0 0) 36 6 (([] : List ApiJob).map encApiJob), .arr (.slice none 0 0) 36 6 (([] : List ApiJob).map encApiJob)] [.box b6 0 [.lit w8], .box b45 0 [.lit w47], .arr w8 3 1 (o20_0_7.map encI), .arr w47 3 1 (o63_4_46.map encI)] rfl (ble_upd (k := 79) (v := .fn 93 [.cp [.sl 1 (o20_0_7.map encI)], .cp [.sl 1 (o63_4_46.map encI)]]) ((bv_fn (.cons ((bv_bp 0 rfl rfl (dvc (dv_arr 2 rfl (map_len (f := encI) fun _ => rfl)) dvn))) (.cons ((bv_bp 1 rfl rfl (dvc (dv_arr 3 rfl (map_len (f := encI) fun _ => rfl)) dvn))) .nil)))) (ble_upd (k := 64) (v := .d (.sl 1 (o20_0_7.map encI))) (.d (dv_arr 2 rfl (map_len (f := encI) fun _ => rfl))) (ble_upd (k := 13) (v := .fn 93 [.cp [.sl 1 (o20_0_7.map encI)], .cp [.sl 1 (o63_4_46.map encI)]]) ((bv_fn (.cons ((bv_bp 0 rfl rfl (dvc (dv_arr 2 rfl (map_len (f := encI) fun _ => rfl)) dvn))) (.cons ((bv_bp 1 rfl rfl (dvc (dv_arr 3 rfl (map_len (f := encI) fun _ => rfl)) dvn))) .nil)))) (ble_upd (k := 9) (v := .cp [.sl 1 (o63_4_46.map encI)]) ((bv_bp 1 rfl rfl (dvc (dv_arr 3 rfl (map_len (f := encI) fun _ => rfl)) dvn))) (ble_upd (k := 5) (v := .cp [.sl 1 (o20_0_7.map encI)]) ((bv_bp 0 rfl rfl (dvc (dv_arr 2 rfl (map_len (f := encI) fun _ => rfl)) dvn))) (ble_refl _ _))))))) ?_
   refine tr_loopk [4, 5, 13, 14, 83, 84] (fun (s56 : Int × (List ApiJob) × (List (List ApiSpan)) × Int × Value) => [(85, .d (.lit (.int .i64 s56.1)))]) (fun (s56 : Int × (List ApiJob) × (List (List ApiSpan)) × Int × Value) => [.box b2 0 (encApiProgram (ApiProgram.mk ([] : List (List ApiSpan)) 0 ([] : List ApiJob))), .arr s56.2.2.2.2 36 6 (s56.2.1.map encApiJob), .box b54 0 [.sl 1 (s56.2.2.1.map encSl_ApiSpan), .lit (.int .i64 s56.2.2.2.1), .lit s56.2.2.2.2]]) (fun (k : Nat) (s56 : Int × (List ApiJob) × (List (List ApiSpan)) × Int × Value) => play_due_L6 o20_0_7 o20_0_7 o63_4_46 p_0.Jobs (p_0.Jobs.length : Int) (ApiProgram.mk ([] : List (List ApiSpan)) 0 ([] : List ApiJob)) k s56.1 s56.2.1 s56.2.2.1 s56.2.2.2.1) (fun _ => rfl) (0, ([] : List ApiJob), p_0.Days, p_0.Rest, (.slice none 0 0)) h (ent_pick [1, 4, 2] rfl rfl (le_upd rfl (le_keep ⟨rfl, rfl, rfl, rfl, rfl, rfl, trivial⟩))) ?_
   rintro k58 ⟨t85_6_56, o_6_56, o_6_56_2, o_6_56_3, w57⟩ h
   simp only [play_due_L6] at h
   refine tr_seq ?_
   refine tr_region ?_
   refine tr1 rfl (s_cmp (lt_of rfl) rfl rfl rfl) ?_
   refine tr_nil ?_
   refine tr_seq ?_
   refine tr_if rfl (fun c59 => ?_) (fun c59 => ?_)
   ·have h := cond_tt c59 h
    refine tr_skip ?_
    refine tr_seq ?_
    refine tr_blk ?_
    refine tr_seq ?_
    refine tr_region ?_
    refine tr1 rfl (s_move (v := .d (.lit (.int .i64 t85_6_56))) (lt_of rfl) rfl rfl) ?_
    obtain ⟨x60, h61, h⟩ := bind_some h
    refine tr1 rfl (s_index_sl (lt_of rfl) rfl rfl sl_23.of (idx_map encApiJob h61)) ?_
    refine tr1 rfl (s_loada_cp (lt_of rfl) rfl agg_36 (es := (encApiJob x60)) rfl rfl) ?_
    refine tr_op rfl (s_alloc (zs := [.lit (.int .i64 0), .lit (.int .i64 0), .sl 1 ((([] : List Int)).map encI), .sl 1 ((([] : List Int)).map encI), .lit (.int .i64 0), .lit (.int .i64 0)]) (lt_of rfl) Try.zeroValue36 rfl rfl) ?_
    rintro _ ⟨b62, rfl⟩
    refine tr1 rfl (s_assign (v := .d (.lit (.int .i64 t85_6_56))) (lt_of rfl) rfl rfl) ?_
    refine tr1 rfl (s_store_bp (i := 3) rfl rfl rfl rfl rfl Try.sizeOf36 rfl (lt_of rfl) (Nat.le_of_ble_eq_true rfl) (ds' := (encApiJob x60)) rfl) ?_
    refine tr_nil ?_
    refine tr_seq ?_
    refine tr_region ?_
    refine tr1 rfl (s_load_cp (lt_of rfl) rfl one_27) ?_
    refine tr1 rfl (s_move (v := .d (.lit (.int .i64 t85_6_56))) (lt_of rfl) rfl rfl) ?_
    obtain ⟨x63, h64, h⟩ := bind_some h
    refine tr1 rfl (s_index_sl (lt_of rfl) rfl rfl sl_27.of (idx_map encI h64)) ?_
    refine tr1 rfl (s_load_cp (lt_of rfl) rfl one_3) ?_
    refine tr1 rfl (s_cmp (lt_of rfl) rfl rfl rfl) ?_
    refine tr_nil ?_
    refine tr_if rfl (fun c65 => ?_) (fun c65 => ?_)
    ·have h := cond_tt c65 h
     refine tr_seq ?_
     obtain ⟨r66, h67, h⟩ := bind_some h
     obtain ⟨r68, h69, h⟩ := bind_some h
     refine tr_drawk mix 9 [4, 5, 13, 14, 16, 83, 84, 85] [(98, .d (.sl 1 (r66.map encI))), (102, .d (.sl 1 (r68.map encI))), (103, .bp b62 0 2)] ?_ ?_
     ·refine ⟨[(95, 0, .fn 93 [.cp [.sl 1 (o20_0_7.map encI)], .cp [.sl 1 (o63_4_46.map encI)]]), (96, 1, .bp b62 0 2), (97, 2, .d (.sl 1 (x60.After.map encI))), (98, 3, .d (.sl 1 (r66.map encI))), (99, 4, .fn 93 [.cp [.sl 1 (o20_0_7.map encI)], .cp [.sl 1 (o63_4_46.map encI)]]), (100, 5, .bp b62 0 3), (101, 6, .d (.sl 1 (x60.With.map encI))), (102, 7, .d (.sl 1 (r68.map encI))), (103, 8, .bp b62 0 2)], ?_, ?_⟩
      · exact ⟨by kernel_rfl, by kernel_rfl, by kernel_rfl, by kernel_rfl, by kernel_rfl, [([], []), ([], []), ([1], []), ([0, 2], []), ([], []), ([], []), ([5], []), ([4, 6], []), ([], [])], by kernel_rfl, ⟨fun S hS => g_fin rfl (g_op rfl (s_move (v := .fn 93 [.cp [.sl 1 (o20_0_7.map encI)], .cp [.sl 1 (o63_4_46.map encI)]]) (lt_of rfl) (ov_ev hS rfl) rfl)),
      fun S hS => g_fin rfl (g_op rfl (s_field_bp (lt_of rfl) (ov_ev hS rfl) fld_36_1)),
      fun S hS => g_fin rfl (g_op rfl (s_load_bp (lt_of rfl) (ov_ev hS rfl) (i := 3) rfl rfl one_27)),
      fun S hS => g_fin rfl (g_op rfl (s_callf (lt_of rfl) (.clo _ _ _ _ Try.call93 (ov_en hS rfl)) (evap (ev2 (ov_ev hS rfl) evn)) rfl (play_due_1_c _ _ _ h67))),
      fun S hS => g_fin rfl (g_op rfl (s_move (v := .fn 93 [.cp [.sl 1 (o20_0_7.map encI)], .cp [.sl 1 (o63_4_46.map encI)]]) (lt_of rfl) (ov_ev hS rfl) rfl)),
      fun S hS => g_fin rfl (g_op rfl (s_field_bp (lt_of rfl) (ov_ev hS rfl) fld_36_2)),
      fun S hS => g_fin rfl (g_op rfl (s_load_bp (lt_of rfl) (ov_ev hS rfl) (i := 3) rfl rfl one_27)),
      fun S hS => g_fin rfl (g_op rfl (s_callf (lt_of rfl) (.clo _ _ _ _ Try.call93 (ov_en hS rfl)) (evap (ev2 (ov_ev hS rfl) evn)) rfl (play_due_1_c _ _ _ h69))),
      fun S hS => g_fin rfl (g_op rfl (s_field_bp (lt_of rfl) (ov_ev hS rfl) fld_36_1)), trivial⟩⟩
      · exact ent_le (le_upd rfl (le_upd rfl (le_upd rfl (le_keep ⟨rfl, rfl, rfl, rfl, rfl, rfl, rfl, rfl, trivial⟩))))
     ·refine tr1 rfl (s_store_bp (i := 3) rfl rfl rfl rfl rfl Try.sizeOf27 rfl (lt_of rfl) (Nat.le_of_ble_eq_true rfl) (ds' := (encApiJob (ApiJob.mk x60.Length r66 x60.With x60.Due x60.Earliest))) rfl) ?_
      refine tr1 rfl (s_field_bp (lt_of rfl) rfl fld_36_2) ?_
      refine tr1 rfl (s_store_bp (i := 3) rfl rfl rfl rfl rfl Try.sizeOf27 rfl (lt_of rfl) (Nat.le_of_ble_eq_true rfl) (ds' := (encApiJob (ApiJob.mk x60.Length r66 r68 x60.Due x60.Earliest))) rfl) ?_
      refine tr_nil ?_
      refine tr_region ?_
      refine tr1 rfl (s_field_bp (lt_of rfl) rfl fld_25_2) ?_
      refine tr1 rfl (s_load_bp (lt_of rfl) rfl (i := 2) rfl rfl one_23) ?_
      refine tr1 rfl (s_loada_bp (lt_of rfl) rfl (i := 3) rfl agg_36 (es := (encApiJob (ApiJob.mk x60.Length r66 r68 x60.Due x60.Earliest))) rfl rfl) ?_
      refine tr1 rfl (s_lit_sl (lt_of rfl) sl_23 rfl rfl (rows := ([(ApiJob.mk x60.Length r66 r68 x60.Due x60.Earliest)]).map encApiJob) rfl (map_len (f := encApiJob) fun _ => rfl) rfl (by decide)) ?_
      obtain ⟨x70, h71, h⟩ := bind_some h
      refine tr_op rfl (s_appendm (i := 1) (lt_of rfl) sl_23 rfl rfl rfl (fun _ => rfl) h71 rfl) ?_
      rintro _ ⟨v72, rfl⟩
      refine tr1 rfl (s_field_bp (lt_of rfl) rfl fld_25_2) ?_
      refine tr1 rfl (s_store_bp (i := 2) rfl rfl rfl rfl rfl Try.sizeOf23 rfl (lt_of rfl) (Nat.le_of_ble_eq_true rfl) (ds' := [.sl 1 (o_6_56_2.map encSl_ApiSpan), .lit (.int .i64 o_6_56_3), .lit v72]) rfl) ?_
      refine tr_nilb ?_
      refine tr_region ?_
      refine tr1 rfl (s_arith (lt_of rfl) rfl rfl rfl) ?_
      refine tr1 rfl (s_move (v := .d (.lit (.int .i64 ((w64 (t85_6_56 + 1)))))) (lt_of rfl) rfl rfl) ?_
      refine tr_nil ?_
      exact ⟨(w64 (t85_6_56 + 1), x70, o_6_56_2, o_6_56_3, v72), h, ent_pick [0, 1, 2] rfl rfl (le_upd rfl (le_keep ⟨rfl, rfl, rfl, rfl, rfl, rfl, trivial⟩))⟩
    ·have h := cond_ff c65 h
     refine tr_skipb ?_
     refine tr_region ?_
     refine tr1 rfl (s_arith (lt_of rfl) rfl rfl rfl) ?_
     refine tr1 rfl (s_move (v := .d (.lit (.int .i64 ((w64 (t85_6_56 + 1)))))) (lt_of rfl) rfl rfl) ?_
     refine tr_nil ?_
     exact ⟨(w64 (t85_6_56 + 1), o_6_56, o_6_56_2, o_6_56_3, w57), h, ent_pick [0, 1, 2] rfl rfl (le_upd rfl (le_keep ⟨rfl, rfl, rfl, rfl, rfl, rfl, trivial⟩))⟩
   ·have h := cond_ff c59 h
    refine tr_exit ?_
    refine .inl ⟨rfl, ?_⟩
    simp only [play_due_K6] at h
    refine tr_seq ?_
    refine tr_region ?_
    refine tr1 rfl (s_loada_bp (lt_of rfl) rfl (i := 2) rfl agg_25 (es := [.sl 1 (o_6_56_2.map encSl_ApiSpan), .lit (.int .i64 o_6_56_3), .lit w57]) rfl rfl) ?_
    refine tr1 rfl (s_store_bp (i := 0) rfl rfl rfl rfl rfl Try.sizeOf25 rfl (lt_of rfl) (Nat.le_of_ble_eq_true rfl) (ds' := [.sl 1 (o_6_56_2.map encSl_ApiSpan), .lit (.int .i64 o_6_56_3), .lit w57]) rfl) ?_
    refine tr_nil ?_
    have h := Option.some.inj h
    subst h
    exact tr_ret ⟨rfl, _, [.box b2 0 [.sl 1 (o_6_56_2.map encSl_ApiSpan), .lit (.int .i64 o_6_56_3), .lit w57], .arr w57 36 6 (o_6_56.map encApiJob), .box b54 0 [.sl 1 (o_6_56_2.map encSl_ApiSpan), .lit (.int .i64 o_6_56_3), .lit w57]], .one (.cell 4 25 rfl (i := 0) rfl agg_25 (es := [.sl 1 (o_6_56_2.map encSl_ApiSpan), .lit (.int .i64 o_6_56_3), .lit w57]) rfl rfl), .refl _, .agg (dvc (.same _) (dvc (.same _) (dvc (dv_arr 1 rfl (map_len (f := encApiJob) fun _ => rfl)) dvn)))⟩

theorem play_Stuck_c (p_0 : ApiProgram) {r : Int × Int} (h : play_Stuck p_0 = some r) : Fn Try.prog 39 [.agg (encApiProgram p_0)] (.tup [.d (.lit (.int .i64 r.1)), .d (.lit (.int .i64 r.2))]) := by
 unfold play_Stuck at h
 refine Fn.of_tr Try.func39 rfl (rs := [.tmp 2, .tmp 3]) Try.results39 Try.ntmps39 (Nat.le_of_ble_eq_true rfl) ?_
 refine tr_seq ?_
 refine tr_region ?_
 refine tr_op rfl (s_box (v := .agg (encApiProgram p_0)) (lt_of rfl) rfl rfl rfl) ?_
 rintro _ ⟨b1, rfl⟩
 refine tr1 rfl (s_assign (v := .d (.lit (.int .i64 0))) (lt_of rfl) rfl rfl) ?_
 refine tr1 rfl (s_assign (v := .d (.lit (.int .i64 0))) (lt_of rfl) rfl rfl) ?_
 refine tr_nil ?_
 refine tr_seq ?_
 refine tr_seq ?_
 refine tr_region ?_
 refine tr1 rfl (s_loada_bp (lt_of rfl) rfl (i := 0) rfl agg_25 (es := (encApiProgram p_0)) rfl rfl) ?_
 obtain ⟨r2, h3, h⟩ := bind_some h
 refine tr1 rfl (s_call (lt_of rfl) (.func _ _ Try.call25) rfl rfl (BVs.refl _ _) (play_Check_c _ h3) rfl) ?_
 refine tr1 rfl (s_assign (v := .d (.lit (.int .i64 r2))) (lt_of rfl) rfl rfl) ?_
 refine tr_nil ?_
 refine tr_seq ?_
 refine tr_region ?_
 refine tr1 rfl (s_move (v := .d (.lit (.int .i64 r2))) (lt_of rfl) rfl rfl) ?_
 refine tr1 rfl (s_cmp (lt_of rfl) rfl rfl rfl) ?_
 refine tr_nil ?_
 refine tr_if rfl (fun c4 => ?_) (fun c4 => ?_)
 ·have h := cond_tt c4 h
  refine tr_seq ?_
  refine tr_region ?_
  refine tr1 rfl (s_move (v := .d (.lit (.int .i64 r2))) (lt_of rfl) rfl rfl) ?_
  refine tr1 rfl (s_assign (v := .d (.lit (.int .i64 0))) (lt_of rfl) rfl rfl) ?_
  refine tr1 rfl (s_assign (v := .d (.lit (.int .i64 r2))) (lt_of rfl) rfl rfl) ?_
  refine tr_nil ?_
  have h := Option.some.inj h
  subst h
  refine tr_ent (ent_free (ble_keep (l := [2, 3]) ⟨rfl, rfl, trivial⟩)) ?_
  exact tr_ret ⟨rfl, _, .two _ _, rfl, rfl⟩
 ·have h := cond_ff c4 h
  refine tr_skip ?_
  refine tr_seq ?_
  refine tr_seq ?_
  refine tr_region ?_
  refine tr1 rfl (s_move (v := .d (.lit (.int .i64 0))) (lt_of rfl) rfl rfl) ?_
  refine tr_nil ?_
  refine tr_blk ?_
  refine tr_loopk [1] (fun (s5 : Int) => [(14, .d (.lit (.int .i64 s5)))]) (fun (s5 : Int) => [.box b1 0 (encApiProgram p_0)]) (fun (k : Nat) (s5 : Int) => play_Stuck_L0 p_0 k s5) (fun _ => rfl) (0) h (ent_pick [0] rfl rfl (le_upd rfl (le_keep ⟨rfl, trivial⟩))) ?_
  rintro k6 t14_0_5 h
  simp only [play_Stuck_L0] at h
  refine tr_seq ?_
  refine tr_region ?_
  refine tr1 rfl (s_cmp (lt_of rfl) rfl rfl rfl) ?_
  refine tr_nil ?_
  refine tr_seq ?_
  refine tr_if rfl (fun c7 => ?_) (fun c7 => ?_)
  ·have h := cond_tt c7 h
   refine tr_skip ?_
   refine tr_seq ?_
   refine tr_blk ?_
   refine tr_seq ?_
   refine tr_region ?_
   refine tr1 rfl (s_move (v := .d (.lit (.int .i64 t14_0_5))) (lt_of rfl) rfl rfl) ?_
   refine tr1 rfl (s_assign (v := .d (.lit (.int .i64 t14_0_5))) (lt_of rfl) rfl rfl) ?_
   refine tr_nil ?_
   refine tr_seq ?_
   refine tr_region ?_
   refine tr1 rfl (s_loada_bp (lt_of rfl) rfl (i := 0) rfl agg_25 (es := (encApiProgram p_0)) rfl rfl) ?_
   refine tr1 rfl (s_move (v := .d (.lit (.int .i64 t14_0_5))) (lt_of rfl) rfl rfl) ?_
   obtain ⟨r8, h9, h⟩ := bind_some h
   refine tr1 rfl (s_callf (lt_of rfl) (.func _ _ Try.call72) rfl rfl (play_due_c _ _ h9)) ?_
   obtain ⟨r10, h11, h⟩ := bind_some h
   refine tr1 rfl (s_callf (lt_of rfl) (.func _ _ Try.call56) rfl rfl (play_best_c _ h11)) ?_
   refine tr1 rfl (s_move (v := .tup [.d (.lit (.int .i64 r10.1)), .d (.sl 3 (r10.2.1.map encApiSeat)), .d (.lit (.bool r10.2.2))]) (lt_of rfl) rfl rfl) ?_
   refine tr1 rfl (s_extract (lt_of rfl) rfl rfl) ?_
   refine tr1 rfl (s_extract (lt_of rfl) rfl rfl) ?_
   refine tr1 rfl (s_extract (lt_of rfl) rfl rfl) ?_
   refine tr1 rfl (s_assign (v := .d (.lit (.int .i64 r10.1))) (lt_of rfl) rfl rfl) ?_
   refine tr1 rfl (s_assign (v := .d (.sl 3 (r10.2.1.map encApiSeat))) (lt_of rfl) rfl rfl) ?_
   refine tr1 rfl (s_assign (v := .d (.lit (.bool r10.2.2))) (lt_of rfl) rfl rfl) ?_
   refine tr_nil ?_
   refine tr_seq ?_
   refine tr_region ?_
   refine tr1 rfl (s_move (v := .d (.lit (.bool r10.2.2))) (lt_of rfl) rfl rfl) ?_
   refine tr1 rfl (s_not (lt_of rfl) rfl) ?_
   refine tr_nil ?_
   refine tr_if rfl (fun c12 => ?_) (fun c12 => ?_)
   ·have h := cond_tt c12 h
    refine tr_seq ?_
    refine tr_region ?_
    refine tr1 rfl (s_move (v := .d (.lit (.int .i64 t14_0_5))) (lt_of rfl) rfl rfl) ?_
    refine tr1 rfl (s_assign (v := .d (.lit (.int .i64 t14_0_5))) (lt_of rfl) rfl rfl) ?_
    refine tr1 rfl (s_assign (v := .d (.lit (.int .i64 0))) (lt_of rfl) rfl rfl) ?_
    refine tr_nil ?_
    have h := Option.some.inj h
    subst h
    refine tr_ent (ent_free (ble_keep (l := [2, 3]) ⟨rfl, rfl, trivial⟩)) ?_
    exact tr_ret ⟨rfl, _, .two _ _, rfl, rfl⟩
   ·have h := cond_ff c12 h
    refine tr_skipb ?_
    refine tr_region ?_
    refine tr1 rfl (s_arith (lt_of rfl) rfl rfl rfl) ?_
    refine tr1 rfl (s_move (v := .d (.lit (.int .i64 ((w64 (t14_0_5 + 1)))))) (lt_of rfl) rfl rfl) ?_
    refine tr_nil ?_
    exact ⟨(w64 (t14_0_5 + 1)), h, ent_pick [0] rfl rfl (le_upd rfl (le_keep ⟨rfl, trivial⟩))⟩
  ·have h := cond_ff c7 h
   refine tr_exit ?_
   refine .inl ⟨rfl, ?_⟩
   simp only [play_Stuck_K0] at h
   refine tr_seq ?_
   refine tr_region ?_
   refine tr1 rfl (s_assign (v := .d (.lit (.int .i64 (-1)))) (lt_of rfl) rfl rfl) ?_
   refine tr1 rfl (s_assign (v := .d (.lit (.int .i64 0))) (lt_of rfl) rfl rfl) ?_
   refine tr_nil ?_
   have h := Option.some.inj h
   subst h
   refine tr_ent (ent_free (ble_keep (l := [2, 3]) ⟨rfl, rfl, trivial⟩)) ?_
   exact tr_ret ⟨rfl, _, .two _ _, rfl, rfl⟩

theorem deuceref08_needed_c (p_0 : ApiProgram) (day_1 : Int) {r : (List Int)} (h : deuceref08_needed p_0 day_1 = some r) : Fn Try.prog 74 [.agg (encApiProgram p_0), .d (.lit (.int .i64 day_1))] (.d (.sl 1 (r.map encI))) := by
 unfold deuceref08_needed at h
 refine Fn.of_tr Try.func74 rfl (rs := [.tmp 4]) Try.results74 Try.ntmps74 (Nat.le_of_ble_eq_true rfl) ?_
 refine tr_seq ?_
 refine tr_region ?_
 refine tr_op rfl (s_box (v := .agg (encApiProgram p_0)) (lt_of rfl) rfl rfl rfl) ?_
 rintro _ ⟨b1, rfl⟩
 refine tr1 rfl (s_nil 1 (lt_of rfl)) ?_
 refine tr_nil ?_
 refine tr_seq ?_
 refine tr_region ?_
 refine tr1 rfl (s_field_bp (lt_of rfl) rfl fld_25_2) ?_
 refine tr1 rfl (s_load_bp (lt_of rfl) rfl (i := 0) rfl rfl one_23) ?_
 refine tr1 rfl (s_lenm (lt_of rfl) rfl sl_23.of) ?_
 obtain ⟨x2, h3, h⟩ := bind_some h
 refine tr_op rfl (s_make (zs := [.lit (.bool false)]) (lt_of rfl) sl_135 rfl rfl rfl rfl (mk_map encB h3) (lt_of rfl)) ?_
 rintro _ ⟨v4, rfl⟩
 refine tr1 rfl (s_assign (v := .d (.lit v4)) (lt_of rfl) rfl rfl) ?_
 refine tr_nil ?_
 refine tr_seq ?_
 refine tr_seq ?_
 refine tr_region ?_
 refine tr1 rfl (s_field_bp (lt_of rfl) rfl fld_25_2) ?_
 refine tr1 rfl (s_load_bp (lt_of rfl) rfl (i := 0) rfl rfl one_23) ?_
 refine tr1 rfl (s_lenm (lt_of rfl) rfl sl_23.of) ?_
 refine tr1 rfl (s_arith (lt_of rfl) rfl rfl rfl) ?_
 refine tr1 rfl (s_assign (v := .d (.lit (.int .i64 ((w64 ((p_0.Jobs.length : Int) - 1)))))) (lt_of rfl) rfl rfl) ?_
 refine tr_nil ?_
 refine tr_blk ?_
 refine tr_loopk [1, 2] (fun (s5 : Int × (List Bool) × Value) => [(5, .d (.lit s5.2.2)), (6, .d (.lit (.int .i64 s5.1)))]) (fun (s5 : Int × (List Bool) × Value) => [.box b1 0 (encApiProgram p_0), .arr s5.2.2 4 1 (s5.2.1.map encB)]) (fun (k : Nat) (s5 : Int × (List Bool) × Value) => deuceref08_needed_L0 day_1 p_0 k s5.1 s5.2.1) (fun _ => rfl) (w64 ((p_0.Jobs.length : Int) - 1), x2, v4) h (ent_pick [0, 1] rfl rfl (le_upd rfl (le_upd rfl (le_keep ⟨rfl, rfl, trivial⟩)))) ?_
 rintro k7 ⟨i_0_5, o13_0_5, w6⟩ h
 simp only [deuceref08_needed_L0] at h
 refine tr_seq ?_
 refine tr_seq ?_
 refine tr_region ?_
 refine tr1 rfl (s_move (v := .d (.lit (.int .i64 i_0_5))) (lt_of rfl) rfl rfl) ?_
 refine tr1 rfl (s_cmp (lt_of rfl) rfl rfl rfl) ?_
 refine tr_nil ?_
 refine tr_if rfl (fun c8 => ?_) (fun c8 => ?_)
 ·have h := cond_tt c8 h
  refine tr_skip ?_
  refine tr_seq ?_
  refine tr_blk ?_
  refine tr_seq ?_
  refine tr_region ?_
  refine tr1 rfl (s_move (v := .d (.lit w6)) (lt_of rfl) rfl rfl) ?_
  refine tr1 rfl (s_move (v := .d (.lit (.int .i64 i_0_5))) (lt_of rfl) rfl rfl) ?_
  refine tr1 rfl (s_move (v := .d (.lit w6)) (lt_of rfl) rfl rfl) ?_
  refine tr1 rfl (s_move (v := .d (.lit (.int .i64 i_0_5))) (lt_of rfl) rfl rfl) ?_
  obtain ⟨x9, h10, h⟩ := bind_some h
  refine tr1 rfl (s_index_arr (m := 1) (lt_of rfl) rfl rfl rfl sl_135.of (idx_map encB h10)) ?_
  refine tr1 rfl (s_load_ep (lt_of rfl) rfl (m := 1) rfl (row_of encB h10) rfl one_4) ?_
  refine tr1 rfl (s_move (v := .d (.lit (.bool x9))) (lt_of rfl) rfl rfl) ?_
  obtain ⟨b11, h12, h⟩ := bind_some h
  refine tr_guard 9 [1, 2, 5, 6, 22, 23] 37 b11 ?_ ?_
  ·refine bool_cases (x9) (fun c32 => ?_) (fun c32 => ?_)
   ·have h12 := cond_tt c32 h12
    refine tr_pass rfl rfl (lt_of rfl) rfl (lt_of rfl) rfl c32 ?_
    refine tr_pass rfl rfl (lt_of rfl) rfl (lt_of rfl) rfl c32 ?_
    refine tr_pass rfl rfl (lt_of rfl) rfl (lt_of rfl) rfl c32 ?_
    refine tr_pass rfl rfl (lt_of rfl) rfl (lt_of rfl) rfl c32 ?_
    refine tr_pass rfl rfl (lt_of rfl) rfl (lt_of rfl) rfl c32 ?_
    refine tr_pass rfl rfl (lt_of rfl) rfl (lt_of rfl) rfl c32 ?_
    refine tr_pass rfl rfl (lt_of rfl) rfl (lt_of rfl) rfl c32 ?_
    refine tr_pass rfl rfl (lt_of rfl) rfl (lt_of rfl) rfl c32 ?_
    refine tr1 rfl (s_pick_t (v := .d (.lit (.bool true))) (lt_of rfl) rfl c32 rfl rfl) ?_
    have h12 := Option.some.inj h12
    subst h12
    refine tr_nil (ent_keep rfl ⟨rfl, rfl, rfl, rfl, rfl, rfl, trivial⟩ rfl)
   ·have h12 := cond_ff c32 h12
    refine tr_take1 rfl rfl (lt_of rfl) rfl c32 (s_field_bp (lt_of rfl) rfl fld_25_2) ?_
    refine tr_take1 rfl rfl (lt_of rfl) rfl c32 (s_load_bp (lt_of rfl) rfl (i := 0) rfl rfl one_23) ?_
    refine tr_take1 rfl rfl (lt_of rfl) rfl c32 (s_move (v := .d (.lit (.int .i64 i_0_5))) (lt_of rfl) rfl rfl) ?_
    obtain ⟨x33, h34, h12⟩ := bind_some h12
    refine tr_take1 rfl rfl (lt_of rfl) rfl c32 (s_index_sl (lt_of rfl) rfl rfl sl_23.of (idx_map encApiJob h34)) ?_
    refine tr_take1 rfl rfl (lt_of rfl) rfl c32 (s_field_cp (lt_of rfl) rfl fld_36_3 (es := [.lit (.int .i64 x33.Due)]) rfl) ?_
    refine tr_take1 rfl rfl (lt_of rfl) rfl c32 (s_load_cp (lt_of rfl) rfl one_3) ?_
    refine tr_take1 rfl rfl (lt_of rfl) rfl c32 (s_move (v := .d (.lit (.int .i64 day_1))) (lt_of rfl) rfl rfl) ?_
    refine tr_take1 rfl rfl (lt_of rfl) rfl c32 (s_cmp (lt_of rfl) rfl rfl rfl) ?_
    refine tr1 rfl (s_pick_f (v := .d (.lit (.bool ((decide (x33.Due ≤ day_1)))))) (lt_of rfl) rfl c32 rfl rfl) ?_
    have h12 := Option.some.inj h12
    subst h12
    refine tr_nil (ent_keep rfl ⟨rfl, rfl, rfl, rfl, rfl, rfl, trivial⟩ rfl)
  ·obtain ⟨x13, h14, h⟩ := bind_some h
   refine tr1 rfl (s_index_arr (m := 1) (lt_of rfl) rfl rfl rfl sl_135.of (idx_map encB h14)) ?_
   refine tr1 rfl (s_store_ep (l := 1) rfl rfl (row_of encB h14) rfl rfl rfl Try.sizeOf4 rfl (lt_of rfl) (Nat.le_of_ble_eq_true rfl) (rows' := ((o13_0_5.set i_0_5.toNat b11)).map encB) (set_map _ _ _ _ rfl)) ?_
   refine tr_nil ?_
   refine tr_seq ?_
   refine tr_region ?_
   refine tr1 rfl (s_assign (v := .d (.lit (.int .i64 0))) (lt_of rfl) rfl rfl) ?_
   refine tr_nil ?_
   refine tr_blkb ?_
   refine tr_loopk [1, 2, 6] (fun (s15 : Int × (List Bool) × Value) => [(5, .d (.lit s15.2.2)), (7, .d (.lit (.int .i64 s15.1)))]) (fun (s15 : Int × (List Bool) × Value) => [.box b1 0 (encApiProgram p_0), .arr s15.2.2 4 1 (s15.2.1.map encB)]) (fun (k : Nat) (s15 : Int × (List Bool) × Value) => deuceref08_needed_L2 (deuceref08_needed_L0 day_1 p_0 k7) day_1 i_0_5 p_0 k s15.1 s15.2.1) (fun _ => rfl) (0, (o13_0_5.set i_0_5.toNat b11), w6) h (ent_pick [0, 1] rfl rfl (le_upd rfl (le_upd rfl (le_keep ⟨rfl, rfl, rfl, trivial⟩)))) ?_
   rintro k17 ⟨k_2_15, o13_2_15, w16⟩ h
   simp only [deuceref08_needed_L2] at h
   refine tr_seq ?_
   refine tr_seq ?_
   refine tr_region ?_
   refine tr1 rfl (s_move (v := .d (.lit (.int .i64 k_2_15))) (lt_of rfl) rfl rfl) ?_
   refine tr1 rfl (s_field_bp (lt_of rfl) rfl fld_25_2) ?_
   refine tr1 rfl (s_load_bp (lt_of rfl) rfl (i := 0) rfl rfl one_23) ?_
   refine tr1 rfl (s_move (v := .d (.lit (.int .i64 i_0_5))) (lt_of rfl) rfl rfl) ?_
   obtain ⟨x18, h19, h⟩ := bind_some h
   refine tr1 rfl (s_index_sl (lt_of rfl) rfl rfl sl_23.of (idx_map encApiJob h19)) ?_
   refine tr1 rfl (s_field_cp (lt_of rfl) rfl fld_36_1 (es := [.sl 1 (x18.After.map encI)]) rfl) ?_
   refine tr1 rfl (s_load_cp (lt_of rfl) rfl one_27) ?_
   refine tr1 rfl (s_lenm (lt_of rfl) rfl sl_27.of) ?_
   refine tr1 rfl (s_cmp (lt_of rfl) rfl rfl rfl) ?_
   refine tr1 rfl (s_move (v := .d (.lit (.bool ((decide (k_2_15 < (x18.After.length : Int))))))) (lt_of rfl) rfl rfl) ?_
   obtain ⟨b20, h21, h⟩ := bind_some h
   refine tr_guard 5 [1, 2, 5, 6, 7] 53 b20 ?_ ?_
   ·refine bool_cases (decide (k_2_15 < (x18.After.length : Int))) (fun c29 => ?_) (fun c29 => ?_)
    ·have h21 := cond_tt c29 h21
     refine tr_take1 rfl rfl (lt_of rfl) rfl c29 (s_move (v := .d (.lit w16)) (lt_of rfl) rfl rfl) ?_
     refine tr_take1 rfl rfl (lt_of rfl) rfl c29 (s_move (v := .d (.lit (.int .i64 i_0_5))) (lt_of rfl) rfl rfl) ?_
     obtain ⟨x30, h31, h21⟩ := bind_some h21
     refine tr_take1 rfl rfl (lt_of rfl) rfl c29 (s_index_arr (m := 1) (lt_of rfl) rfl rfl rfl sl_135.of (idx_map encB h31)) ?_
     refine tr_take1 rfl rfl (lt_of rfl) rfl c29 (s_load_ep (lt_of rfl) rfl (m := 1) rfl (row_of encB h31) rfl one_4) ?_
     refine tr1 rfl (s_pick_t (v := .d (.lit (.bool x30))) (lt_of rfl) rfl c29 rfl rfl) ?_
     have h21 := Option.some.inj h21
     subst h21
     refine tr_nil (ent_keep rfl ⟨rfl, rfl, rfl, rfl, rfl, trivial⟩ rfl)
    ·have h21 := cond_ff c29 h21
     refine tr_pass rfl rfl (lt_of rfl) rfl (lt_of rfl) rfl c29 ?_
     refine tr_pass rfl rfl (lt_of rfl) rfl (lt_of rfl) rfl c29 ?_
     refine tr_pass rfl rfl (lt_of rfl) rfl (lt_of rfl) rfl c29 ?_
     refine tr_pass rfl rfl (lt_of rfl) rfl (lt_of rfl) rfl c29 ?_
     refine tr1 rfl (s_pick_f (v := .d (.lit (.bool false))) (lt_of rfl) rfl c29 rfl rfl) ?_
     have h21 := Option.some.inj h21
     subst h21
     refine tr_nil (ent_keep rfl ⟨rfl, rfl, rfl, rfl, rfl, trivial⟩ rfl)
   ·refine tr_nil ?_
    refine tr_if rfl (fun c22 => ?_) (fun c22 => ?_)
    ·have h := cond_tt c22 h
     refine tr_skip ?_
     refine tr_seq ?_
     refine tr_blk ?_
     refine tr_region ?_
     refine tr1 rfl (s_move (v := .d (.lit w16)) (lt_of rfl) rfl rfl) ?_
     refine tr1 rfl (s_field_bp (lt_of rfl) rfl fld_25_2) ?_
     refine tr1 rfl (s_load_bp (lt_of rfl) rfl (i := 0) rfl rfl one_23) ?_
     refine tr1 rfl (s_move (v := .d (.lit (.int .i64 i_0_5))) (lt_of rfl) rfl rfl) ?_
     obtain ⟨x23, h24, h⟩ := bind_some h
     refine tr1 rfl (s_index_sl (lt_of rfl) rfl rfl sl_23.of (idx_map encApiJob h24)) ?_
     refine tr1 rfl (s_field_cp (lt_of rfl) rfl fld_36_1 (es := [.sl 1 (x23.After.map encI)]) rfl) ?_
     refine tr1 rfl (s_load_cp (lt_of rfl) rfl one_27) ?_
     refine tr1 rfl (s_move (v := .d (.lit (.int .i64 k_2_15))) (lt_of rfl) rfl rfl) ?_
     obtain ⟨x25, h26, h⟩ := bind_some h
     refine tr1 rfl (s_index_sl (lt_of rfl) rfl rfl sl_27.of (idx_map encI h26)) ?_
     refine tr1 rfl (s_load_cp (lt_of rfl) rfl one_3) ?_
     obtain ⟨x27, h28, h⟩ := bind_some h
     refine tr1 rfl (s_index_arr (m := 1) (lt_of rfl) rfl rfl rfl sl_135.of (idx_map encB h28)) ?_
     refine tr1 rfl (s_store_ep (l := 1) rfl rfl (row_of encB h28) rfl rfl rfl Try.sizeOf4 rfl (lt_of rfl) (Nat.le_of_ble_eq_true rfl) (rows' := ((o13_2_15.set x25.toNat true)).map encB) (set_map _ _ _ _ rfl)) ?_
     refine tr_nilb ?_
     refine tr_region ?_
     refine tr1 rfl (s_move (v := .d (.lit (.int .i64 k_2_15))) (lt_of rfl) rfl rfl) ?_
     refine tr1 rfl (s_arith (lt_of rfl) rfl rfl rfl) ?_
     refine tr1 rfl (s_assign (v := .d (.lit (.int .i64 ((w64 (k_2_15 + 1)))))) (lt_of rfl) rfl rfl) ?_
     refine tr_nil ?_
     exact ⟨(w64 (k_2_15 + 1), (o13_2_15.set x25.toNat true), w16), h, ent_pick [0, 1] rfl rfl (le_upd rfl (le_upd rfl (le_keep ⟨rfl, rfl, rfl, trivial⟩)))⟩
    ·have h := cond_ff c22 h
     refine tr_exit ?_
     refine .inl ⟨rfl, ?_⟩
     simp only [deuceref08_needed_K2] at h
     simp only [deuceref08_needed_K1] at h
     refine tr_region ?_
     refine tr1 rfl (s_move (v := .d (.lit (.int .i64 i_0_5))) (lt_of rfl) rfl rfl) ?_
     refine tr1 rfl (s_arith (lt_of rfl) rfl rfl rfl) ?_
     refine tr1 rfl (s_assign (v := .d (.lit (.int .i64 ((w64 (i_0_5 - 1)))))) (lt_of rfl) rfl rfl) ?_
     refine tr_nil ?_
     exact ⟨(w64 (i_0_5 - 1), o13_2_15, w16), h, ent_pick [0, 1] rfl rfl (le_upd rfl (le_upd rfl (le_keep ⟨rfl, rfl, trivial⟩)))⟩
 ·have h := cond_ff c8 h
  refine tr_exit ?_
  refine .inl ⟨rfl, ?_⟩
  simp only [deuceref08_needed_K0] at h
  refine tr_seq ?_
  refine tr_region ?_
  refine tr1 rfl (s_nil_arr 3 1 (.inl rfl) (lt_of rfl)) ?_
  refine tr_nil ?_
  refine tr_seq ?_
  refine tr_seq ?_
  refine tr_region ?_
  refine tr1 rfl (s_assign (v := .d (.lit (.int .i64 0))) (lt_of rfl) rfl rfl) ?_
  refine tr_nil ?_
  refine tr_blk ?_
  refine tr_loopk [5] (fun (s36 : Int × (List Int) × Value) => [(8, .d (.lit s36.2.2)), (9, .d (.lit (.int .i64 s36.1)))]) (fun (s36 : Int × (List Int) × Value) => [.arr s36.2.2 3 1 (s36.2.1.map encI), .arr w6 4 1 (o13_0_5.map encB)]) (fun (k : Nat) (s36 : Int × (List Int) × Value) => deuceref08_needed_L4 o13_0_5 k s36.1 s36.2.1) (fun _ => rfl) (0, ([] : List Int), (.slice none 0 0)) h (ent_pick [2, 1] rfl rfl (le_upd rfl (le_upd rfl (le_keep ⟨rfl, trivial⟩)))) ?_
  rintro k38 ⟨i_4_36, out_4_36, w37⟩ h
  simp only [deuceref08_needed_L4] at h
  refine tr_seq ?_
  refine tr_seq ?_
  refine tr_region ?_
  refine tr1 rfl (s_move (v := .d (.lit (.int .i64 i_4_36))) (lt_of rfl) rfl rfl) ?_
  refine tr1 rfl (s_move (v := .d (.lit w6)) (lt_of rfl) rfl rfl) ?_
  refine tr1 rfl (s_lenm_arr (m := 1) (lt_of rfl) rfl rfl sl_135.of) ?_
  refine tr1 rfl (s_cmp (lt_of rfl) rfl rfl rfl) ?_
  refine tr_nil ?_
  refine tr_if rfl (fun c39 => ?_) (fun c39 => ?_)
  ·have h := cond_tt c39 h
   refine tr_skip ?_
   refine tr_seq ?_
   refine tr_blk ?_
   refine tr_seq ?_
   refine tr_region ?_
   refine tr1 rfl (s_move (v := .d (.lit w6)) (lt_of rfl) rfl rfl) ?_
   refine tr1 rfl (s_move (v := .d (.lit (.int .i64 i_4_36))) (lt_of rfl) rfl rfl) ?_
   obtain ⟨x40, h41, h⟩ := bind_some h
   refine tr1 rfl (s_index_arr (m := 1) (lt_of rfl) rfl rfl rfl sl_135.of (idx_map encB h41)) ?_
   refine tr1 rfl (s_load_ep (lt_of rfl) rfl (m := 1) rfl (row_of encB h41) rfl one_4) ?_
   refine tr_nil ?_
   refine tr_if rfl (fun c42 => ?_) (fun c42 => ?_)
   ·have h := cond_tt c42 h
    refine tr_region ?_
    refine tr1 rfl (s_move (v := .d (.lit w37)) (lt_of rfl) rfl rfl) ?_
    refine tr1 rfl (s_move (v := .d (.lit (.int .i64 i_4_36))) (lt_of rfl) rfl rfl) ?_
    refine tr1 rfl (s_lit_sl (lt_of rfl) sl_27 rfl rfl (rows := ([i_4_36]).map encI) rfl (map_len (f := encI) fun _ => rfl) rfl (by decide)) ?_
    obtain ⟨x43, h44, h⟩ := bind_some h
    refine tr_op rfl (s_appendm (i := 0) (lt_of rfl) sl_27 rfl rfl rfl (fun _ => rfl) h44 rfl) ?_
    rintro _ ⟨v45, rfl⟩
    refine tr1 rfl (s_assign (v := .d (.lit v45)) (lt_of rfl) rfl rfl) ?_
    refine tr_nilb ?_
    refine tr_region ?_
    refine tr1 rfl (s_move (v := .d (.lit (.int .i64 i_4_36))) (lt_of rfl) rfl rfl) ?_
    refine tr1 rfl (s_arith (lt_of rfl) rfl rfl rfl) ?_
    refine tr1 rfl (s_assign (v := .d (.lit (.int .i64 ((w64 (i_4_36 + 1)))))) (lt_of rfl) rfl rfl) ?_
    refine tr_nil ?_
    exact ⟨(w64 (i_4_36 + 1), x43, v45), h, ent_pick [0, 1] rfl rfl (le_upd rfl (le_upd rfl (le_keep ⟨rfl, trivial⟩)))⟩
   ·have h := cond_ff c42 h
    refine tr_skipb ?_
    refine tr_region ?_
    refine tr1 rfl (s_move (v := .d (.lit (.int .i64 i_4_36))) (lt_of rfl) rfl rfl) ?_
    refine tr1 rfl (s_arith (lt_of rfl) rfl rfl rfl) ?_
    refine tr1 rfl (s_assign (v := .d (.lit (.int .i64 ((w64 (i_4_36 + 1)))))) (lt_of rfl) rfl rfl) ?_
    refine tr_nil ?_
    exact ⟨(w64 (i_4_36 + 1), out_4_36, w37), h, ent_pick [0, 1] rfl rfl (le_upd rfl (le_upd rfl (le_keep ⟨rfl, trivial⟩)))⟩
  ·have h := cond_ff c39 h
   refine tr_exit ?_
   refine .inl ⟨rfl, ?_⟩
   simp only [deuceref08_needed_K4] at h
   refine tr_seq ?_
   refine tr_region ?_
   refine tr1 rfl (s_move (v := .d (.lit w37)) (lt_of rfl) rfl rfl) ?_
   refine tr1 rfl (s_assign (v := .d (.lit w37)) (lt_of rfl) rfl rfl) ?_
   refine tr_nil ?_
   have h := Option.some.inj h
   subst h
   refine tr_ent (ent_free (ble_upd (k := 4) (v := .d (.sl 1 (out_4_36.map encI))) (.d (dv_arr 0 rfl (map_len (f := encI) fun _ => rfl))) (ble_emp))) ?_
   exact tr_ret ⟨rfl, _, .one _, rfl, rfl⟩

theorem deuceref08_renumbered_c (l_0 : List Int) (left_1 : List Int) {r : (List Int)} (h : deuceref08_renumbered l_0 left_1 = some r) : Fn Try.prog 94 [.d (.sl 1 (l_0.map encI)), .d (.sl 1 (left_1.map encI))] (.d (.sl 1 (r.map encI))) := by
 unfold deuceref08_renumbered at h
 refine Fn.of_tr Try.func94 rfl (rs := [.tmp 4]) Try.results94 Try.ntmps94 (Nat.le_of_ble_eq_true rfl) ?_
 refine tr_seq ?_
 refine tr_region ?_
 refine tr1 rfl (s_nil 1 (lt_of rfl)) ?_
 refine tr_nil ?_
 refine tr_seq ?_
 refine tr_region ?_
 refine tr1 rfl (s_nil_arr 3 1 (.inl rfl) (lt_of rfl)) ?_
 refine tr_nil ?_
 refine tr_seq ?_
 refine tr_seq ?_
 refine tr_region ?_
 refine tr1 rfl (s_assign (v := .d (.lit (.int .i64 0))) (lt_of rfl) rfl rfl) ?_
 refine tr_nil ?_
 refine tr_blk ?_
 refine tr_loopk [0, 1] (fun (s2 : Int × (List Int) × Value) => [(5, .d (.lit s2.2.2)), (6, .d (.lit (.int .i64 s2.1)))]) (fun (s2 : Int × (List Int) × Value) => [.arr s2.2.2 3 1 (s2.2.1.map encI)]) (fun (k : Nat) (s2 : Int × (List Int) × Value) => deuceref08_renumbered_L0 l_0 left_1 k s2.1 s2.2.1) (fun _ => rfl) (0, ([] : List Int), (.slice none 0 0)) h (ent_pick [0] rfl rfl (le_upd rfl (le_upd rfl (le_keep ⟨rfl, rfl, trivial⟩)))) ?_
 rintro k4 ⟨i_0_2, out_0_2, w3⟩ h
 simp only [deuceref08_renumbered_L0] at h
 refine tr_seq ?_
 refine tr_seq ?_
 refine tr_region ?_
 refine tr1 rfl (s_move (v := .d (.lit (.int .i64 i_0_2))) (lt_of rfl) rfl rfl) ?_
 refine tr1 rfl (s_move (v := .d (.sl 1 (left_1.map encI))) (lt_of rfl) rfl rfl) ?_
 refine tr1 rfl (s_lenm (lt_of rfl) rfl sl_27.of) ?_
 refine tr1 rfl (s_cmp (lt_of rfl) rfl rfl rfl) ?_
 refine tr_nil ?_
 refine tr_if rfl (fun c5 => ?_) (fun c5 => ?_)
 ·have h := cond_tt c5 h
  refine tr_skip ?_
  refine tr_seq ?_
  refine tr_blk ?_
  refine tr_seq ?_
  refine tr_region ?_
  refine tr1 rfl (s_move (v := .d (.sl 1 (l_0.map encI))) (lt_of rfl) rfl rfl) ?_
  refine tr1 rfl (s_move (v := .d (.sl 1 (left_1.map encI))) (lt_of rfl) rfl rfl) ?_
  refine tr1 rfl (s_move (v := .d (.lit (.int .i64 i_0_2))) (lt_of rfl) rfl rfl) ?_
  obtain ⟨x6, h7, h⟩ := bind_some h
  refine tr1 rfl (s_index_sl (lt_of rfl) rfl rfl sl_27.of (idx_map encI h7)) ?_
  refine tr1 rfl (s_load_cp (lt_of rfl) rfl one_3) ?_
  obtain ⟨r8, h9, h⟩ := bind_some h
  refine tr1 rfl (s_call (lt_of rfl) (.func _ _ Try.call55) rfl rfl (BVs.refl _ _) (deuceref08_In_c _ _ h9) rfl) ?_
  refine tr_nil ?_
  refine tr_if rfl (fun c10 => ?_) (fun c10 => ?_)
  ·have h := cond_tt c10 h
   refine tr_region ?_
   refine tr1 rfl (s_move (v := .d (.lit w3)) (lt_of rfl) rfl rfl) ?_
   refine tr1 rfl (s_move (v := .d (.lit (.int .i64 i_0_2))) (lt_of rfl) rfl rfl) ?_
   refine tr1 rfl (s_lit_sl (lt_of rfl) sl_27 rfl rfl (rows := ([i_0_2]).map encI) rfl (map_len (f := encI) fun _ => rfl) rfl (by decide)) ?_
   obtain ⟨x11, h12, h⟩ := bind_some h
   refine tr_op rfl (s_appendm (i := 0) (lt_of rfl) sl_27 rfl rfl rfl (fun _ => rfl) h12 rfl) ?_
   rintro _ ⟨v13, rfl⟩
   refine tr1 rfl (s_assign (v := .d (.lit v13)) (lt_of rfl) rfl rfl) ?_
   refine tr_nilb ?_
   refine tr_region ?_
   refine tr1 rfl (s_move (v := .d (.lit (.int .i64 i_0_2))) (lt_of rfl) rfl rfl) ?_
   refine tr1 rfl (s_arith (lt_of rfl) rfl rfl rfl) ?_
   refine tr1 rfl (s_assign (v := .d (.lit (.int .i64 ((w64 (i_0_2 + 1)))))) (lt_of rfl) rfl rfl) ?_
   refine tr_nil ?_
   exact ⟨(w64 (i_0_2 + 1), x11, v13), h, ent_pick [0] rfl rfl (le_upd rfl (le_upd rfl (le_keep ⟨rfl, rfl, trivial⟩)))⟩
  ·have h := cond_ff c10 h
   refine tr_skipb ?_
   refine tr_region ?_
   refine tr1 rfl (s_move (v := .d (.lit (.int .i64 i_0_2))) (lt_of rfl) rfl rfl) ?_
   refine tr1 rfl (s_arith (lt_of rfl) rfl rfl rfl) ?_
   refine tr1 rfl (s_assign (v := .d (.lit (.int .i64 ((w64 (i_0_2 + 1)))))) (lt_of rfl) rfl rfl) ?_
   refine tr_nil ?_
   exact ⟨(w64 (i_0_2 + 1), out_0_2, w3), h, ent_pick [0] rfl rfl (le_upd rfl (le_upd rfl (le_keep ⟨rfl, rfl, trivial⟩)))⟩
 ·have h := cond_ff c5 h
  refine tr_exit ?_
  refine .inl ⟨rfl, ?_⟩
  simp only [deuceref08_renumbered_K0] at h
  refine tr_seq ?_
  refine tr_region ?_
  refine tr1 rfl (s_move (v := .d (.lit w3)) (lt_of rfl) rfl rfl) ?_
  refine tr1 rfl (s_assign (v := .d (.lit w3)) (lt_of rfl) rfl rfl) ?_
  refine tr_nil ?_
  have h := Option.some.inj h
  subst h
  refine tr_ent (ent_free (ble_upd (k := 4) (v := .d (.sl 1 (out_0_2.map encI))) (.d (dv_arr 0 rfl (map_len (f := encI) fun _ => rfl))) (ble_emp))) ?_
  exact tr_ret ⟨rfl, _, .one _, rfl, rfl⟩

theorem deuceref08_Only_c (p_0 : ApiProgram) (left_1 : List Int) {r : ApiProgram} (h : deuceref08_Only p_0 left_1 = some r) : Fn Try.prog 73 [.agg (encApiProgram p_0), .d (.sl 1 (left_1.map encI))] (.agg (encApiProgram r)) := by
 unfold deuceref08_Only at h
 refine acalls_of_trw Try.func73 rfl (rs := [.cell 4 25]) Try.results73 Try.ntmps73 (Nat.le_of_ble_eq_true rfl) ?_
 refine tr_seq ?_
 refine tr_region ?_
 refine tr_op rfl (s_box (v := .agg (encApiProgram p_0)) (lt_of rfl) rfl rfl rfl) ?_
 rintro _ ⟨b1, rfl⟩
 refine tr_op rfl (s_alloc (zs := [.sl 1 ((([] : List (List ApiSpan))).map encSl_ApiSpan), .lit (.int .i64 0), .sl 6 ((([] : List ApiJob)).map encApiJob)]) (lt_of rfl) Try.zeroValue25 rfl rfl) ?_
 rintro _ ⟨b2, rfl⟩
 refine tr_nil ?_
 refine tr_seq ?_
 refine tr_region ?_
 refine tr1 rfl (s_loada_bp (lt_of rfl) rfl (i := 0) rfl agg_25 (es := (encApiProgram p_0)) rfl rfl) ?_
 obtain ⟨r3, h4, h⟩ := bind_some h
 refine tr1 rfl (s_callf (lt_of rfl) (.func _ _ Try.call22) rfl rfl (deuceref08_Copy_c _ h4)) ?_
 refine tr_op rfl (s_alloc (zs := [.sl 1 ((([] : List (List ApiSpan))).map encSl_ApiSpan), .lit (.int .i64 0), .lit (.slice none 0 0)]) (lt_of rfl) Try.zeroValue25 rfl rfl) ?_
 rintro _ ⟨b5, rfl⟩
 refine trl_ent (ent_nilarr 36 6) ?_
 refine tr1 rfl (s_store_bp (i := 2) rfl rfl rfl rfl rfl Try.sizeOf25 rfl (lt_of rfl) (Nat.le_of_ble_eq_true rfl) (ds' := (encApiProgram r3)) rfl) ?_
 refine tr_nil ?_
 refine tr_seq ?_
 refine tr_region ?_
 refine tr1 rfl (s_field_bp (lt_of rfl) rfl fld_25_2) ?_
 refine trl_ent (ent_nilarr 36 6) ?_
 refine tr1 rfl (s_store_bp (i := 2) rfl rfl rfl rfl rfl Try.sizeOf23 rfl (lt_of rfl) (Nat.le_of_ble_eq_true rfl) (ds' := [.sl 1 (r3.Days.map encSl_ApiSpan), .lit (.int .i64 r3.Rest), .lit (.slice none 0 0)]) rfl) ?_
 refine tr_nil ?_
 refine tr_seq ?_
 refine tr_seq ?_
 refine tr_region ?_
 refine tr1 rfl (s_assign (v := .d (.lit (.int .i64 0))) (lt_of rfl) rfl rfl) ?_
 refine tr_nil ?_
 refine tr_blk ?_
 refine tr_loopk [1, 2, 4, 5] (fun (s7 : Int × (List ApiJob) × (List (List ApiSpan)) × Int × Value) => [(6, .d (.lit (.int .i64 s7.1)))]) (fun (s7 : Int × (List ApiJob) × (List (List ApiSpan)) × Int × Value) => [.box b1 0 (encApiProgram p_0), .box b2 0 (encApiProgram (ApiProgram.mk ([] : List (List ApiSpan)) 0 ([] : List ApiJob))), .arr s7.2.2.2.2 36 6 (s7.2.1.map encApiJob), .box b5 0 [.sl 1 (s7.2.2.1.map encSl_ApiSpan), .lit (.int .i64 s7.2.2.2.1), .lit s7.2.2.2.2]]) (fun (k : Nat) (s7 : Int × (List ApiJob) × (List (List ApiSpan)) × Int × Value) => deuceref08_Only_L0 left_1 p_0 (ApiProgram.mk ([] : List (List ApiSpan)) 0 ([] : List ApiJob)) k s7.1 s7.2.1 s7.2.2.1 s7.2.2.2.1) (fun _ => rfl) (0, ([] : List ApiJob), r3.Days, r3.Rest, (.slice none 0 0)) h (ent_pick [0, 1, 4, 2] rfl rfl (le_upd rfl (le_keep ⟨rfl, rfl, rfl, rfl, trivial⟩))) ?_
 rintro k9 ⟨i_0_7, o_0_7, o_0_7_2, o_0_7_3, w8⟩ h
 simp only [deuceref08_Only_L0] at h
 refine tr_seq ?_
 refine tr_seq ?_
 refine tr_region ?_
 refine tr1 rfl (s_move (v := .d (.lit (.int .i64 i_0_7))) (lt_of rfl) rfl rfl) ?_
 refine tr1 rfl (s_move (v := .d (.sl 1 (left_1.map encI))) (lt_of rfl) rfl rfl) ?_
 refine tr1 rfl (s_lenm (lt_of rfl) rfl sl_27.of) ?_
 refine tr1 rfl (s_cmp (lt_of rfl) rfl rfl rfl) ?_
 refine tr_nil ?_
 refine tr_if rfl (fun c10 => ?_) (fun c10 => ?_)
 ·have h := cond_tt c10 h
  refine tr_skip ?_
  refine tr_seq ?_
  refine tr_blk ?_
  refine tr_seq ?_
  obtain ⟨x12, h13, h⟩ := bind_some h
  obtain ⟨x14, h15, h⟩ := bind_some h
  refine tr_drawxk mix 9 [1, 2, 4, 5, 6] (fun X11 => [(7, .bp (X11 8).b 0 0), (24, .agg (encApiJob x14))]) (fun X11 => [.box b1 0 (encApiProgram p_0), .box b2 0 (encApiProgram (ApiProgram.mk ([] : List (List ApiSpan)) 0 ([] : List ApiJob))), .arr w8 36 6 (o_0_7.map encApiJob), .box b5 0 [.sl 1 (o_0_7_2.map encSl_ApiSpan), .lit (.int .i64 o_0_7_3), .lit w8], .box (X11 8).b 0 (encApiJob (ApiJob.mk (ApiSpan.mk 0 0) ([] : List Int) ([] : List Int) 0 0))]) ?_ ?_
  ·refine ⟨1, fun X11 => [(17, 0, .bp b1 0 2), (18, 1, .d (.sl 6 (p_0.Jobs.map encApiJob))), (19, 2, .d (.sl 1 (left_1.map encI))), (20, 3, .d (.lit (.int .i64 i_0_7))), (21, 4, .cp [.lit (.int .i64 x12)]), (22, 5, .d (.lit (.int .i64 x12))), (23, 6, .cp [.lit (.int .i64 x14.Length.Low), .lit (.int .i64 x14.Length.High), .sl 1 (x14.After.map encI), .sl 1 (x14.With.map encI), .lit (.int .i64 x14.Due), .lit (.int .i64 x14.Earliest)]), (24, 7, .agg (encApiJob x14)), (7, 8, .bp (X11 8).b 0 0)], fun X11 => [([], .box b1 0 (encApiProgram p_0)), ([], .box b2 0 (encApiProgram (ApiProgram.mk ([] : List (List ApiSpan)) 0 ([] : List ApiJob)))), ([], .arr w8 36 6 (o_0_7.map encApiJob)), ([], .box b5 0 [.sl 1 (o_0_7_2.map encSl_ApiSpan), .lit (.int .i64 o_0_7_3), .lit w8]), ([(8, .box (X11 8).b 0 (encApiJob (ApiJob.mk (ApiSpan.mk 0 0) ([] : List Int) ([] : List Int) 0 0)))], nob)], ?_, ?_⟩
   · exact ⟨by kernel_rfl, by kernel_rfl, by kernel_rfl, fun _ => by kernel_rfl, fun _ => by kernel_rfl, fun _ => by kernel_rfl, fun _ => rfl, [([], []), ([0], []), ([], []), ([], []), ([2, 3], []), ([4], []), ([1, 5], []), ([6], []), ([], [])], by kernel_rfl, ⟨fun X11 S hw hi hS => x_pure (X := X11) rfl (hw X11) rfl (g_op rfl (s_field_bp (lt_of rfl) (ov_ev hS rfl) fld_25_2)),
      fun X11 S hw hi hS => x_pure (X := X11) rfl (hw X11) rfl (g_op rfl (s_load_bp (lt_of rfl) (ov_ev hS rfl) (i := 0) (og hS rfl rfl) rfl one_23)),
      fun X11 S hw hi hS => x_pure (X := X11) rfl (hw X11) rfl (g_op rfl (s_move (v := .d (.sl 1 (left_1.map encI))) (lt_of rfl) (ov_ev hS rfl) rfl)),
      fun X11 S hw hi hS => x_pure (X := X11) rfl (hw X11) rfl (g_op rfl (s_move (v := .d (.lit (.int .i64 i_0_7))) (lt_of rfl) (ov_ev hS rfl) rfl)),
      fun X11 S hw hi hS => x_pure (X := X11) rfl (hw X11) rfl (g_op rfl (s_index_sl (lt_of rfl) (ov_ev hS rfl) (ov_ev hS rfl) sl_27.of (idx_map encI h13))),
      fun X11 S hw hi hS => x_pure (X := X11) rfl (hw X11) rfl (g_op rfl (s_load_cp (lt_of rfl) (ov_ev hS rfl) one_3)),
      fun X11 S hw hi hS => x_pure (X := X11) rfl (hw X11) rfl (g_op rfl (s_index_sl (lt_of rfl) (ov_ev hS rfl) (ov_ev hS rfl) sl_23.of (idx_map encApiJob h15))),
      fun X11 S hw hi hS => x_pure (X := X11) rfl (hw X11) rfl (g_op rfl (s_loada_cp (lt_of rfl) (ov_ev hS rfl) agg_36 (es := (encApiJob x14)) rfl rfl)),
      fun X11 S hw hi hS => x_make (X := X11) (p := 4) (v := fun x => .bp x.b 0 0) (mo := fun x => .box x.b 0 (encApiJob (ApiJob.mk (ApiSpan.mk 0 0) ([] : List Int) ([] : List Int) 0 0))) hS hi rfl rfl (fun _ => rfl) hw (fun _ => rfl) (fun _ => rfl) (fun _ => rfl) (fun _ => ⟨rfl, rfl, .inr rfl, ⟨rfl, rfl, .inr rfl, ⟨rfl, rfl, .inr rfl, ⟨rfl, rfl, .inr rfl, ⟨rfl, rfl, .inr rfl, ⟨rfl, rfl, .inr rfl, ⟨rfl, rfl, .inr rfl, ⟨rfl, rfl, .inr rfl, ⟨rfl, rfl, .inl rfl, trivial⟩⟩⟩⟩⟩⟩⟩⟩⟩) (fun _ => ⟨trivial, rfl, ⟨trivial, rfl, ⟨trivial, rfl, ⟨trivial, rfl, ⟨⟨rfl, .inl rfl, trivial⟩, rfl, trivial⟩⟩⟩⟩⟩) (step_post (s_alloc (zs := [.lit (.int .i64 0), .lit (.int .i64 0), .sl 1 ((([] : List Int)).map encI), .sl 1 ((([] : List Int)).map encI), .lit (.int .i64 0), .lit (.int .i64 0)]) (lt_of rfl) Try.zeroValue36 rfl rfl) (by rintro _ ⟨w, rfl⟩; exact ⟨⟨w, undef⟩, ent_pick [0, 1, 2, 3, 5] rfl rfl (le_refl _)⟩)), trivial⟩⟩
   · exact fun X11 => ent_le (le_upd rfl (le_upd rfl (le_keep ⟨rfl, rfl, rfl, rfl, rfl, trivial⟩)))
  ·intro X11
   refine tr1 rfl (s_store_bp (i := 4) rfl rfl rfl rfl rfl Try.sizeOf36 rfl (lt_of rfl) (Nat.le_of_ble_eq_true rfl) (ds' := (encApiJob x14)) rfl) ?_
   refine tr_nil ?_
   refine tr_seq ?_
   obtain ⟨r16, h17, h⟩ := bind_some h
   obtain ⟨r18, h19, h⟩ := bind_some h
   refine tr_drawk mix 9 [1, 2, 4, 5, 6, 7] [(28, .d (.sl 1 (r16.map encI))), (32, .d (.sl 1 (r18.map encI))), (33, .bp (X11 8).b 0 2)] ?_ ?_
   ·refine ⟨[(25, 0, .bp (X11 8).b 0 2), (26, 1, .d (.sl 1 (x14.After.map encI))), (27, 2, .d (.sl 1 (left_1.map encI))), (28, 3, .d (.sl 1 (r16.map encI))), (29, 4, .bp (X11 8).b 0 3), (30, 5, .d (.sl 1 (x14.With.map encI))), (31, 6, .d (.sl 1 (left_1.map encI))), (32, 7, .d (.sl 1 (r18.map encI))), (33, 8, .bp (X11 8).b 0 2)], ?_, ?_⟩
    · exact ⟨by kernel_rfl, by kernel_rfl, by kernel_rfl, by kernel_rfl, by kernel_rfl, [([], []), ([0], []), ([], []), ([1, 2], []), ([], []), ([4], []), ([], []), ([5, 6], []), ([], [])], by kernel_rfl, ⟨fun S hS => g_fin rfl (g_op rfl (s_field_bp (lt_of rfl) (ov_ev hS rfl) fld_36_1)),
      fun S hS => g_fin rfl (g_op rfl (s_load_bp (lt_of rfl) (ov_ev hS rfl) (i := 4) rfl rfl one_27)),
      fun S hS => g_fin rfl (g_op rfl (s_move (v := .d (.sl 1 (left_1.map encI))) (lt_of rfl) (ov_ev hS rfl) rfl)),
      fun S hS => g_fin rfl (g_op rfl (s_callf (lt_of rfl) (.func _ _ Try.call94) (ev2 (ov_ev hS rfl) (ev2 (ov_ev hS rfl) evn)) rfl (deuceref08_renumbered_c _ _ h17))),
      fun S hS => g_fin rfl (g_op rfl (s_field_bp (lt_of rfl) (ov_ev hS rfl) fld_36_2)),
      fun S hS => g_fin rfl (g_op rfl (s_load_bp (lt_of rfl) (ov_ev hS rfl) (i := 4) rfl rfl one_27)),
      fun S hS => g_fin rfl (g_op rfl (s_move (v := .d (.sl 1 (left_1.map encI))) (lt_of rfl) (ov_ev hS rfl) rfl)),
      fun S hS => g_fin rfl (g_op rfl (s_callf (lt_of rfl) (.func _ _ Try.call94) (ev2 (ov_ev hS rfl) (ev2 (ov_ev hS rfl) evn)) rfl (deuceref08_renumbered_c _ _ h19))),
      fun S hS => g_fin rfl (g_op rfl (s_field_bp (lt_of rfl) (ov_ev hS rfl) fld_36_1)), trivial⟩⟩
    · exact ent_le (le_upd rfl (le_upd rfl (le_upd rfl (le_keep ⟨rfl, rfl, rfl, rfl, rfl, rfl, trivial⟩))))
   ·refine tr1 rfl (s_store_bp (i := 4) rfl rfl rfl rfl rfl Try.sizeOf27 rfl (lt_of rfl) (Nat.le_of_ble_eq_true rfl) (ds' := (encApiJob (ApiJob.mk x14.Length r16 x14.With x14.Due x14.Earliest))) rfl) ?_
    refine tr1 rfl (s_field_bp (lt_of rfl) rfl fld_36_2) ?_
    refine tr1 rfl (s_store_bp (i := 4) rfl rfl rfl rfl rfl Try.sizeOf27 rfl (lt_of rfl) (Nat.le_of_ble_eq_true rfl) (ds' := (encApiJob (ApiJob.mk x14.Length r16 r18 x14.Due x14.Earliest))) rfl) ?_
    refine tr_nil ?_
    refine tr_region ?_
    refine tr1 rfl (s_field_bp (lt_of rfl) rfl fld_25_2) ?_
    refine tr1 rfl (s_load_bp (lt_of rfl) rfl (i := 3) rfl rfl one_23) ?_
    refine tr1 rfl (s_loada_bp (lt_of rfl) rfl (i := 4) rfl agg_36 (es := (encApiJob (ApiJob.mk x14.Length r16 r18 x14.Due x14.Earliest))) rfl rfl) ?_
    refine tr1 rfl (s_lit_sl (lt_of rfl) sl_23 rfl rfl (rows := ([(ApiJob.mk x14.Length r16 r18 x14.Due x14.Earliest)]).map encApiJob) rfl (map_len (f := encApiJob) fun _ => rfl) rfl (by decide)) ?_
    obtain ⟨x20, h21, h⟩ := bind_some h
    refine tr_op rfl (s_appendm (i := 2) (lt_of rfl) sl_23 rfl rfl rfl (fun _ => rfl) h21 rfl) ?_
    rintro _ ⟨v22, rfl⟩
    refine tr1 rfl (s_field_bp (lt_of rfl) rfl fld_25_2) ?_
    refine tr1 rfl (s_store_bp (i := 3) rfl rfl rfl rfl rfl Try.sizeOf23 rfl (lt_of rfl) (Nat.le_of_ble_eq_true rfl) (ds' := [.sl 1 (o_0_7_2.map encSl_ApiSpan), .lit (.int .i64 o_0_7_3), .lit v22]) rfl) ?_
    refine tr_nilb ?_
    refine tr_region ?_
    refine tr1 rfl (s_move (v := .d (.lit (.int .i64 i_0_7))) (lt_of rfl) rfl rfl) ?_
    refine tr1 rfl (s_arith (lt_of rfl) rfl rfl rfl) ?_
    refine tr1 rfl (s_assign (v := .d (.lit (.int .i64 ((w64 (i_0_7 + 1)))))) (lt_of rfl) rfl rfl) ?_
    refine tr_nil ?_
    exact ⟨(w64 (i_0_7 + 1), x20, o_0_7_2, o_0_7_3, v22), h, ent_pick [0, 1, 2, 3] rfl rfl (le_upd rfl (le_keep ⟨rfl, rfl, rfl, rfl, trivial⟩))⟩
 ·have h := cond_ff c10 h
  refine tr_exit ?_
  refine .inl ⟨rfl, ?_⟩
  simp only [deuceref08_Only_K0] at h
  refine tr_seq ?_
  refine tr_region ?_
  refine tr1 rfl (s_loada_bp (lt_of rfl) rfl (i := 3) rfl agg_25 (es := [.sl 1 (o_0_7_2.map encSl_ApiSpan), .lit (.int .i64 o_0_7_3), .lit w8]) rfl rfl) ?_
  refine tr1 rfl (s_store_bp (i := 1) rfl rfl rfl rfl rfl Try.sizeOf25 rfl (lt_of rfl) (Nat.le_of_ble_eq_true rfl) (ds' := [.sl 1 (o_0_7_2.map encSl_ApiSpan), .lit (.int .i64 o_0_7_3), .lit w8]) rfl) ?_
  refine tr_nil ?_
  have h := Option.some.inj h
  subst h
  exact tr_ret ⟨rfl, _, [.box b1 0 (encApiProgram p_0), .box b2 0 [.sl 1 (o_0_7_2.map encSl_ApiSpan), .lit (.int .i64 o_0_7_3), .lit w8], .arr w8 36 6 (o_0_7.map encApiJob), .box b5 0 [.sl 1 (o_0_7_2.map encSl_ApiSpan), .lit (.int .i64 o_0_7_3), .lit w8]], .one (.cell 4 25 rfl (i := 1) rfl agg_25 (es := [.sl 1 (o_0_7_2.map encSl_ApiSpan), .lit (.int .i64 o_0_7_3), .lit w8]) rfl rfl), .refl _, .agg (dvc (.same _) (dvc (.same _) (dvc (dv_arr 2 rfl (map_len (f := encApiJob) fun _ => rfl)) dvn)))⟩

theorem deuceref08_DueBy_c (p_0 : ApiProgram) (day_1 : Int) {r : ApiProgram} (h : deuceref08_DueBy p_0 day_1 = some r) : Fn Try.prog 40 [.agg (encApiProgram p_0), .d (.lit (.int .i64 day_1))] (.agg (encApiProgram r)) := by
 unfold deuceref08_DueBy at h
 refine acalls_of_trw Try.func40 rfl (rs := [.cell 4 25]) Try.results40 Try.ntmps40 (Nat.le_of_ble_eq_true rfl) ?_
 refine tr_seq ?_
 refine tr_region ?_
 refine tr_op rfl (s_box (v := .agg (encApiProgram p_0)) (lt_of rfl) rfl rfl rfl) ?_
 rintro _ ⟨b1, rfl⟩
 refine tr_op rfl (s_alloc (zs := [.sl 1 ((([] : List (List ApiSpan))).map encSl_ApiSpan), .lit (.int .i64 0), .sl 6 ((([] : List ApiJob)).map encApiJob)]) (lt_of rfl) Try.zeroValue25 rfl rfl) ?_
 rintro _ ⟨b2, rfl⟩
 refine tr_nil ?_
 refine tr_seq ?_
 obtain ⟨r3, h4, h⟩ := bind_some h
 refine tr_drawk mix 4 [4] [(5, .agg (encApiProgram p_0)), (8, .d (.sl 1 (r3.map encI)))] ?_ ?_
 ·refine ⟨[(5, 0, .agg (encApiProgram p_0)), (6, 1, .agg (encApiProgram p_0)), (7, 2, .d (.lit (.int .i64 day_1))), (8, 3, .d (.sl 1 (r3.map encI)))], ?_, ?_⟩
  · exact ⟨by kernel_rfl, by kernel_rfl, by kernel_rfl, by kernel_rfl, by kernel_rfl, [([], []), ([], []), ([], []), ([1, 2], [])], by kernel_rfl, ⟨fun S hS => g_fin rfl (g_op rfl (s_loada_bp (lt_of rfl) (ov_ev hS rfl) (i := 0) rfl agg_25 (es := (encApiProgram p_0)) rfl rfl)),
      fun S hS => g_fin rfl (g_op rfl (s_loada_bp (lt_of rfl) (ov_ev hS rfl) (i := 0) rfl agg_25 (es := (encApiProgram p_0)) rfl rfl)),
      fun S hS => g_fin rfl (g_op rfl (s_move (v := .d (.lit (.int .i64 day_1))) (lt_of rfl) (ov_ev hS rfl) rfl)),
      fun S hS => g_fin rfl (g_op rfl (s_callf (lt_of rfl) (.func _ _ Try.call74) (ev2 (ov_ev hS rfl) (ev2 (ov_ev hS rfl) evn)) rfl (deuceref08_needed_c _ _ h4))), trivial⟩⟩
  · exact ent_le (le_upd rfl (le_upd rfl (le_keep ⟨rfl, trivial⟩)))
 ·obtain ⟨r5, h6, h⟩ := bind_some h
  refine tr1 rfl (s_callf (lt_of rfl) (.func _ _ Try.call73) rfl rfl (deuceref08_Only_c _ _ h6)) ?_
  refine tr1 rfl (s_store_bp (i := 1) rfl rfl rfl rfl rfl Try.sizeOf25 rfl (lt_of rfl) (Nat.le_of_ble_eq_true rfl) (ds' := (encApiProgram r5)) rfl) ?_
  refine tr_nil ?_
  have h := Option.some.inj h
  subst h
  exact tr_ret ⟨rfl, _, [.box b1 0 (encApiProgram p_0), .box b2 0 (encApiProgram r5)], .one (.cell 4 25 rfl (i := 1) rfl agg_25 (es := (encApiProgram r5)) rfl rfl), .refl _, .same _⟩

theorem deuceref08_Stuck_c (p_0 : ApiProgram) {r : Int × Int} (h : deuceref08_Stuck p_0 = some r) : Fn Try.prog 41 [.agg (encApiProgram p_0)] (.tup [.d (.lit (.int .i64 r.1)), .d (.lit (.int .i64 r.2))]) := by
 unfold deuceref08_Stuck at h
 refine Fn.of_tr Try.func41 rfl (rs := [.tmp 2, .tmp 3]) Try.results41 Try.ntmps41 (Nat.le_of_ble_eq_true rfl) ?_
 refine tr_seq ?_
 refine tr_region ?_
 refine tr_op rfl (s_box (v := .agg (encApiProgram p_0)) (lt_of rfl) rfl rfl rfl) ?_
 rintro _ ⟨b1, rfl⟩
 refine tr1 rfl (s_assign (v := .d (.lit (.int .i64 0))) (lt_of rfl) rfl rfl) ?_
 refine tr1 rfl (s_assign (v := .d (.lit (.int .i64 0))) (lt_of rfl) rfl rfl) ?_
 refine tr_nil ?_
 refine tr_seq ?_
 refine tr_seq ?_
 refine tr_region ?_
 refine tr1 rfl (s_loada_bp (lt_of rfl) rfl (i := 0) rfl agg_25 (es := (encApiProgram p_0)) rfl rfl) ?_
 obtain ⟨r2, h3, h⟩ := bind_some h
 refine tr1 rfl (s_call (lt_of rfl) (.func _ _ Try.call14) rfl rfl (BVs.refl _ _) (deuceref08_Check_c _ h3) rfl) ?_
 refine tr1 rfl (s_cmp (lt_of rfl) rfl rfl rfl) ?_
 refine tr_nil ?_
 refine tr_if rfl (fun c4 => ?_) (fun c4 => ?_)
 ·have h := cond_tt c4 h
  refine tr_seq ?_
  refine tr_region ?_
  refine tr1 rfl (s_assign (v := .d (.lit (.int .i64 0))) (lt_of rfl) rfl rfl) ?_
  refine tr1 rfl (s_assign (v := .d (.lit (.int .i64 80))) (lt_of rfl) rfl rfl) ?_
  refine tr_nil ?_
  have h := Option.some.inj h
  subst h
  refine tr_ent (ent_free (ble_keep (l := [2, 3]) ⟨rfl, rfl, trivial⟩)) ?_
  exact tr_ret ⟨rfl, _, .two _ _, rfl, rfl⟩
 ·have h := cond_ff c4 h
  refine tr_skip ?_
  refine tr_seq ?_
  refine tr_seq ?_
  refine tr_region ?_
  refine tr1 rfl (s_assign (v := .d (.lit (.int .i64 0))) (lt_of rfl) rfl rfl) ?_
  refine tr_nil ?_
  refine tr_blk ?_
  refine tr_loopk [1] (fun (s5 : Int) => [(4, .d (.lit (.int .i64 s5)))]) (fun (s5 : Int) => [.box b1 0 (encApiProgram p_0)]) (fun (k : Nat) (s5 : Int) => deuceref08_Stuck_L0 p_0 k s5) (fun _ => rfl) (0) h (ent_pick [0] rfl rfl (le_upd rfl (le_keep ⟨rfl, trivial⟩))) ?_
  rintro k6 d_0_5 h
  simp only [deuceref08_Stuck_L0] at h
  refine tr_seq ?_
  refine tr_seq ?_
  refine tr_region ?_
  refine tr1 rfl (s_move (v := .d (.lit (.int .i64 d_0_5))) (lt_of rfl) rfl rfl) ?_
  refine tr1 rfl (s_cmp (lt_of rfl) rfl rfl rfl) ?_
  refine tr_nil ?_
  refine tr_if rfl (fun c7 => ?_) (fun c7 => ?_)
  ·have h := cond_tt c7 h
   refine tr_skip ?_
   refine tr_seq ?_
   refine tr_blk ?_
   refine tr_seq ?_
   refine tr_region ?_
   refine tr1 rfl (s_loada_bp (lt_of rfl) rfl (i := 0) rfl agg_25 (es := (encApiProgram p_0)) rfl rfl) ?_
   refine tr1 rfl (s_move (v := .d (.lit (.int .i64 d_0_5))) (lt_of rfl) rfl rfl) ?_
   obtain ⟨r8, h9, h⟩ := bind_some h
   refine tr1 rfl (s_callf (lt_of rfl) (.func _ _ Try.call40) rfl rfl (deuceref08_DueBy_c _ _ h9)) ?_
   obtain ⟨r10, h11, h⟩ := bind_some h
   refine tr1 rfl (s_call (lt_of rfl) (.func _ _ Try.call70) rfl rfl (BVs.refl _ _) (deuceref08_days_c _ h11) rfl) ?_
   refine tr1 rfl (s_cmp (lt_of rfl) rfl rfl rfl) ?_
   refine tr_nil ?_
   refine tr_if rfl (fun c12 => ?_) (fun c12 => ?_)
   ·have h := cond_tt c12 h
    refine tr_seq ?_
    refine tr_region ?_
    refine tr1 rfl (s_move (v := .d (.lit (.int .i64 d_0_5))) (lt_of rfl) rfl rfl) ?_
    refine tr1 rfl (s_assign (v := .d (.lit (.int .i64 d_0_5))) (lt_of rfl) rfl rfl) ?_
    refine tr1 rfl (s_assign (v := .d (.lit (.int .i64 0))) (lt_of rfl) rfl rfl) ?_
    refine tr_nil ?_
    have h := Option.some.inj h
    subst h
    refine tr_ent (ent_free (ble_keep (l := [2, 3]) ⟨rfl, rfl, trivial⟩)) ?_
    exact tr_ret ⟨rfl, _, .two _ _, rfl, rfl⟩
   ·have h := cond_ff c12 h
    refine tr_skipb ?_
    refine tr_region ?_
    refine tr1 rfl (s_move (v := .d (.lit (.int .i64 d_0_5))) (lt_of rfl) rfl rfl) ?_
    refine tr1 rfl (s_arith (lt_of rfl) rfl rfl rfl) ?_
    refine tr1 rfl (s_assign (v := .d (.lit (.int .i64 ((w64 (d_0_5 + 1)))))) (lt_of rfl) rfl rfl) ?_
    refine tr_nil ?_
    exact ⟨(w64 (d_0_5 + 1)), h, ent_pick [0] rfl rfl (le_upd rfl (le_keep ⟨rfl, trivial⟩))⟩
  ·have h := cond_ff c7 h
   refine tr_exit ?_
   refine .inl ⟨rfl, ?_⟩
   simp only [deuceref08_Stuck_K0] at h
   refine tr_seq ?_
   refine tr_region ?_
   refine tr1 rfl (s_assign (v := .d (.lit (.int .i64 (-1)))) (lt_of rfl) rfl rfl) ?_
   refine tr1 rfl (s_assign (v := .d (.lit (.int .i64 0))) (lt_of rfl) rfl rfl) ?_
   refine tr_nil ?_
   have h := Option.some.inj h
   subst h
   refine tr_ent (ent_free (ble_keep (l := [2, 3]) ⟨rfl, rfl, trivial⟩)) ?_
   exact tr_ret ⟨rfl, _, .two _ _, rfl, rfl⟩

theorem deucelaw08_PlayDays_c (p_0 : ApiProgram) (old_1 : List ApiSeat) {r : Bool} (h : deucelaw08_PlayDays p_0 old_1 = some r) : Fn Try.prog 10 [.agg (encApiProgram p_0), .d (.sl 3 (old_1.map encApiSeat))] (.d (.lit (.bool r))) := by
 unfold deucelaw08_PlayDays at h
 refine Fn.of_tr Try.func10 rfl (rs := [.tmp 4]) Try.results10 Try.ntmps10 (Nat.le_of_ble_eq_true rfl) ?_
 refine tr_seq ?_
 refine tr_region ?_
 refine tr_op rfl (s_box (v := .agg (encApiProgram p_0)) (lt_of rfl) rfl rfl rfl) ?_
 rintro _ ⟨b1, rfl⟩
 refine tr1 rfl (s_assign (v := .d (.lit (.bool false))) (lt_of rfl) rfl rfl) ?_
 refine tr_nil ?_
 refine tr_seq ?_
 refine tr_seq ?_
 refine tr_region ?_
 refine tr1 rfl (s_loada_bp (lt_of rfl) rfl (i := 0) rfl agg_25 (es := (encApiProgram p_0)) rfl rfl) ?_
 obtain ⟨r2, h3, h⟩ := bind_some h
 refine tr1 rfl (s_call (lt_of rfl) (.func _ _ Try.call35) rfl rfl (BVs.refl _ _) (deucelaw08_Far_c _ h3) rfl) ?_
 refine tr1 rfl (s_move (v := .d (.lit (.bool r2))) (lt_of rfl) rfl rfl) ?_
 obtain ⟨b4, h5, h⟩ := bind_some h
 refine tr_guard 4 [1, 2] 24 b4 ?_ ?_
 ·refine bool_cases (r2) (fun c46 => ?_) (fun c46 => ?_)
  ·have h5 := cond_tt c46 h5
   refine tr_pass rfl rfl (lt_of rfl) rfl (lt_of rfl) rfl c46 ?_
   refine tr_pass rfl rfl (lt_of rfl) rfl (lt_of rfl) rfl c46 ?_
   refine tr_pass rfl rfl (lt_of rfl) rfl (lt_of rfl) rfl c46 ?_
   refine tr1 rfl (s_pick_t (v := .d (.lit (.bool true))) (lt_of rfl) rfl c46 rfl rfl) ?_
   have h5 := Option.some.inj h5
   subst h5
   refine tr_nil (ent_keep rfl ⟨rfl, rfl, trivial⟩ rfl)
  ·have h5 := cond_ff c46 h5
   refine tr_take1 rfl rfl (lt_of rfl) rfl c46 (s_move (v := .d (.sl 3 (old_1.map encApiSeat))) (lt_of rfl) rfl rfl) ?_
   refine tr_take1 rfl rfl (lt_of rfl) rfl c46 (s_lenm (lt_of rfl) rfl sl_26.of) ?_
   refine tr_take1 rfl rfl (lt_of rfl) rfl c46 (s_cmp (lt_of rfl) rfl rfl rfl) ?_
   refine tr1 rfl (s_pick_f (v := .d (.lit (.bool ((decide (20 < (old_1.length : Int))))))) (lt_of rfl) rfl c46 rfl rfl) ?_
   have h5 := Option.some.inj h5
   subst h5
   refine tr_nil (ent_keep rfl ⟨rfl, rfl, trivial⟩ rfl)
 ·refine tr_nil ?_
  refine tr_if rfl (fun c6 => ?_) (fun c6 => ?_)
  ·have h := cond_tt c6 h
   refine tr_seq ?_
   refine tr_region ?_
   obtain ⟨r7, h8, h⟩ := bind_some h
   refine tr1 rfl (s_call (lt_of rfl) (.func _ _ Try.call16) rfl rfl (BVs.refl _ _) (deucelaw08_works_c h8) rfl) ?_
   refine tr1 rfl (s_assign (v := .d (.lit (.bool r7))) (lt_of rfl) rfl rfl) ?_
   refine tr_nil ?_
   have h := Option.some.inj h
   subst h
   refine tr_ent (ent_free (ble_keep (l := [4]) ⟨rfl, trivial⟩)) ?_
   exact tr_ret ⟨rfl, _, .one _, rfl, rfl⟩
  ·have h := cond_ff c6 h
   refine tr_skip ?_
   refine tr_seq ?_
   refine tr_region ?_
   refine tr1 rfl (s_loada_bp (lt_of rfl) rfl (i := 0) rfl agg_25 (es := (encApiProgram p_0)) rfl rfl) ?_
   obtain ⟨r9, h10, h⟩ := bind_some h
   refine tr1 rfl (s_callf (lt_of rfl) (.func _ _ Try.call22) rfl rfl (deuceref08_Copy_c _ h10)) ?_
   refine tr_op rfl (s_alloc (zs := [.sl 1 ((([] : List (List ApiSpan))).map encSl_ApiSpan), .lit (.int .i64 0), .sl 6 ((([] : List ApiJob)).map encApiJob)]) (lt_of rfl) Try.zeroValue25 rfl rfl) ?_
   rintro _ ⟨b11, rfl⟩
   refine tr1 rfl (s_store_bp (i := 1) rfl rfl rfl rfl rfl Try.sizeOf25 rfl (lt_of rfl) (Nat.le_of_ble_eq_true rfl) (ds' := (encApiProgram r9)) rfl) ?_
   refine tr_nil ?_
   refine tr_seq ?_
   refine tr_region ?_
   refine tr1 rfl (s_loada_bp (lt_of rfl) rfl (i := 1) rfl agg_25 (es := (encApiProgram r9)) rfl rfl) ?_
   obtain ⟨r12, h13, h⟩ := bind_some h
   refine tr1 rfl (s_call (lt_of rfl) (.func _ _ Try.call23) rfl rfl (BVs.refl _ _) (play_Days_c _ h13) rfl) ?_
   refine tr1 rfl (s_move (v := .tup [.d (.lit (.int .i64 r12.1)), .d (.lit (.int .i64 r12.2))]) (lt_of rfl) rfl rfl) ?_
   refine tr1 rfl (s_extract (lt_of rfl) rfl rfl) ?_
   refine tr1 rfl (s_extract (lt_of rfl) rfl rfl) ?_
   refine tr1 rfl (s_assign (v := .d (.lit (.int .i64 r12.1))) (lt_of rfl) rfl rfl) ?_
   refine tr1 rfl (s_assign (v := .d (.lit (.int .i64 r12.2))) (lt_of rfl) rfl rfl) ?_
   refine tr_nil ?_
   refine tr_seq ?_
   refine tr_region ?_
   refine tr1 rfl (s_loada_bp (lt_of rfl) rfl (i := 0) rfl agg_25 (es := (encApiProgram p_0)) rfl rfl) ?_
   obtain ⟨r14, h15, h⟩ := bind_some h
   refine tr1 rfl (s_call (lt_of rfl) (.func _ _ Try.call36) rfl rfl (BVs.refl _ _) (deuceref08_Days_c _ h15) rfl) ?_
   refine tr1 rfl (s_move (v := .tup [.d (.lit (.int .i64 r14.1)), .d (.lit (.int .i64 r14.2))]) (lt_of rfl) rfl rfl) ?_
   refine tr1 rfl (s_extract (lt_of rfl) rfl rfl) ?_
   refine tr1 rfl (s_extract (lt_of rfl) rfl rfl) ?_
   refine tr1 rfl (s_assign (v := .d (.lit (.int .i64 r14.1))) (lt_of rfl) rfl rfl) ?_
   refine tr1 rfl (s_assign (v := .d (.lit (.int .i64 r14.2))) (lt_of rfl) rfl rfl) ?_
   refine tr_nil ?_
   refine tr_seq ?_
   refine tr_region ?_
   refine tr1 rfl (s_loada_bp (lt_of rfl) rfl (i := 1) rfl agg_25 (es := (encApiProgram r9)) rfl rfl) ?_
   obtain ⟨r16, h17, h⟩ := bind_some h
   refine tr1 rfl (s_call (lt_of rfl) (.func _ _ Try.call39) rfl rfl (BVs.refl _ _) (play_Stuck_c _ h17) rfl) ?_
   refine tr1 rfl (s_move (v := .tup [.d (.lit (.int .i64 r16.1)), .d (.lit (.int .i64 r16.2))]) (lt_of rfl) rfl rfl) ?_
   refine tr1 rfl (s_extract (lt_of rfl) rfl rfl) ?_
   refine tr1 rfl (s_extract (lt_of rfl) rfl rfl) ?_
   refine tr1 rfl (s_assign (v := .d (.lit (.int .i64 r16.1))) (lt_of rfl) rfl rfl) ?_
   refine tr1 rfl (s_assign (v := .d (.lit (.int .i64 r16.2))) (lt_of rfl) rfl rfl) ?_
   refine tr_nil ?_
   refine tr_seq ?_
   refine tr_region ?_
   refine tr1 rfl (s_loada_bp (lt_of rfl) rfl (i := 0) rfl agg_25 (es := (encApiProgram p_0)) rfl rfl) ?_
   obtain ⟨r18, h19, h⟩ := bind_some h
   refine tr1 rfl (s_call (lt_of rfl) (.func _ _ Try.call41) rfl rfl (BVs.refl _ _) (deuceref08_Stuck_c _ h19) rfl) ?_
   refine tr1 rfl (s_move (v := .tup [.d (.lit (.int .i64 r18.1)), .d (.lit (.int .i64 r18.2))]) (lt_of rfl) rfl rfl) ?_
   refine tr1 rfl (s_extract (lt_of rfl) rfl rfl) ?_
   refine tr1 rfl (s_extract (lt_of rfl) rfl rfl) ?_
   refine tr1 rfl (s_assign (v := .d (.lit (.int .i64 r18.1))) (lt_of rfl) rfl rfl) ?_
   refine tr1 rfl (s_assign (v := .d (.lit (.int .i64 r18.2))) (lt_of rfl) rfl rfl) ?_
   refine tr_nil ?_
   refine tr_seq ?_
   obtain ⟨r20, h21, h⟩ := bind_some h
   obtain ⟨r22, h23, h⟩ := bind_some h
   refine tr_drawk mix 8 [1, 2, 6, 7, 8, 9, 10, 11, 12, 13] [(14, .d (.lit (.int .i64 r22.1))), (54, .d (.lit (.int .i64 r22.2)))] ?_ ?_
   ·refine ⟨[(49, 0, .agg (encApiProgram r9)), (50, 1, .d (.sl 3 (old_1.map encApiSeat))), (51, 2, .d (.sl 3 (r20.map encApiSeat))), (52, 3, .tup [.d (.lit (.int .i64 r22.1)), .d (.lit (.int .i64 r22.2))]), (48, 4, .tup [.d (.lit (.int .i64 r22.1)), .d (.lit (.int .i64 r22.2))]), (53, 5, .d (.lit (.int .i64 r22.1))), (54, 6, .d (.lit (.int .i64 r22.2))), (14, 7, .d (.lit (.int .i64 r22.1)))], ?_, ?_⟩
    · exact ⟨by kernel_rfl, by kernel_rfl, by kernel_rfl, by kernel_rfl, by kernel_rfl, [([], []), ([], []), ([1], []), ([0, 2], []), ([3], []), ([4], []), ([4], []), ([5], [])], by kernel_rfl, ⟨fun S hS => g_fin rfl (g_op rfl (s_loada_bp (lt_of rfl) (ov_ev hS rfl) (i := 1) rfl agg_25 (es := (encApiProgram r9)) rfl rfl)),
      fun S hS => g_fin rfl (g_op rfl (s_move (v := .d (.sl 3 (old_1.map encApiSeat))) (lt_of rfl) (ov_ev hS rfl) rfl)),
      fun S hS => g_fin rfl (g_op rfl (s_callf (lt_of rfl) (.func _ _ Try.call24) (ev2 (ov_ev hS rfl) evn) rfl (deucelaw08_copied_c _ h21))),
      fun S hS => g_fin rfl (g_op rfl (s_call (lt_of rfl) (.func _ _ Try.call32) (ev2 (ov_ev hS rfl) (ev2 (ov_ev hS rfl) evn)) rfl (BVs.refl _ _) (play_Fewest_c _ _ h23) rfl)),
      fun S hS => g_fin rfl (g_op rfl (s_move (v := .tup [.d (.lit (.int .i64 r22.1)), .d (.lit (.int .i64 r22.2))]) (lt_of rfl) (ov_ev hS rfl) rfl)),
      fun S hS => g_fin rfl (g_op rfl (s_extract (lt_of rfl) (ov_ev hS rfl) rfl)),
      fun S hS => g_fin rfl (g_op rfl (s_extract (lt_of rfl) (ov_ev hS rfl) rfl)),
      fun S hS => g_fin rfl (g_op rfl (s_assign (v := .d (.lit (.int .i64 r22.1))) (lt_of rfl) (ov_ev hS rfl) rfl)), trivial⟩⟩
    · exact ent_le (le_upd rfl (le_upd rfl (le_keep ⟨rfl, rfl, rfl, rfl, rfl, rfl, rfl, rfl, rfl, rfl, trivial⟩)))
   ·refine tr1 rfl (s_assign (v := .d (.lit (.int .i64 r22.2))) (lt_of rfl) rfl rfl) ?_
    refine tr_nil ?_
    refine tr_seq ?_
    refine tr_region ?_
    refine tr1 rfl (s_loada_bp (lt_of rfl) rfl (i := 0) rfl agg_25 (es := (encApiProgram p_0)) rfl rfl) ?_
    refine tr1 rfl (s_move (v := .d (.sl 3 (old_1.map encApiSeat))) (lt_of rfl) rfl rfl) ?_
    obtain ⟨r24, h25, h⟩ := bind_some h
    refine tr1 rfl (s_call (lt_of rfl) (.func _ _ Try.call37) rfl rfl (BVs.refl _ _) (deuceref08_Fewest_c _ _ h25) rfl) ?_
    refine tr1 rfl (s_move (v := .tup [.d (.lit (.int .i64 r24.1)), .d (.lit (.int .i64 r24.2))]) (lt_of rfl) rfl rfl) ?_
    refine tr1 rfl (s_extract (lt_of rfl) rfl rfl) ?_
    refine tr1 rfl (s_extract (lt_of rfl) rfl rfl) ?_
    refine tr1 rfl (s_assign (v := .d (.lit (.int .i64 r24.1))) (lt_of rfl) rfl rfl) ?_
    refine tr1 rfl (s_assign (v := .d (.lit (.int .i64 r24.2))) (lt_of rfl) rfl rfl) ?_
    refine tr_nil ?_
    refine tr_seq ?_
    refine tr_region ?_
    refine tr1 rfl (s_move (v := .d (.lit (.int .i64 r12.1))) (lt_of rfl) rfl rfl) ?_
    refine tr1 rfl (s_move (v := .d (.lit (.int .i64 r14.1))) (lt_of rfl) rfl rfl) ?_
    refine tr1 rfl (s_cmp (lt_of rfl) rfl rfl rfl) ?_
    refine tr1 rfl (s_move (v := .d (.lit (.bool ((decide (r12.1 = r14.1)))))) (lt_of rfl) rfl rfl) ?_
    obtain ⟨b26, h27, h⟩ := bind_some h
    refine tr_guard 4 [10, 11, 12, 13, 14, 15, 16, 17] 68 b26 ?_ ?_
    ·refine bool_cases (decide (r12.1 = r14.1)) (fun c45 => ?_) (fun c45 => ?_)
     ·have h27 := cond_tt c45 h27
      refine tr_take1 rfl rfl (lt_of rfl) rfl c45 (s_move (v := .d (.lit (.int .i64 r12.2))) (lt_of rfl) rfl rfl) ?_
      refine tr_take1 rfl rfl (lt_of rfl) rfl c45 (s_move (v := .d (.lit (.int .i64 r14.2))) (lt_of rfl) rfl rfl) ?_
      refine tr_take1 rfl rfl (lt_of rfl) rfl c45 (s_cmp (lt_of rfl) rfl rfl rfl) ?_
      refine tr1 rfl (s_pick_t (v := .d (.lit (.bool ((decide (r12.2 = r14.2)))))) (lt_of rfl) rfl c45 rfl rfl) ?_
      have h27 := Option.some.inj h27
      subst h27
      refine tr_nil (ent_keep rfl ⟨rfl, rfl, rfl, rfl, rfl, rfl, rfl, rfl, trivial⟩ rfl)
     ·have h27 := cond_ff c45 h27
      refine tr_pass rfl rfl (lt_of rfl) rfl (lt_of rfl) rfl c45 ?_
      refine tr_pass rfl rfl (lt_of rfl) rfl (lt_of rfl) rfl c45 ?_
      refine tr_pass rfl rfl (lt_of rfl) rfl (lt_of rfl) rfl c45 ?_
      refine tr1 rfl (s_pick_f (v := .d (.lit (.bool false))) (lt_of rfl) rfl c45 rfl rfl) ?_
      have h27 := Option.some.inj h27
      subst h27
      refine tr_nil (ent_keep rfl ⟨rfl, rfl, rfl, rfl, rfl, rfl, rfl, rfl, trivial⟩ rfl)
    ·refine tr1 rfl (s_move (v := .d (.lit (.bool b26))) (lt_of rfl) rfl rfl) ?_
     obtain ⟨b28, h29, h⟩ := bind_some h
     refine tr_guard 4 [11, 13, 14, 15, 16, 17] 73 b28 ?_ ?_
     ·refine bool_cases (b26) (fun c44 => ?_) (fun c44 => ?_)
      ·have h29 := cond_tt c44 h29
       refine tr_take1 rfl rfl (lt_of rfl) rfl c44 (s_move (v := .d (.lit (.int .i64 r16.1))) (lt_of rfl) rfl rfl) ?_
       refine tr_take1 rfl rfl (lt_of rfl) rfl c44 (s_move (v := .d (.lit (.int .i64 r18.1))) (lt_of rfl) rfl rfl) ?_
       refine tr_take1 rfl rfl (lt_of rfl) rfl c44 (s_cmp (lt_of rfl) rfl rfl rfl) ?_
       refine tr1 rfl (s_pick_t (v := .d (.lit (.bool ((decide (r16.1 = r18.1)))))) (lt_of rfl) rfl c44 rfl rfl) ?_
       have h29 := Option.some.inj h29
       subst h29
       refine tr_nil (ent_keep rfl ⟨rfl, rfl, rfl, rfl, rfl, rfl, trivial⟩ rfl)
      ·have h29 := cond_ff c44 h29
       refine tr_pass rfl rfl (lt_of rfl) rfl (lt_of rfl) rfl c44 ?_
       refine tr_pass rfl rfl (lt_of rfl) rfl (lt_of rfl) rfl c44 ?_
       refine tr_pass rfl rfl (lt_of rfl) rfl (lt_of rfl) rfl c44 ?_
       refine tr1 rfl (s_pick_f (v := .d (.lit (.bool false))) (lt_of rfl) rfl c44 rfl rfl) ?_
       have h29 := Option.some.inj h29
       subst h29
       refine tr_nil (ent_keep rfl ⟨rfl, rfl, rfl, rfl, rfl, rfl, trivial⟩ rfl)
     ·refine tr1 rfl (s_move (v := .d (.lit (.bool b28))) (lt_of rfl) rfl rfl) ?_
      obtain ⟨b30, h31, h⟩ := bind_some h
      refine tr_guard 4 [14, 15, 16, 17] 78 b30 ?_ ?_
      ·refine bool_cases (b28) (fun c43 => ?_) (fun c43 => ?_)
       ·have h31 := cond_tt c43 h31
        refine tr_take1 rfl rfl (lt_of rfl) rfl c43 (s_move (v := .d (.lit (.int .i64 r16.2))) (lt_of rfl) rfl rfl) ?_
        refine tr_take1 rfl rfl (lt_of rfl) rfl c43 (s_move (v := .d (.lit (.int .i64 r18.2))) (lt_of rfl) rfl rfl) ?_
        refine tr_take1 rfl rfl (lt_of rfl) rfl c43 (s_cmp (lt_of rfl) rfl rfl rfl) ?_
        refine tr1 rfl (s_pick_t (v := .d (.lit (.bool ((decide (r16.2 = r18.2)))))) (lt_of rfl) rfl c43 rfl rfl) ?_
        have h31 := Option.some.inj h31
        subst h31
        refine tr_nil (ent_keep rfl ⟨rfl, rfl, rfl, rfl, trivial⟩ rfl)
       ·have h31 := cond_ff c43 h31
        refine tr_pass rfl rfl (lt_of rfl) rfl (lt_of rfl) rfl c43 ?_
        refine tr_pass rfl rfl (lt_of rfl) rfl (lt_of rfl) rfl c43 ?_
        refine tr_pass rfl rfl (lt_of rfl) rfl (lt_of rfl) rfl c43 ?_
        refine tr1 rfl (s_pick_f (v := .d (.lit (.bool false))) (lt_of rfl) rfl c43 rfl rfl) ?_
        have h31 := Option.some.inj h31
        subst h31
        refine tr_nil (ent_keep rfl ⟨rfl, rfl, rfl, rfl, trivial⟩ rfl)
      ·refine tr1 rfl (s_move (v := .d (.lit (.bool b30))) (lt_of rfl) rfl rfl) ?_
       obtain ⟨b32, h33, h⟩ := bind_some h
       refine tr_guard 4 [15, 17] 83 b32 ?_ ?_
       ·refine bool_cases (b30) (fun c42 => ?_) (fun c42 => ?_)
        ·have h33 := cond_tt c42 h33
         refine tr_take1 rfl rfl (lt_of rfl) rfl c42 (s_move (v := .d (.lit (.int .i64 r22.1))) (lt_of rfl) rfl rfl) ?_
         refine tr_take1 rfl rfl (lt_of rfl) rfl c42 (s_move (v := .d (.lit (.int .i64 r24.1))) (lt_of rfl) rfl rfl) ?_
         refine tr_take1 rfl rfl (lt_of rfl) rfl c42 (s_cmp (lt_of rfl) rfl rfl rfl) ?_
         refine tr1 rfl (s_pick_t (v := .d (.lit (.bool ((decide (r22.1 = r24.1)))))) (lt_of rfl) rfl c42 rfl rfl) ?_
         have h33 := Option.some.inj h33
         subst h33
         refine tr_nil (ent_keep rfl ⟨rfl, rfl, trivial⟩ rfl)
        ·have h33 := cond_ff c42 h33
         refine tr_pass rfl rfl (lt_of rfl) rfl (lt_of rfl) rfl c42 ?_
         refine tr_pass rfl rfl (lt_of rfl) rfl (lt_of rfl) rfl c42 ?_
         refine tr_pass rfl rfl (lt_of rfl) rfl (lt_of rfl) rfl c42 ?_
         refine tr1 rfl (s_pick_f (v := .d (.lit (.bool false))) (lt_of rfl) rfl c42 rfl rfl) ?_
         have h33 := Option.some.inj h33
         subst h33
         refine tr_nil (ent_keep rfl ⟨rfl, rfl, trivial⟩ rfl)
       ·refine tr1 rfl (s_move (v := .d (.lit (.bool b32))) (lt_of rfl) rfl rfl) ?_
        obtain ⟨b34, h35, h⟩ := bind_some h
        refine tr_guard 4 [] 88 b34 ?_ ?_
        ·refine bool_cases (b32) (fun c41 => ?_) (fun c41 => ?_)
         ·have h35 := cond_tt c41 h35
          refine tr_take1 rfl rfl (lt_of rfl) rfl c41 (s_move (v := .d (.lit (.int .i64 r22.2))) (lt_of rfl) rfl rfl) ?_
          refine tr_take1 rfl rfl (lt_of rfl) rfl c41 (s_move (v := .d (.lit (.int .i64 r24.2))) (lt_of rfl) rfl rfl) ?_
          refine tr_take1 rfl rfl (lt_of rfl) rfl c41 (s_cmp (lt_of rfl) rfl rfl rfl) ?_
          refine tr1 rfl (s_pick_t (v := .d (.lit (.bool ((decide (r22.2 = r24.2)))))) (lt_of rfl) rfl c41 rfl rfl) ?_
          have h35 := Option.some.inj h35
          subst h35
          refine tr_nil (ent_keep rfl trivial rfl)
         ·have h35 := cond_ff c41 h35
          refine tr_pass rfl rfl (lt_of rfl) rfl (lt_of rfl) rfl c41 ?_
          refine tr_pass rfl rfl (lt_of rfl) rfl (lt_of rfl) rfl c41 ?_
          refine tr_pass rfl rfl (lt_of rfl) rfl (lt_of rfl) rfl c41 ?_
          refine tr1 rfl (s_pick_f (v := .d (.lit (.bool false))) (lt_of rfl) rfl c41 rfl rfl) ?_
          have h35 := Option.some.inj h35
          subst h35
          refine tr_nil (ent_keep rfl trivial rfl)
        ·refine tr1 rfl (s_move (v := .d (.lit (.bool b34))) (lt_of rfl) rfl rfl) ?_
         obtain ⟨b36, h37, h⟩ := bind_some h
         refine tr_guard 2 [] 91 b36 ?_ ?_
         ·refine bool_cases (b34) (fun c38 => ?_) (fun c38 => ?_)
          ·have h37 := cond_tt c38 h37
           obtain ⟨r39, h40, h37⟩ := bind_some h37
           refine tr_take1 rfl rfl (lt_of rfl) rfl c38 (s_call (lt_of rfl) (.func _ _ Try.call16) rfl rfl (BVs.refl _ _) (deucelaw08_works_c h40) rfl) ?_
           refine tr1 rfl (s_pick_t (v := .d (.lit (.bool r39))) (lt_of rfl) rfl c38 rfl rfl) ?_
           have h37 := Option.some.inj h37
           subst h37
           refine tr_nil (ent_keep rfl trivial rfl)
          ·have h37 := cond_ff c38 h37
           refine tr_pass rfl rfl (lt_of rfl) rfl (lt_of rfl) rfl c38 ?_
           refine tr1 rfl (s_pick_f (v := .d (.lit (.bool false))) (lt_of rfl) rfl c38 rfl rfl) ?_
           have h37 := Option.some.inj h37
           subst h37
           refine tr_nil (ent_keep rfl trivial rfl)
         ·refine tr1 rfl (s_assign (v := .d (.lit (.bool b36))) (lt_of rfl) rfl rfl) ?_
          refine tr_nil ?_
          have h := Option.some.inj h
          subst h
          refine tr_ent (ent_free (ble_keep (l := [4]) ⟨rfl, trivial⟩)) ?_
          exact tr_ret ⟨rfl, _, .one _, rfl, rfl⟩

end Go.Am
