/- The functions compute what the shallow ones say: printed by program. -/
import Derived.Test.YtikcmpflkibomaaPlaySimP2
namespace Go.Am
open Go.Proofs
set_option maxRecDepth 100000
set_option maxHeartbeats 4000000

theorem deucelaw08_PlayReal_c (p_0 : ApiProgram) (order_1 : List ApiSeat) (takes_2 : List Int) {r : Bool} (h : deucelaw08_PlayReal p_0 order_1 takes_2 = some r) : Fn Try.prog 3 [.agg (encApiProgram p_0), .d (.sl 3 (order_1.map encApiSeat)), .d (.sl 1 (takes_2.map encI))] (.d (.lit (.bool r))) := by
  unfold deucelaw08_PlayReal at h
  refine Fn.of_tr Try.func3 rfl (rs := [.tmp 6]) Try.results3 Try.ntmps3 (Nat.le_of_ble_eq_true rfl) ?_
  refine tr_seq ?_
  refine tr_region ?_
  refine tr_op rfl (s_box (v := .agg (encApiProgram p_0)) (lt_of rfl) rfl rfl rfl) ?_
  rintro _ ⟨b1, rfl⟩
  refine tr1 rfl (s_assign (v := .d (.lit (.bool false))) (lt_of rfl) rfl rfl) ?_
  refine tr_nil ?_
  refine tr_seq ?_
  refine tr_seq ?_
  refine tr_region ?_
  refine tr1 rfl (s_loada_bp (lt_of rfl) rfl (i := 0) rfl agg_25 (es := (encApiProgram p_0)) rfl rfl) ?_
  obtain ⟨r2, h3, h⟩ := bind_some h
  refine tr1 rfl (s_call (lt_of rfl) (.func _ _ Try.call13) rfl rfl (BVs.refl _ _) (deucelaw08_huge_c _ h3) rfl) ?_
  refine tr1 rfl (s_move (v := .d (.lit (.bool r2))) (lt_of rfl) rfl rfl) ?_
  obtain ⟨b4, h5, h⟩ := bind_some h
  refine tr_guard 4 [1, 2, 3] 27 b4 ?_ ?_
  · refine bool_cases (r2) (fun c133 => ?_) (fun c133 => ?_)
    · have h5 := cond_tt c133 h5
      refine tr_pass rfl rfl (lt_of rfl) rfl (lt_of rfl) rfl c133 ?_
      refine tr_pass rfl rfl (lt_of rfl) rfl (lt_of rfl) rfl c133 ?_
      refine tr_pass rfl rfl (lt_of rfl) rfl (lt_of rfl) rfl c133 ?_
      refine tr1 rfl (s_pick_t (v := .d (.lit (.bool true))) (lt_of rfl) rfl c133 rfl rfl) ?_
      have h5 := Option.some.inj h5
      subst h5
      refine tr_nil (ent_keep rfl ⟨rfl, rfl, rfl, trivial⟩ rfl)
    · have h5 := cond_ff c133 h5
      refine tr_take1 rfl rfl (lt_of rfl) rfl c133 (s_loada_bp (lt_of rfl) rfl (i := 0) rfl agg_25 (es := (encApiProgram p_0)) rfl rfl) ?_
      obtain ⟨r134, h135, h5⟩ := bind_some h5
      refine tr_take1 rfl rfl (lt_of rfl) rfl c133 (s_call (lt_of rfl) (.func _ _ Try.call14) rfl rfl (BVs.refl _ _) (deuceref08_Check_c _ h135) rfl) ?_
      refine tr_take1 rfl rfl (lt_of rfl) rfl c133 (s_cmp (lt_of rfl) rfl rfl rfl) ?_
      refine tr1 rfl (s_pick_f (v := .d (.lit (.bool ((!decide (r134 = 0)))))) (lt_of rfl) rfl c133 rfl rfl) ?_
      have h5 := Option.some.inj h5
      subst h5
      refine tr_nil (ent_keep rfl ⟨rfl, rfl, rfl, trivial⟩ rfl)
  · refine tr1 rfl (s_move (v := .d (.lit (.bool b4))) (lt_of rfl) rfl rfl) ?_
    obtain ⟨b6, h7, h⟩ := bind_some h
    refine tr_guard 4 [1, 2, 3] 32 b6 ?_ ?_
    · refine bool_cases (b4) (fun c132 => ?_) (fun c132 => ?_)
      · have h7 := cond_tt c132 h7
        refine tr_pass rfl rfl (lt_of rfl) rfl (lt_of rfl) rfl c132 ?_
        refine tr_pass rfl rfl (lt_of rfl) rfl (lt_of rfl) rfl c132 ?_
        refine tr_pass rfl rfl (lt_of rfl) rfl (lt_of rfl) rfl c132 ?_
        refine tr1 rfl (s_pick_t (v := .d (.lit (.bool true))) (lt_of rfl) rfl c132 rfl rfl) ?_
        have h7 := Option.some.inj h7
        subst h7
        refine tr_nil (ent_keep rfl ⟨rfl, rfl, rfl, trivial⟩ rfl)
      · have h7 := cond_ff c132 h7
        refine tr_take1 rfl rfl (lt_of rfl) rfl c132 (s_move (v := .d (.sl 3 (order_1.map encApiSeat))) (lt_of rfl) rfl rfl) ?_
        refine tr_take1 rfl rfl (lt_of rfl) rfl c132 (s_lenm (lt_of rfl) rfl sl_26.of) ?_
        refine tr_take1 rfl rfl (lt_of rfl) rfl c132 (s_cmp (lt_of rfl) rfl rfl rfl) ?_
        refine tr1 rfl (s_pick_f (v := .d (.lit (.bool ((decide (20 < (order_1.length : Int))))))) (lt_of rfl) rfl c132 rfl rfl) ?_
        have h7 := Option.some.inj h7
        subst h7
        refine tr_nil (ent_keep rfl ⟨rfl, rfl, rfl, trivial⟩ rfl)
    · refine tr1 rfl (s_move (v := .d (.lit (.bool b6))) (lt_of rfl) rfl rfl) ?_
      obtain ⟨b8, h9, h⟩ := bind_some h
      refine tr_guard 5 [1, 2, 3] 38 b8 ?_ ?_
      · refine bool_cases (b6) (fun c129 => ?_) (fun c129 => ?_)
        · have h9 := cond_tt c129 h9
          refine tr_pass rfl rfl (lt_of rfl) rfl (lt_of rfl) rfl c129 ?_
          refine tr_pass rfl rfl (lt_of rfl) rfl (lt_of rfl) rfl c129 ?_
          refine tr_pass rfl rfl (lt_of rfl) rfl (lt_of rfl) rfl c129 ?_
          refine tr_pass rfl rfl (lt_of rfl) rfl (lt_of rfl) rfl c129 ?_
          refine tr1 rfl (s_pick_t (v := .d (.lit (.bool true))) (lt_of rfl) rfl c129 rfl rfl) ?_
          have h9 := Option.some.inj h9
          subst h9
          refine tr_nil (ent_keep rfl ⟨rfl, rfl, rfl, trivial⟩ rfl)
        · have h9 := cond_ff c129 h9
          refine tr_take1 rfl rfl (lt_of rfl) rfl c129 (s_loada_bp (lt_of rfl) rfl (i := 0) rfl agg_25 (es := (encApiProgram p_0)) rfl rfl) ?_
          refine tr_take1 rfl rfl (lt_of rfl) rfl c129 (s_move (v := .d (.sl 3 (order_1.map encApiSeat))) (lt_of rfl) rfl rfl) ?_
          obtain ⟨r130, h131, h9⟩ := bind_some h9
          refine tr_take1 rfl rfl (lt_of rfl) rfl c129 (s_call (lt_of rfl) (.func _ _ Try.call15) rfl rfl (BVs.refl _ _) (deuceref08_IsOrder_c _ _ h131) rfl) ?_
          refine tr_take1 rfl rfl (lt_of rfl) rfl c129 (s_not (lt_of rfl) rfl) ?_
          refine tr1 rfl (s_pick_f (v := .d (.lit (.bool (!r130)))) (lt_of rfl) rfl c129 rfl rfl) ?_
          have h9 := Option.some.inj h9
          subst h9
          refine tr_nil (ent_keep rfl ⟨rfl, rfl, rfl, trivial⟩ rfl)
      · refine tr1 rfl (s_move (v := .d (.lit (.bool b8))) (lt_of rfl) rfl rfl) ?_
        obtain ⟨b10, h11, h⟩ := bind_some h
        refine tr_guard 7 [1, 2, 3] 46 b10 ?_ ?_
        · refine bool_cases (b8) (fun c128 => ?_) (fun c128 => ?_)
          · have h11 := cond_tt c128 h11
            refine tr_pass rfl rfl (lt_of rfl) rfl (lt_of rfl) rfl c128 ?_
            refine tr_pass rfl rfl (lt_of rfl) rfl (lt_of rfl) rfl c128 ?_
            refine tr_pass rfl rfl (lt_of rfl) rfl (lt_of rfl) rfl c128 ?_
            refine tr_pass rfl rfl (lt_of rfl) rfl (lt_of rfl) rfl c128 ?_
            refine tr_pass rfl rfl (lt_of rfl) rfl (lt_of rfl) rfl c128 ?_
            refine tr_pass rfl rfl (lt_of rfl) rfl (lt_of rfl) rfl c128 ?_
            refine tr1 rfl (s_pick_t (v := .d (.lit (.bool true))) (lt_of rfl) rfl c128 rfl rfl) ?_
            have h11 := Option.some.inj h11
            subst h11
            refine tr_nil (ent_keep rfl ⟨rfl, rfl, rfl, trivial⟩ rfl)
          · have h11 := cond_ff c128 h11
            refine tr_take1 rfl rfl (lt_of rfl) rfl c128 (s_move (v := .d (.sl 1 (takes_2.map encI))) (lt_of rfl) rfl rfl) ?_
            refine tr_take1 rfl rfl (lt_of rfl) rfl c128 (s_lenm (lt_of rfl) rfl sl_27.of) ?_
            refine tr_take1 rfl rfl (lt_of rfl) rfl c128 (s_field_bp (lt_of rfl) rfl fld_25_2) ?_
            refine tr_take1 rfl rfl (lt_of rfl) rfl c128 (s_load_bp (lt_of rfl) rfl (i := 0) rfl rfl one_23) ?_
            refine tr_take1 rfl rfl (lt_of rfl) rfl c128 (s_lenm (lt_of rfl) rfl sl_23.of) ?_
            refine tr_take1 rfl rfl (lt_of rfl) rfl c128 (s_cmp (lt_of rfl) rfl rfl rfl) ?_
            refine tr1 rfl (s_pick_f (v := .d (.lit (.bool ((!decide ((takes_2.length : Int) = (p_0.Jobs.length : Int))))))) (lt_of rfl) rfl c128 rfl rfl) ?_
            have h11 := Option.some.inj h11
            subst h11
            refine tr_nil (ent_keep rfl ⟨rfl, rfl, rfl, trivial⟩ rfl)
        · refine tr_nil ?_
          refine tr_if rfl (fun c12 => ?_) (fun c12 => ?_)
          · have h := cond_tt c12 h
            refine tr_seq ?_
            refine tr_region ?_
            obtain ⟨r13, h14, h⟩ := bind_some h
            refine tr1 rfl (s_call (lt_of rfl) (.func _ _ Try.call16) rfl rfl (BVs.refl _ _) (deucelaw08_works_c h14) rfl) ?_
            refine tr1 rfl (s_assign (v := .d (.lit (.bool r13))) (lt_of rfl) rfl rfl) ?_
            refine tr_nil ?_
            have h := Option.some.inj h
            subst h
            refine tr_ent (ent_free (ble_keep (l := [6]) ⟨rfl, trivial⟩)) ?_
            exact tr_ret ⟨rfl, _, .one _, rfl, rfl⟩
          · have h := cond_ff c12 h
            refine tr_skip ?_
            refine tr_seq ?_
            refine tr_seq ?_
            refine tr_region ?_
            refine tr1 rfl (s_assign (v := .d (.lit (.int .i64 0))) (lt_of rfl) rfl rfl) ?_
            refine tr_nil ?_
            refine tr_blk ?_
            refine tr_loopk [1, 2, 3] (fun (s15 : Int) => [(7, .d (.lit (.int .i64 s15)))]) (fun (s15 : Int) => [.box b1 0 (encApiProgram p_0)]) (fun (k : Nat) (s15 : Int) => deucelaw08_PlayReal_L0 order_1 takes_2 p_0 k s15) (fun _ => rfl) (0) h (ent_pick [0] rfl rfl (le_upd rfl (le_keep ⟨rfl, rfl, rfl, trivial⟩))) ?_
            rintro k16 i_0_15 h
            simp only [deucelaw08_PlayReal_L0] at h
            refine tr_seq ?_
            refine tr_seq ?_
            refine tr_region ?_
            refine tr1 rfl (s_move (v := .d (.lit (.int .i64 i_0_15))) (lt_of rfl) rfl rfl) ?_
            refine tr1 rfl (s_move (v := .d (.sl 1 (takes_2.map encI))) (lt_of rfl) rfl rfl) ?_
            refine tr1 rfl (s_lenm (lt_of rfl) rfl sl_27.of) ?_
            refine tr1 rfl (s_cmp (lt_of rfl) rfl rfl rfl) ?_
            refine tr_nil ?_
            refine tr_if rfl (fun c17 => ?_) (fun c17 => ?_)
            · have h := cond_tt c17 h
              refine tr_skip ?_
              refine tr_seq ?_
              refine tr_blk ?_
              refine tr_seq ?_
              obtain ⟨x18, h19, h⟩ := bind_some h
              obtain ⟨x20, h21, h⟩ := bind_some h
              obtain ⟨b22, h23, h⟩ := bind_some h
              refine tr_drawk mix 26 [1, 2, 3, 7] [(79, .d (.lit (.bool b22)))] ?_ ?_
              · refine bool_cases (decide (x18 < x20.Length.Low)) (fun c24 => ?_) (fun c24 => ?_)
                · have h23 := cond_tt c24 h23
                  have h23 := Option.some.inj h23
                  subst h23
                  refine ⟨[(54, 0, .d (.sl 1 (takes_2.map encI))), (55, 1, .d (.lit (.int .i64 i_0_15))), (56, 2, .cp [.lit (.int .i64 x18)]), (57, 3, .d (.lit (.int .i64 x18))), (58, 4, .bp b1 0 2), (59, 5, .d (.sl 6 (p_0.Jobs.map encApiJob))), (60, 6, .d (.lit (.int .i64 i_0_15))), (61, 7, .cp [.lit (.int .i64 x20.Length.Low), .lit (.int .i64 x20.Length.High), .sl 1 (x20.After.map encI), .sl 1 (x20.With.map encI), .lit (.int .i64 x20.Due), .lit (.int .i64 x20.Earliest)]), (62, 8, .cp [.lit (.int .i64 x20.Length.Low), .lit (.int .i64 x20.Length.High)]), (63, 9, .cp [.lit (.int .i64 x20.Length.Low)]), (64, 10, .d (.lit (.int .i64 x20.Length.Low))), (65, 11, .d (.lit (.bool ((decide (x18 < x20.Length.Low)))))), (66, 12, .d (.lit (.bool ((decide (x18 < x20.Length.Low)))))), (67, 13, .tup []), (68, 14, .tup []), (69, 15, .tup []), (70, 16, .tup []), (71, 17, .tup []), (72, 18, .tup []), (73, 19, .tup []), (74, 20, .tup []), (75, 21, .tup []), (76, 22, .tup []), (77, 23, .tup []), (78, 24, .tup []), (79, 25, .d (.lit (.bool true)))], ?_, ?_⟩
                  · exact ⟨by kernel_rfl, by kernel_rfl, by kernel_rfl, by kernel_rfl, by kernel_rfl, [([], []), ([], []), ([0, 1], []), ([2], []), ([], []), ([4], []), ([], []), ([5, 6], []), ([7], []), ([8], []), ([9], []), ([3, 10], []), ([11], []), ([12], []), ([12], []), ([12, 13, 14], []), ([12, 15], []), ([12], []), ([12, 17], []), ([12], []), ([12, 18, 19], []), ([12, 20], []), ([12, 21], []), ([12, 22], []), ([12, 16, 23], []), ([12, 24], [])], by kernel_rfl, ⟨fun S hS => g_fin rfl (g_op rfl (s_move (v := .d (.sl 1 (takes_2.map encI))) (lt_of rfl) (ov_ev hS rfl) rfl)),
      fun S hS => g_fin rfl (g_op rfl (s_move (v := .d (.lit (.int .i64 i_0_15))) (lt_of rfl) (ov_ev hS rfl) rfl)),
      fun S hS => g_fin rfl (g_op rfl (s_index_sl (lt_of rfl) (ov_ev hS rfl) (ov_ev hS rfl) sl_27.of (idx_map encI h19))),
      fun S hS => g_fin rfl (g_op rfl (s_load_cp (lt_of rfl) (ov_ev hS rfl) one_3)),
      fun S hS => g_fin rfl (g_op rfl (s_field_bp (lt_of rfl) (ov_ev hS rfl) fld_25_2)),
      fun S hS => g_fin rfl (g_op rfl (s_load_bp (lt_of rfl) (ov_ev hS rfl) (i := 0) rfl rfl one_23)),
      fun S hS => g_fin rfl (g_op rfl (s_move (v := .d (.lit (.int .i64 i_0_15))) (lt_of rfl) (ov_ev hS rfl) rfl)),
      fun S hS => g_fin rfl (g_op rfl (s_index_sl (lt_of rfl) (ov_ev hS rfl) (ov_ev hS rfl) sl_23.of (idx_map encApiJob h21))),
      fun S hS => g_fin rfl (g_op rfl (s_field_cp (lt_of rfl) (ov_ev hS rfl) fld_36_0 (es := [.lit (.int .i64 x20.Length.Low), .lit (.int .i64 x20.Length.High)]) rfl)),
      fun S hS => g_fin rfl (g_op rfl (s_field_cp (lt_of rfl) (ov_ev hS rfl) fld_34_0 (es := [.lit (.int .i64 x20.Length.Low)]) rfl)),
      fun S hS => g_fin rfl (g_op rfl (s_load_cp (lt_of rfl) (ov_ev hS rfl) one_3)),
      fun S hS => g_fin rfl (g_op rfl (s_cmp (lt_of rfl) (ov_ev hS rfl) (ov_ev hS rfl) rfl)),
      fun S hS => g_fin rfl (g_op rfl (s_move (v := .d (.lit (.bool ((decide (x18 < x20.Length.Low)))))) (lt_of rfl) (ov_ev hS rfl) rfl)),
      fun S hS => g_fin rfl (g_pass rfl rfl (lt_of rfl) rfl (lt_of rfl) (ov_en hS rfl) c24),
      fun S hS => g_fin rfl (g_pass rfl rfl (lt_of rfl) rfl (lt_of rfl) (ov_en hS rfl) c24),
      fun S hS => g_fin rfl (g_pass rfl rfl (lt_of rfl) rfl (lt_of rfl) (ov_en hS rfl) c24),
      fun S hS => g_fin rfl (g_pass rfl rfl (lt_of rfl) rfl (lt_of rfl) (ov_en hS rfl) c24),
      fun S hS => g_fin rfl (g_pass rfl rfl (lt_of rfl) rfl (lt_of rfl) (ov_en hS rfl) c24),
      fun S hS => g_fin rfl (g_pass rfl rfl (lt_of rfl) rfl (lt_of rfl) (ov_en hS rfl) c24),
      fun S hS => g_fin rfl (g_pass rfl rfl (lt_of rfl) rfl (lt_of rfl) (ov_en hS rfl) c24),
      fun S hS => g_fin rfl (g_pass rfl rfl (lt_of rfl) rfl (lt_of rfl) (ov_en hS rfl) c24),
      fun S hS => g_fin rfl (g_pass rfl rfl (lt_of rfl) rfl (lt_of rfl) (ov_en hS rfl) c24),
      fun S hS => g_fin rfl (g_pass rfl rfl (lt_of rfl) rfl (lt_of rfl) (ov_en hS rfl) c24),
      fun S hS => g_fin rfl (g_pass rfl rfl (lt_of rfl) rfl (lt_of rfl) (ov_en hS rfl) c24),
      fun S hS => g_fin rfl (g_pass rfl rfl (lt_of rfl) rfl (lt_of rfl) (ov_en hS rfl) c24),
      fun S hS => g_fin rfl (g_op rfl (s_pick_t (v := .d (.lit (.bool true))) (lt_of rfl) (ov_ev hS rfl) c24 rfl rfl)), trivial⟩⟩
                  · exact ent_le (le_upd rfl (le_keep ⟨rfl, rfl, rfl, rfl, trivial⟩))
                · have h23 := cond_ff c24 h23
                  obtain ⟨x25, h26, h23⟩ := bind_some h23
                  obtain ⟨x27, h28, h23⟩ := bind_some h23
                  have h23 := Option.some.inj h23
                  subst h23
                  refine ⟨[(54, 0, .d (.sl 1 (takes_2.map encI))), (55, 1, .d (.lit (.int .i64 i_0_15))), (56, 2, .cp [.lit (.int .i64 x18)]), (57, 3, .d (.lit (.int .i64 x18))), (58, 4, .bp b1 0 2), (59, 5, .d (.sl 6 (p_0.Jobs.map encApiJob))), (60, 6, .d (.lit (.int .i64 i_0_15))), (61, 7, .cp [.lit (.int .i64 x20.Length.Low), .lit (.int .i64 x20.Length.High), .sl 1 (x20.After.map encI), .sl 1 (x20.With.map encI), .lit (.int .i64 x20.Due), .lit (.int .i64 x20.Earliest)]), (62, 8, .cp [.lit (.int .i64 x20.Length.Low), .lit (.int .i64 x20.Length.High)]), (63, 9, .cp [.lit (.int .i64 x20.Length.Low)]), (64, 10, .d (.lit (.int .i64 x20.Length.Low))), (65, 11, .d (.lit (.bool ((decide (x18 < x20.Length.Low)))))), (66, 12, .d (.lit (.bool ((decide (x18 < x20.Length.Low)))))), (67, 13, .d (.sl 1 (takes_2.map encI))), (68, 14, .d (.lit (.int .i64 i_0_15))), (69, 15, .cp [.lit (.int .i64 x25)]), (70, 16, .d (.lit (.int .i64 x25))), (71, 17, .bp b1 0 2), (72, 18, .d (.sl 6 (p_0.Jobs.map encApiJob))), (73, 19, .d (.lit (.int .i64 i_0_15))), (74, 20, .cp [.lit (.int .i64 x27.Length.Low), .lit (.int .i64 x27.Length.High), .sl 1 (x27.After.map encI), .sl 1 (x27.With.map encI), .lit (.int .i64 x27.Due), .lit (.int .i64 x27.Earliest)]), (75, 21, .cp [.lit (.int .i64 x27.Length.Low), .lit (.int .i64 x27.Length.High)]), (76, 22, .cp [.lit (.int .i64 x27.Length.High)]), (77, 23, .d (.lit (.int .i64 x27.Length.High))), (78, 24, .d (.lit (.bool ((decide (x27.Length.High < x25)))))), (79, 25, .d (.lit (.bool ((decide (x27.Length.High < x25))))))], ?_, ?_⟩
                  · exact ⟨by kernel_rfl, by kernel_rfl, by kernel_rfl, by kernel_rfl, by kernel_rfl, [([], []), ([], []), ([0, 1], []), ([2], []), ([], []), ([4], []), ([], []), ([5, 6], []), ([7], []), ([8], []), ([9], []), ([3, 10], []), ([11], []), ([12], []), ([12], []), ([12, 13, 14], []), ([12, 15], []), ([12], []), ([12, 17], []), ([12], []), ([12, 18, 19], []), ([12, 20], []), ([12, 21], []), ([12, 22], []), ([12, 16, 23], []), ([12, 24], [])], by kernel_rfl, ⟨fun S hS => g_fin rfl (g_op rfl (s_move (v := .d (.sl 1 (takes_2.map encI))) (lt_of rfl) (ov_ev hS rfl) rfl)),
      fun S hS => g_fin rfl (g_op rfl (s_move (v := .d (.lit (.int .i64 i_0_15))) (lt_of rfl) (ov_ev hS rfl) rfl)),
      fun S hS => g_fin rfl (g_op rfl (s_index_sl (lt_of rfl) (ov_ev hS rfl) (ov_ev hS rfl) sl_27.of (idx_map encI h19))),
      fun S hS => g_fin rfl (g_op rfl (s_load_cp (lt_of rfl) (ov_ev hS rfl) one_3)),
      fun S hS => g_fin rfl (g_op rfl (s_field_bp (lt_of rfl) (ov_ev hS rfl) fld_25_2)),
      fun S hS => g_fin rfl (g_op rfl (s_load_bp (lt_of rfl) (ov_ev hS rfl) (i := 0) rfl rfl one_23)),
      fun S hS => g_fin rfl (g_op rfl (s_move (v := .d (.lit (.int .i64 i_0_15))) (lt_of rfl) (ov_ev hS rfl) rfl)),
      fun S hS => g_fin rfl (g_op rfl (s_index_sl (lt_of rfl) (ov_ev hS rfl) (ov_ev hS rfl) sl_23.of (idx_map encApiJob h21))),
      fun S hS => g_fin rfl (g_op rfl (s_field_cp (lt_of rfl) (ov_ev hS rfl) fld_36_0 (es := [.lit (.int .i64 x20.Length.Low), .lit (.int .i64 x20.Length.High)]) rfl)),
      fun S hS => g_fin rfl (g_op rfl (s_field_cp (lt_of rfl) (ov_ev hS rfl) fld_34_0 (es := [.lit (.int .i64 x20.Length.Low)]) rfl)),
      fun S hS => g_fin rfl (g_op rfl (s_load_cp (lt_of rfl) (ov_ev hS rfl) one_3)),
      fun S hS => g_fin rfl (g_op rfl (s_cmp (lt_of rfl) (ov_ev hS rfl) (ov_ev hS rfl) rfl)),
      fun S hS => g_fin rfl (g_op rfl (s_move (v := .d (.lit (.bool ((decide (x18 < x20.Length.Low)))))) (lt_of rfl) (ov_ev hS rfl) rfl)),
      fun S hS => g_fin rfl (g_take rfl rfl (lt_of rfl) (ov_en hS rfl) c24 (s_move (v := .d (.sl 1 (takes_2.map encI))) (lt_of rfl) (ov_ev hS rfl) rfl)),
      fun S hS => g_fin rfl (g_take rfl rfl (lt_of rfl) (ov_en hS rfl) c24 (s_move (v := .d (.lit (.int .i64 i_0_15))) (lt_of rfl) (ov_ev hS rfl) rfl)),
      fun S hS => g_fin rfl (g_take rfl rfl (lt_of rfl) (ov_en hS rfl) c24 (s_index_sl (lt_of rfl) (ov_ev hS rfl) (ov_ev hS rfl) sl_27.of (idx_map encI h26))),
      fun S hS => g_fin rfl (g_take rfl rfl (lt_of rfl) (ov_en hS rfl) c24 (s_load_cp (lt_of rfl) (ov_ev hS rfl) one_3)),
      fun S hS => g_fin rfl (g_take rfl rfl (lt_of rfl) (ov_en hS rfl) c24 (s_field_bp (lt_of rfl) (ov_ev hS rfl) fld_25_2)),
      fun S hS => g_fin rfl (g_take rfl rfl (lt_of rfl) (ov_en hS rfl) c24 (s_load_bp (lt_of rfl) (ov_ev hS rfl) (i := 0) rfl rfl one_23)),
      fun S hS => g_fin rfl (g_take rfl rfl (lt_of rfl) (ov_en hS rfl) c24 (s_move (v := .d (.lit (.int .i64 i_0_15))) (lt_of rfl) (ov_ev hS rfl) rfl)),
      fun S hS => g_fin rfl (g_take rfl rfl (lt_of rfl) (ov_en hS rfl) c24 (s_index_sl (lt_of rfl) (ov_ev hS rfl) (ov_ev hS rfl) sl_23.of (idx_map encApiJob h28))),
      fun S hS => g_fin rfl (g_take rfl rfl (lt_of rfl) (ov_en hS rfl) c24 (s_field_cp (lt_of rfl) (ov_ev hS rfl) fld_36_0 (es := [.lit (.int .i64 x27.Length.Low), .lit (.int .i64 x27.Length.High)]) rfl)),
      fun S hS => g_fin rfl (g_take rfl rfl (lt_of rfl) (ov_en hS rfl) c24 (s_field_cp (lt_of rfl) (ov_ev hS rfl) fld_34_1 (es := [.lit (.int .i64 x27.Length.High)]) rfl)),
      fun S hS => g_fin rfl (g_take rfl rfl (lt_of rfl) (ov_en hS rfl) c24 (s_load_cp (lt_of rfl) (ov_ev hS rfl) one_3)),
      fun S hS => g_fin rfl (g_take rfl rfl (lt_of rfl) (ov_en hS rfl) c24 (s_cmp (lt_of rfl) (ov_ev hS rfl) (ov_ev hS rfl) rfl)),
      fun S hS => g_fin rfl (g_op rfl (s_pick_f (v := .d (.lit (.bool ((decide (x27.Length.High < x25)))))) (lt_of rfl) (ov_ev hS rfl) c24 (ov_ev hS rfl) rfl)), trivial⟩⟩
                  · exact ent_le (le_upd rfl (le_keep ⟨rfl, rfl, rfl, rfl, trivial⟩))
              · refine tr_nil ?_
                refine tr_if rfl (fun c29 => ?_) (fun c29 => ?_)
                · have h := cond_tt c29 h
                  refine tr_seq ?_
                  refine tr_region ?_
                  obtain ⟨r30, h31, h⟩ := bind_some h
                  refine tr1 rfl (s_call (lt_of rfl) (.func _ _ Try.call16) rfl rfl (BVs.refl _ _) (deucelaw08_works_c h31) rfl) ?_
                  refine tr1 rfl (s_assign (v := .d (.lit (.bool r30))) (lt_of rfl) rfl rfl) ?_
                  refine tr_nil ?_
                  have h := Option.some.inj h
                  subst h
                  refine tr_ent (ent_free (ble_keep (l := [6]) ⟨rfl, trivial⟩)) ?_
                  exact tr_ret ⟨rfl, _, .one _, rfl, rfl⟩
                · have h := cond_ff c29 h
                  refine tr_skipb ?_
                  refine tr_region ?_
                  refine tr1 rfl (s_move (v := .d (.lit (.int .i64 i_0_15))) (lt_of rfl) rfl rfl) ?_
                  refine tr1 rfl (s_arith (lt_of rfl) rfl rfl rfl) ?_
                  refine tr1 rfl (s_assign (v := .d (.lit (.int .i64 ((w64 (i_0_15 + 1)))))) (lt_of rfl) rfl rfl) ?_
                  refine tr_nil ?_
                  exact ⟨(w64 (i_0_15 + 1)), h, ent_pick [0] rfl rfl (le_upd rfl (le_keep ⟨rfl, rfl, rfl, trivial⟩))⟩
            · have h := cond_ff c17 h
              refine tr_exit ?_
              refine .inl ⟨rfl, ?_⟩
              simp only [deucelaw08_PlayReal_K0] at h
              refine tr_seq ?_
              refine tr_region ?_
              refine tr1 rfl (s_loada_bp (lt_of rfl) rfl (i := 0) rfl agg_25 (es := (encApiProgram p_0)) rfl rfl) ?_
              refine tr1 rfl (s_move (v := .d (.sl 3 (order_1.map encApiSeat))) (lt_of rfl) rfl rfl) ?_
              obtain ⟨r32, h33, h⟩ := bind_some h
              refine tr1 rfl (s_callf (lt_of rfl) (.func _ _ Try.call17) rfl rfl (play_Times_c _ _ h33)) ?_
              refine tr1 rfl (s_move (v := .tup [.d (.sl 2 (r32.1.map encApiSpan)), .d (.sl 2 (r32.2.1.map encApiSpan)), .d (.lit (.int .i64 r32.2.2))]) (lt_of rfl) rfl rfl) ?_
              refine tr1 rfl (s_extract (lt_of rfl) rfl rfl) ?_
              refine tr1 rfl (s_extract (lt_of rfl) rfl rfl) ?_
              refine tr1 rfl (s_extract (lt_of rfl) rfl rfl) ?_
              refine tr1 rfl (s_assign (v := .d (.sl 2 (r32.1.map encApiSpan))) (lt_of rfl) rfl rfl) ?_
              refine tr1 rfl (s_assign (v := .d (.sl 2 (r32.2.1.map encApiSpan))) (lt_of rfl) rfl rfl) ?_
              refine tr1 rfl (s_assign (v := .d (.lit (.int .i64 r32.2.2))) (lt_of rfl) rfl rfl) ?_
              refine tr_nil ?_
              refine tr_seq ?_
              refine tr_region ?_
              refine tr1 rfl (s_loada_bp (lt_of rfl) rfl (i := 0) rfl agg_25 (es := (encApiProgram p_0)) rfl rfl) ?_
              refine tr1 rfl (s_move (v := .d (.sl 3 (order_1.map encApiSeat))) (lt_of rfl) rfl rfl) ?_
              obtain ⟨r34, h35, h⟩ := bind_some h
              refine tr1 rfl (s_call (lt_of rfl) (.func _ _ Try.call18) rfl rfl (BVs.refl _ _) (play_Fits_c _ _ h35) rfl) ?_
              refine tr1 rfl (s_move (v := .tup [.d (.lit (.bool r34.1)), .d (.lit (.int .i64 r34.2.1)), .d (.lit (.int .i64 r34.2.2))]) (lt_of rfl) rfl rfl) ?_
              refine tr1 rfl (s_extract (lt_of rfl) rfl rfl) ?_
              refine tr1 rfl (s_extract (lt_of rfl) rfl rfl) ?_
              refine tr1 rfl (s_extract (lt_of rfl) rfl rfl) ?_
              refine tr1 rfl (s_assign (v := .d (.lit (.bool r34.1))) (lt_of rfl) rfl rfl) ?_
              refine tr1 rfl (s_assign (v := .d (.lit (.int .i64 r34.2.1))) (lt_of rfl) rfl rfl) ?_
              refine tr1 rfl (s_assign (v := .d (.lit (.int .i64 r34.2.2))) (lt_of rfl) rfl rfl) ?_
              refine tr_nil ?_
              refine tr_seq ?_
              refine tr_seq ?_
              refine tr_region ?_
              refine tr1 rfl (s_move (v := .d (.lit (.int .i64 r32.2.2))) (lt_of rfl) rfl rfl) ?_
              refine tr1 rfl (s_cmp (lt_of rfl) rfl rfl rfl) ?_
              refine tr1 rfl (s_move (v := .d (.lit (.bool ((!decide (r32.2.2 = 0)))))) (lt_of rfl) rfl rfl) ?_
              obtain ⟨b36, h37, h⟩ := bind_some h
              refine tr_guard 3 [1, 2, 3, 8, 9, 11] 100 b36 ?_ ?_
              · refine bool_cases (!decide (r32.2.2 = 0)) (fun c127 => ?_) (fun c127 => ?_)
                · have h37 := cond_tt c127 h37
                  refine tr_pass rfl rfl (lt_of rfl) rfl (lt_of rfl) rfl c127 ?_
                  refine tr_pass rfl rfl (lt_of rfl) rfl (lt_of rfl) rfl c127 ?_
                  refine tr1 rfl (s_pick_t (v := .d (.lit (.bool true))) (lt_of rfl) rfl c127 rfl rfl) ?_
                  have h37 := Option.some.inj h37
                  subst h37
                  refine tr_nil (ent_keep rfl ⟨rfl, rfl, rfl, rfl, rfl, rfl, trivial⟩ rfl)
                · have h37 := cond_ff c127 h37
                  refine tr_take1 rfl rfl (lt_of rfl) rfl c127 (s_move (v := .d (.lit (.int .i64 r34.2.2))) (lt_of rfl) rfl rfl) ?_
                  refine tr_take1 rfl rfl (lt_of rfl) rfl c127 (s_cmp (lt_of rfl) rfl rfl rfl) ?_
                  refine tr1 rfl (s_pick_f (v := .d (.lit (.bool ((!decide (r34.2.2 = 0)))))) (lt_of rfl) rfl c127 rfl rfl) ?_
                  have h37 := Option.some.inj h37
                  subst h37
                  refine tr_nil (ent_keep rfl ⟨rfl, rfl, rfl, rfl, rfl, rfl, trivial⟩ rfl)
              · refine tr1 rfl (s_move (v := .d (.lit (.bool b36))) (lt_of rfl) rfl rfl) ?_
                obtain ⟨b38, h39, h⟩ := bind_some h
                refine tr_guard 6 [1, 2, 3, 8, 9, 11] 107 b38 ?_ ?_
                · refine bool_cases (b36) (fun c126 => ?_) (fun c126 => ?_)
                  · have h39 := cond_tt c126 h39
                    refine tr_pass rfl rfl (lt_of rfl) rfl (lt_of rfl) rfl c126 ?_
                    refine tr_pass rfl rfl (lt_of rfl) rfl (lt_of rfl) rfl c126 ?_
                    refine tr_pass rfl rfl (lt_of rfl) rfl (lt_of rfl) rfl c126 ?_
                    refine tr_pass rfl rfl (lt_of rfl) rfl (lt_of rfl) rfl c126 ?_
                    refine tr_pass rfl rfl (lt_of rfl) rfl (lt_of rfl) rfl c126 ?_
                    refine tr1 rfl (s_pick_t (v := .d (.lit (.bool true))) (lt_of rfl) rfl c126 rfl rfl) ?_
                    have h39 := Option.some.inj h39
                    subst h39
                    refine tr_nil (ent_keep rfl ⟨rfl, rfl, rfl, rfl, rfl, rfl, trivial⟩ rfl)
                  · have h39 := cond_ff c126 h39
                    refine tr_take1 rfl rfl (lt_of rfl) rfl c126 (s_move (v := .d (.sl 2 (r32.1.map encApiSpan))) (lt_of rfl) rfl rfl) ?_
                    refine tr_take1 rfl rfl (lt_of rfl) rfl c126 (s_lenm (lt_of rfl) rfl sl_37.of) ?_
                    refine tr_take1 rfl rfl (lt_of rfl) rfl c126 (s_move (v := .d (.sl 1 (takes_2.map encI))) (lt_of rfl) rfl rfl) ?_
                    refine tr_take1 rfl rfl (lt_of rfl) rfl c126 (s_lenm (lt_of rfl) rfl sl_27.of) ?_
                    refine tr_take1 rfl rfl (lt_of rfl) rfl c126 (s_cmp (lt_of rfl) rfl rfl rfl) ?_
                    refine tr1 rfl (s_pick_f (v := .d (.lit (.bool ((!decide ((r32.1.length : Int) = (takes_2.length : Int))))))) (lt_of rfl) rfl c126 rfl rfl) ?_
                    have h39 := Option.some.inj h39
                    subst h39
                    refine tr_nil (ent_keep rfl ⟨rfl, rfl, rfl, rfl, rfl, rfl, trivial⟩ rfl)
                · refine tr1 rfl (s_move (v := .d (.lit (.bool b38))) (lt_of rfl) rfl rfl) ?_
                  obtain ⟨b40, h41, h⟩ := bind_some h
                  refine tr_guard 6 [1, 2, 3, 8, 9, 11] 114 b40 ?_ ?_
                  · refine bool_cases (b38) (fun c125 => ?_) (fun c125 => ?_)
                    · have h41 := cond_tt c125 h41
                      refine tr_pass rfl rfl (lt_of rfl) rfl (lt_of rfl) rfl c125 ?_
                      refine tr_pass rfl rfl (lt_of rfl) rfl (lt_of rfl) rfl c125 ?_
                      refine tr_pass rfl rfl (lt_of rfl) rfl (lt_of rfl) rfl c125 ?_
                      refine tr_pass rfl rfl (lt_of rfl) rfl (lt_of rfl) rfl c125 ?_
                      refine tr_pass rfl rfl (lt_of rfl) rfl (lt_of rfl) rfl c125 ?_
                      refine tr1 rfl (s_pick_t (v := .d (.lit (.bool true))) (lt_of rfl) rfl c125 rfl rfl) ?_
                      have h41 := Option.some.inj h41
                      subst h41
                      refine tr_nil (ent_keep rfl ⟨rfl, rfl, rfl, rfl, rfl, rfl, trivial⟩ rfl)
                    · have h41 := cond_ff c125 h41
                      refine tr_take1 rfl rfl (lt_of rfl) rfl c125 (s_move (v := .d (.sl 2 (r32.2.1.map encApiSpan))) (lt_of rfl) rfl rfl) ?_
                      refine tr_take1 rfl rfl (lt_of rfl) rfl c125 (s_lenm (lt_of rfl) rfl sl_37.of) ?_
                      refine tr_take1 rfl rfl (lt_of rfl) rfl c125 (s_move (v := .d (.sl 1 (takes_2.map encI))) (lt_of rfl) rfl rfl) ?_
                      refine tr_take1 rfl rfl (lt_of rfl) rfl c125 (s_lenm (lt_of rfl) rfl sl_27.of) ?_
                      refine tr_take1 rfl rfl (lt_of rfl) rfl c125 (s_cmp (lt_of rfl) rfl rfl rfl) ?_
                      refine tr1 rfl (s_pick_f (v := .d (.lit (.bool ((!decide ((r32.2.1.length : Int) = (takes_2.length : Int))))))) (lt_of rfl) rfl c125 rfl rfl) ?_
                      have h41 := Option.some.inj h41
                      subst h41
                      refine tr_nil (ent_keep rfl ⟨rfl, rfl, rfl, rfl, rfl, rfl, trivial⟩ rfl)
                  · refine tr_nil ?_
                    refine tr_if rfl (fun c42 => ?_) (fun c42 => ?_)
                    · have h := cond_tt c42 h
                      refine tr_seq ?_
                      refine tr_region ?_
                      refine tr1 rfl (s_assign (v := .d (.lit (.bool false))) (lt_of rfl) rfl rfl) ?_
                      refine tr_nil ?_
                      have h := Option.some.inj h
                      subst h
                      refine tr_ent (ent_free (ble_keep (l := [6]) ⟨rfl, trivial⟩)) ?_
                      exact tr_ret ⟨rfl, _, .one _, rfl, rfl⟩
                    · have h := cond_ff c42 h
                      refine tr_skip ?_
                      refine tr_seq ?_
                      refine tr_region ?_
                      refine tr1 rfl (s_loada_bp (lt_of rfl) rfl (i := 0) rfl agg_25 (es := (encApiProgram p_0)) rfl rfl) ?_
                      refine tr1 rfl (s_move (v := .d (.sl 3 (order_1.map encApiSeat))) (lt_of rfl) rfl rfl) ?_
                      refine tr1 rfl (s_move (v := .d (.sl 1 (takes_2.map encI))) (lt_of rfl) rfl rfl) ?_
                      obtain ⟨r43, h44, h⟩ := bind_some h
                      refine tr1 rfl (s_callf (lt_of rfl) (.func _ _ Try.call19) rfl rfl (deuceref08_Run_c _ _ _ h44)) ?_
                      refine tr1 rfl (s_move (v := .tup [.d (.sl 1 (r43.1.map encI)), .d (.sl 1 (r43.2.map encI))]) (lt_of rfl) rfl rfl) ?_
                      refine tr1 rfl (s_extract (lt_of rfl) rfl rfl) ?_
                      refine tr1 rfl (s_extract (lt_of rfl) rfl rfl) ?_
                      refine tr1 rfl (s_assign (v := .d (.sl 1 (r43.1.map encI))) (lt_of rfl) rfl rfl) ?_
                      refine tr1 rfl (s_assign (v := .d (.sl 1 (r43.2.map encI))) (lt_of rfl) rfl rfl) ?_
                      refine tr_nil ?_
                      refine tr_seq ?_
                      refine tr_seq ?_
                      refine tr_region ?_
                      refine tr1 rfl (s_assign (v := .d (.lit (.int .i64 0))) (lt_of rfl) rfl rfl) ?_
                      refine tr_nil ?_
                      refine tr_blk ?_
                      refine tr_loopk [1, 3, 8, 9, 11, 14, 15] (fun (s45 : Int) => [(16, .d (.lit (.int .i64 s45)))]) (fun (s45 : Int) => [.box b1 0 (encApiProgram p_0)]) (fun (k : Nat) (s45 : Int) => deucelaw08_PlayReal_L2 order_1 r32.1 r32.2.1 r34.1 r43.1 r43.2 p_0 k s45) (fun _ => rfl) (0) h (ent_pick [0] rfl rfl (le_upd rfl (le_keep ⟨rfl, rfl, rfl, rfl, rfl, rfl, rfl, trivial⟩))) ?_
                      rintro k46 i_2_45 h
                      simp only [deucelaw08_PlayReal_L2] at h
                      refine tr_seq ?_
                      refine tr_seq ?_
                      refine tr_region ?_
                      refine tr1 rfl (s_move (v := .d (.lit (.int .i64 i_2_45))) (lt_of rfl) rfl rfl) ?_
                      refine tr1 rfl (s_move (v := .d (.sl 3 (order_1.map encApiSeat))) (lt_of rfl) rfl rfl) ?_
                      refine tr1 rfl (s_lenm (lt_of rfl) rfl sl_26.of) ?_
                      refine tr1 rfl (s_cmp (lt_of rfl) rfl rfl rfl) ?_
                      refine tr_nil ?_
                      refine tr_if rfl (fun c47 => ?_) (fun c47 => ?_)
                      · have h := cond_tt c47 h
                        refine tr_skip ?_
                        refine tr_seq ?_
                        refine tr_blk ?_
                        refine tr_seq ?_
                        refine tr_region ?_
                        refine tr1 rfl (s_move (v := .d (.sl 3 (order_1.map encApiSeat))) (lt_of rfl) rfl rfl) ?_
                        refine tr1 rfl (s_move (v := .d (.lit (.int .i64 i_2_45))) (lt_of rfl) rfl rfl) ?_
                        obtain ⟨x48, h49, h⟩ := bind_some h
                        refine tr1 rfl (s_index_sl (lt_of rfl) rfl rfl sl_26.of (idx_map encApiSeat h49)) ?_
                        refine tr1 rfl (s_loada_cp (lt_of rfl) rfl agg_45 (es := (encApiSeat x48)) rfl rfl) ?_
                        refine tr_op rfl (s_alloc (zs := [.lit (.int .i64 0), .lit (.int .i64 0), .lit (.int .i64 0)]) (lt_of rfl) Try.zeroValue45 rfl rfl) ?_
                        rintro _ ⟨b50, rfl⟩
                        refine tr1 rfl (s_store_bp (i := 1) rfl rfl rfl rfl rfl Try.sizeOf45 rfl (lt_of rfl) (Nat.le_of_ble_eq_true rfl) (ds' := (encApiSeat x48)) rfl) ?_
                        refine tr_nil ?_
                        refine tr_seq ?_
                        refine tr_region ?_
                        refine tr1 rfl (s_field_bp (lt_of rfl) rfl fld_45_0) ?_
                        refine tr1 rfl (s_load_bp (lt_of rfl) rfl (i := 1) rfl rfl one_3) ?_
                        refine tr1 rfl (s_assign (v := .d (.lit (.int .i64 x48.Job))) (lt_of rfl) rfl rfl) ?_
                        refine tr_nil ?_
                        refine tr_seq ?_
                        refine tr_seq ?_
                        obtain ⟨x51, h52, h⟩ := bind_some h
                        obtain ⟨x53, h54, h⟩ := bind_some h
                        obtain ⟨b55, h56, h⟩ := bind_some h
                        obtain ⟨b62, h63, h⟩ := bind_some h
                        obtain ⟨b69, h70, h⟩ := bind_some h
                        obtain ⟨b76, h77, h⟩ := bind_some h
                        obtain ⟨b88, h89, h⟩ := bind_some h
                        refine tr_drawk mix 80 [1, 3, 8, 9, 11, 14, 15, 16, 17, 18] [(213, .d (.lit (.bool b88)))] ?_ ?_
                        · refine bool_cases (decide (x51 < x53.Low)) (fun c57 => ?_) (fun c57 => ?_)
                          · have h56 := cond_tt c57 h56
                            have h56 := Option.some.inj h56
                            subst h56
                            have c64 : true = true := rfl
                            have h63 := cond_tt c64 h63
                            have h63 := Option.some.inj h63
                            subst h63
                            have c71 : true = true := rfl
                            have h70 := cond_tt c71 h70
                            have h70 := Option.some.inj h70
                            subst h70
                            have c78 : true = true := rfl
                            have h77 := cond_tt c78 h77
                            have h77 := Option.some.inj h77
                            subst h77
                            have c90 : true = true := rfl
                            have h89 := cond_tt c90 h89
                            have h89 := Option.some.inj h89
                            subst h89
                            refine ⟨[(134, 0, .d (.sl 1 (r43.1.map encI))), (135, 1, .d (.lit (.int .i64 x48.Job))), (136, 2, .cp [.lit (.int .i64 x51)]), (137, 3, .d (.lit (.int .i64 x51))), (138, 4, .d (.sl 2 (r32.1.map encApiSpan))), (139, 5, .d (.lit (.int .i64 x48.Job))), (140, 6, .cp [.lit (.int .i64 x53.Low), .lit (.int .i64 x53.High)]), (141, 7, .cp [.lit (.int .i64 x53.Low)]), (142, 8, .d (.lit (.int .i64 x53.Low))), (143, 9, .d (.lit (.bool ((decide (x51 < x53.Low)))))), (144, 10, .d (.lit (.bool ((decide (x51 < x53.Low)))))), (145, 11, .tup []), (146, 12, .tup []), (147, 13, .tup []), (148, 14, .tup []), (149, 15, .tup []), (150, 16, .tup []), (151, 17, .tup []), (152, 18, .tup []), (153, 19, .tup []), (154, 20, .tup []), (155, 21, .d (.lit (.bool true))), (156, 22, .d (.lit (.bool (true)))), (157, 23, .tup []), (158, 24, .tup []), (159, 25, .tup []), (160, 26, .tup []), (161, 27, .tup []), (162, 28, .tup []), (163, 29, .tup []), (164, 30, .tup []), (165, 31, .tup []), (166, 32, .tup []), (167, 33, .d (.lit (.bool true))), (168, 34, .d (.lit (.bool (true)))), (169, 35, .tup []), (170, 36, .tup []), (171, 37, .tup []), (172, 38, .tup []), (173, 39, .tup []), (174, 40, .tup []), (175, 41, .tup []), (176, 42, .tup []), (177, 43, .tup []), (178, 44, .tup []), (179, 45, .d (.lit (.bool true))), (180, 46, .d (.lit (.bool (true)))), (181, 47, .tup []), (182, 48, .tup []), (183, 49, .tup []), (184, 50, .tup []), (185, 51, .tup []), (186, 52, .tup []), (187, 53, .tup []), (188, 54, .tup []), (189, 55, .tup []), (190, 56, .tup []), (191, 57, .tup []), (192, 58, .tup []), (193, 59, .tup []), (194, 60, .tup []), (195, 61, .tup []), (196, 62, .tup []), (197, 63, .tup []), (198, 64, .tup []), (199, 65, .tup []), (200, 66, .d (.lit (.bool true))), (201, 67, .d (.lit (.bool (true)))), (202, 68, .tup []), (203, 69, .tup []), (204, 70, .tup []), (205, 71, .tup []), (206, 72, .tup []), (207, 73, .tup []), (208, 74, .tup []), (209, 75, .tup []), (210, 76, .tup []), (211, 77, .tup []), (212, 78, .tup []), (213, 79, .d (.lit (.bool true)))], ?_, ?_⟩
                            · exact ⟨by kernel_rfl, by kernel_rfl, by kernel_rfl, by kernel_rfl, by kernel_rfl, [([], []), ([], []), ([0, 1], []), ([2], []), ([], []), ([], []), ([4, 5], []), ([6], []), ([7], []), ([3, 8], []), ([9], []), ([10], []), ([10], []), ([10, 11, 12], []), ([10, 13], []), ([10], []), ([10], []), ([10, 15, 16], []), ([10, 17], []), ([10, 18], []), ([10, 14, 19], []), ([10, 20], []), ([21], []), ([22], []), ([22], []), ([22, 23, 24], []), ([22, 25], []), ([22], []), ([22], []), ([22, 27, 28], []), ([22, 29], []), ([22, 30], []), ([22, 26, 31], []), ([22, 32], []), ([33], []), ([34], []), ([34], []), ([34, 35, 36], []), ([34, 37], []), ([34], []), ([34], []), ([34, 39, 40], []), ([34, 41], []), ([34, 42], []), ([34, 38, 43], []), ([34, 44], []), ([45], []), ([46], []), ([46, 47], []), ([48], []), ([48], []), ([48, 49, 50], []), ([48, 51], []), ([48], []), ([48, 53], []), ([48], []), ([48, 55], []), ([48, 54, 56], []), ([48, 57], []), ([48], []), ([48, 59], []), ([48, 58, 60], []), ([48, 61], []), ([48, 62], []), ([48, 52, 63], []), ([46, 48, 64], []), ([46, 65], []), ([66], []), ([67], []), ([67], []), ([67, 68, 69], []), ([67, 70], []), ([67], []), ([67, 72], []), ([67], []), ([67, 73, 74], []), ([67, 75], []), ([67, 76], []), ([67, 71, 77], []), ([67, 78], [])], by kernel_rfl, ⟨fun S hS => g_fin rfl (g_op rfl (s_move (v := .d (.sl 1 (r43.1.map encI))) (lt_of rfl) (ov_ev hS rfl) rfl)),
      fun S hS => g_fin rfl (g_op rfl (s_move (v := .d (.lit (.int .i64 x48.Job))) (lt_of rfl) (ov_ev hS rfl) rfl)),
      fun S hS => g_fin rfl (g_op rfl (s_index_sl (lt_of rfl) (ov_ev hS rfl) (ov_ev hS rfl) sl_27.of (idx_map encI h52))),
      fun S hS => g_fin rfl (g_op rfl (s_load_cp (lt_of rfl) (ov_ev hS rfl) one_3)),
      fun S hS => g_fin rfl (g_op rfl (s_move (v := .d (.sl 2 (r32.1.map encApiSpan))) (lt_of rfl) (ov_ev hS rfl) rfl)),
      fun S hS => g_fin rfl (g_op rfl (s_move (v := .d (.lit (.int .i64 x48.Job))) (lt_of rfl) (ov_ev hS rfl) rfl)),
      fun S hS => g_fin rfl (g_op rfl (s_index_sl (lt_of rfl) (ov_ev hS rfl) (ov_ev hS rfl) sl_37.of (idx_map encApiSpan h54))),
      fun S hS => g_fin rfl (g_op rfl (s_field_cp (lt_of rfl) (ov_ev hS rfl) fld_34_0 (es := [.lit (.int .i64 x53.Low)]) rfl)),
      fun S hS => g_fin rfl (g_op rfl (s_load_cp (lt_of rfl) (ov_ev hS rfl) one_3)),
      fun S hS => g_fin rfl (g_op rfl (s_cmp (lt_of rfl) (ov_ev hS rfl) (ov_ev hS rfl) rfl)),
      fun S hS => g_fin rfl (g_op rfl (s_move (v := .d (.lit (.bool ((decide (x51 < x53.Low)))))) (lt_of rfl) (ov_ev hS rfl) rfl)),
      fun S hS => g_fin rfl (g_pass rfl rfl (lt_of rfl) rfl (lt_of rfl) (ov_en hS rfl) c57),
      fun S hS => g_fin rfl (g_pass rfl rfl (lt_of rfl) rfl (lt_of rfl) (ov_en hS rfl) c57),
      fun S hS => g_fin rfl (g_pass rfl rfl (lt_of rfl) rfl (lt_of rfl) (ov_en hS rfl) c57),
      fun S hS => g_fin rfl (g_pass rfl rfl (lt_of rfl) rfl (lt_of rfl) (ov_en hS rfl) c57),
      fun S hS => g_fin rfl (g_pass rfl rfl (lt_of rfl) rfl (lt_of rfl) (ov_en hS rfl) c57),
      fun S hS => g_fin rfl (g_pass rfl rfl (lt_of rfl) rfl (lt_of rfl) (ov_en hS rfl) c57),
      fun S hS => g_fin rfl (g_pass rfl rfl (lt_of rfl) rfl (lt_of rfl) (ov_en hS rfl) c57),
      fun S hS => g_fin rfl (g_pass rfl rfl (lt_of rfl) rfl (lt_of rfl) (ov_en hS rfl) c57),
      fun S hS => g_fin rfl (g_pass rfl rfl (lt_of rfl) rfl (lt_of rfl) (ov_en hS rfl) c57),
      fun S hS => g_fin rfl (g_pass rfl rfl (lt_of rfl) rfl (lt_of rfl) (ov_en hS rfl) c57),
      fun S hS => g_fin rfl (g_op rfl (s_pick_t (v := .d (.lit (.bool true))) (lt_of rfl) (ov_ev hS rfl) c57 rfl rfl)),
      fun S hS => g_fin rfl (g_op rfl (s_move (v := .d (.lit (.bool (true)))) (lt_of rfl) (ov_ev hS rfl) rfl)),
      fun S hS => g_fin rfl (g_pass rfl rfl (lt_of rfl) rfl (lt_of rfl) (ov_en hS rfl) c64),
      fun S hS => g_fin rfl (g_pass rfl rfl (lt_of rfl) rfl (lt_of rfl) (ov_en hS rfl) c64),
      fun S hS => g_fin rfl (g_pass rfl rfl (lt_of rfl) rfl (lt_of rfl) (ov_en hS rfl) c64),
      fun S hS => g_fin rfl (g_pass rfl rfl (lt_of rfl) rfl (lt_of rfl) (ov_en hS rfl) c64),
      fun S hS => g_fin rfl (g_pass rfl rfl (lt_of rfl) rfl (lt_of rfl) (ov_en hS rfl) c64),
      fun S hS => g_fin rfl (g_pass rfl rfl (lt_of rfl) rfl (lt_of rfl) (ov_en hS rfl) c64),
      fun S hS => g_fin rfl (g_pass rfl rfl (lt_of rfl) rfl (lt_of rfl) (ov_en hS rfl) c64),
      fun S hS => g_fin rfl (g_pass rfl rfl (lt_of rfl) rfl (lt_of rfl) (ov_en hS rfl) c64),
      fun S hS => g_fin rfl (g_pass rfl rfl (lt_of rfl) rfl (lt_of rfl) (ov_en hS rfl) c64),
      fun S hS => g_fin rfl (g_pass rfl rfl (lt_of rfl) rfl (lt_of rfl) (ov_en hS rfl) c64),
      fun S hS => g_fin rfl (g_op rfl (s_pick_t (v := .d (.lit (.bool true))) (lt_of rfl) (ov_ev hS rfl) c64 rfl rfl)),
      fun S hS => g_fin rfl (g_op rfl (s_move (v := .d (.lit (.bool (true)))) (lt_of rfl) (ov_ev hS rfl) rfl)),
      fun S hS => g_fin rfl (g_pass rfl rfl (lt_of rfl) rfl (lt_of rfl) (ov_en hS rfl) c71),
      fun S hS => g_fin rfl (g_pass rfl rfl (lt_of rfl) rfl (lt_of rfl) (ov_en hS rfl) c71),
      fun S hS => g_fin rfl (g_pass rfl rfl (lt_of rfl) rfl (lt_of rfl) (ov_en hS rfl) c71),
      fun S hS => g_fin rfl (g_pass rfl rfl (lt_of rfl) rfl (lt_of rfl) (ov_en hS rfl) c71),
      fun S hS => g_fin rfl (g_pass rfl rfl (lt_of rfl) rfl (lt_of rfl) (ov_en hS rfl) c71),
      fun S hS => g_fin rfl (g_pass rfl rfl (lt_of rfl) rfl (lt_of rfl) (ov_en hS rfl) c71),
      fun S hS => g_fin rfl (g_pass rfl rfl (lt_of rfl) rfl (lt_of rfl) (ov_en hS rfl) c71),
      fun S hS => g_fin rfl (g_pass rfl rfl (lt_of rfl) rfl (lt_of rfl) (ov_en hS rfl) c71),
      fun S hS => g_fin rfl (g_pass rfl rfl (lt_of rfl) rfl (lt_of rfl) (ov_en hS rfl) c71),
      fun S hS => g_fin rfl (g_pass rfl rfl (lt_of rfl) rfl (lt_of rfl) (ov_en hS rfl) c71),
      fun S hS => g_fin rfl (g_op rfl (s_pick_t (v := .d (.lit (.bool true))) (lt_of rfl) (ov_ev hS rfl) c71 rfl rfl)),
      fun S hS => g_fin rfl (g_op rfl (s_move (v := .d (.lit (.bool (true)))) (lt_of rfl) (ov_ev hS rfl) rfl)),
      fun S hS => g_fin rfl (g_pass rfl rfl (lt_of rfl) rfl (lt_of rfl) (ov_en hS rfl) c78),
      fun S hS => g_fin rfl (g_pass rfl rfl (lt_of rfl) rfl (lt_of rfl) (ov_en hS rfl) c78),
      fun S hS => g_fin rfl (g_pass' rfl rfl (lt_of rfl) rfl (lt_of rfl) (ov_en hS rfl)),
      fun S hS => g_fin rfl (g_pass' rfl rfl (lt_of rfl) rfl (lt_of rfl) (ov_en hS rfl)),
      fun S hS => g_fin rfl (g_pass' rfl rfl (lt_of rfl) rfl (lt_of rfl) (ov_en hS rfl)),
      fun S hS => g_fin rfl (g_pass' rfl rfl (lt_of rfl) rfl (lt_of rfl) (ov_en hS rfl)),
      fun S hS => g_fin rfl (g_pass' rfl rfl (lt_of rfl) rfl (lt_of rfl) (ov_en hS rfl)),
      fun S hS => g_fin rfl (g_pass' rfl rfl (lt_of rfl) rfl (lt_of rfl) (ov_en hS rfl)),
      fun S hS => g_fin rfl (g_pass' rfl rfl (lt_of rfl) rfl (lt_of rfl) (ov_en hS rfl)),
      fun S hS => g_fin rfl (g_pass' rfl rfl (lt_of rfl) rfl (lt_of rfl) (ov_en hS rfl)),
      fun S hS => g_fin rfl (g_pass' rfl rfl (lt_of rfl) rfl (lt_of rfl) (ov_en hS rfl)),
      fun S hS => g_fin rfl (g_pass' rfl rfl (lt_of rfl) rfl (lt_of rfl) (ov_en hS rfl)),
      fun S hS => g_fin rfl (g_pass' rfl rfl (lt_of rfl) rfl (lt_of rfl) (ov_en hS rfl)),
      fun S hS => g_fin rfl (g_pass' rfl rfl (lt_of rfl) rfl (lt_of rfl) (ov_en hS rfl)),
      fun S hS => g_fin rfl (g_pass' rfl rfl (lt_of rfl) rfl (lt_of rfl) (ov_en hS rfl)),
      fun S hS => g_fin rfl (g_pass' rfl rfl (lt_of rfl) rfl (lt_of rfl) (ov_en hS rfl)),
      fun S hS => g_fin rfl (g_pass' rfl rfl (lt_of rfl) rfl (lt_of rfl) (ov_en hS rfl)),
      fun S hS => g_fin rfl (g_pass' rfl rfl (lt_of rfl) rfl (lt_of rfl) (ov_en hS rfl)),
      fun S hS => g_fin rfl (g_pass rfl rfl (lt_of rfl) rfl (lt_of rfl) (ov_en hS rfl) c78),
      fun S hS => g_fin rfl (g_op rfl (s_pick_t (v := .d (.lit (.bool true))) (lt_of rfl) (ov_ev hS rfl) c78 rfl rfl)),
      fun S hS => g_fin rfl (g_op rfl (s_move (v := .d (.lit (.bool (true)))) (lt_of rfl) (ov_ev hS rfl) rfl)),
      fun S hS => g_fin rfl (g_pass rfl rfl (lt_of rfl) rfl (lt_of rfl) (ov_en hS rfl) c90),
      fun S hS => g_fin rfl (g_pass rfl rfl (lt_of rfl) rfl (lt_of rfl) (ov_en hS rfl) c90),
      fun S hS => g_fin rfl (g_pass rfl rfl (lt_of rfl) rfl (lt_of rfl) (ov_en hS rfl) c90),
      fun S hS => g_fin rfl (g_pass rfl rfl (lt_of rfl) rfl (lt_of rfl) (ov_en hS rfl) c90),
      fun S hS => g_fin rfl (g_pass rfl rfl (lt_of rfl) rfl (lt_of rfl) (ov_en hS rfl) c90),
      fun S hS => g_fin rfl (g_pass rfl rfl (lt_of rfl) rfl (lt_of rfl) (ov_en hS rfl) c90),
      fun S hS => g_fin rfl (g_pass rfl rfl (lt_of rfl) rfl (lt_of rfl) (ov_en hS rfl) c90),
      fun S hS => g_fin rfl (g_pass rfl rfl (lt_of rfl) rfl (lt_of rfl) (ov_en hS rfl) c90),
      fun S hS => g_fin rfl (g_pass rfl rfl (lt_of rfl) rfl (lt_of rfl) (ov_en hS rfl) c90),
      fun S hS => g_fin rfl (g_pass rfl rfl (lt_of rfl) rfl (lt_of rfl) (ov_en hS rfl) c90),
      fun S hS => g_fin rfl (g_pass rfl rfl (lt_of rfl) rfl (lt_of rfl) (ov_en hS rfl) c90),
      fun S hS => g_fin rfl (g_op rfl (s_pick_t (v := .d (.lit (.bool true))) (lt_of rfl) (ov_ev hS rfl) c90 rfl rfl)), trivial⟩⟩
                            · exact ent_le (le_upd rfl (le_keep ⟨rfl, rfl, rfl, rfl, rfl, rfl, rfl, rfl, rfl, rfl, trivial⟩))
                          · have h56 := cond_ff c57 h56
                            obtain ⟨x58, h59, h56⟩ := bind_some h56
                            obtain ⟨x60, h61, h56⟩ := bind_some h56
                            have h56 := Option.some.inj h56
                            subst h56
                            refine bool_cases (decide (x60.High < x58)) (fun c64 => ?_) (fun c64 => ?_)
                            · have h63 := cond_tt c64 h63
                              have h63 := Option.some.inj h63
                              subst h63
                              have c71 : true = true := rfl
                              have h70 := cond_tt c71 h70
                              have h70 := Option.some.inj h70
                              subst h70
                              have c78 : true = true := rfl
                              have h77 := cond_tt c78 h77
                              have h77 := Option.some.inj h77
                              subst h77
                              have c90 : true = true := rfl
                              have h89 := cond_tt c90 h89
                              have h89 := Option.some.inj h89
                              subst h89
                              refine ⟨[(134, 0, .d (.sl 1 (r43.1.map encI))), (135, 1, .d (.lit (.int .i64 x48.Job))), (136, 2, .cp [.lit (.int .i64 x51)]), (137, 3, .d (.lit (.int .i64 x51))), (138, 4, .d (.sl 2 (r32.1.map encApiSpan))), (139, 5, .d (.lit (.int .i64 x48.Job))), (140, 6, .cp [.lit (.int .i64 x53.Low), .lit (.int .i64 x53.High)]), (141, 7, .cp [.lit (.int .i64 x53.Low)]), (142, 8, .d (.lit (.int .i64 x53.Low))), (143, 9, .d (.lit (.bool ((decide (x51 < x53.Low)))))), (144, 10, .d (.lit (.bool ((decide (x51 < x53.Low)))))), (145, 11, .d (.sl 1 (r43.1.map encI))), (146, 12, .d (.lit (.int .i64 x48.Job))), (147, 13, .cp [.lit (.int .i64 x58)]), (148, 14, .d (.lit (.int .i64 x58))), (149, 15, .d (.sl 2 (r32.1.map encApiSpan))), (150, 16, .d (.lit (.int .i64 x48.Job))), (151, 17, .cp [.lit (.int .i64 x60.Low), .lit (.int .i64 x60.High)]), (152, 18, .cp [.lit (.int .i64 x60.High)]), (153, 19, .d (.lit (.int .i64 x60.High))), (154, 20, .d (.lit (.bool ((decide (x60.High < x58)))))), (155, 21, .d (.lit (.bool ((decide (x60.High < x58)))))), (156, 22, .d (.lit (.bool (decide (x60.High < x58))))), (157, 23, .tup []), (158, 24, .tup []), (159, 25, .tup []), (160, 26, .tup []), (161, 27, .tup []), (162, 28, .tup []), (163, 29, .tup []), (164, 30, .tup []), (165, 31, .tup []), (166, 32, .tup []), (167, 33, .d (.lit (.bool true))), (168, 34, .d (.lit (.bool (true)))), (169, 35, .tup []), (170, 36, .tup []), (171, 37, .tup []), (172, 38, .tup []), (173, 39, .tup []), (174, 40, .tup []), (175, 41, .tup []), (176, 42, .tup []), (177, 43, .tup []), (178, 44, .tup []), (179, 45, .d (.lit (.bool true))), (180, 46, .d (.lit (.bool (true)))), (181, 47, .tup []), (182, 48, .tup []), (183, 49, .tup []), (184, 50, .tup []), (185, 51, .tup []), (186, 52, .tup []), (187, 53, .tup []), (188, 54, .tup []), (189, 55, .tup []), (190, 56, .tup []), (191, 57, .tup []), (192, 58, .tup []), (193, 59, .tup []), (194, 60, .tup []), (195, 61, .tup []), (196, 62, .tup []), (197, 63, .tup []), (198, 64, .tup []), (199, 65, .tup []), (200, 66, .d (.lit (.bool true))), (201, 67, .d (.lit (.bool (true)))), (202, 68, .tup []), (203, 69, .tup []), (204, 70, .tup []), (205, 71, .tup []), (206, 72, .tup []), (207, 73, .tup []), (208, 74, .tup []), (209, 75, .tup []), (210, 76, .tup []), (211, 77, .tup []), (212, 78, .tup []), (213, 79, .d (.lit (.bool true)))], ?_, ?_⟩
                              · exact ⟨by kernel_rfl, by kernel_rfl, by kernel_rfl, by kernel_rfl, by kernel_rfl, [([], []), ([], []), ([0, 1], []), ([2], []), ([], []), ([], []), ([4, 5], []), ([6], []), ([7], []), ([3, 8], []), ([9], []), ([10], []), ([10], []), ([10, 11, 12], []), ([10, 13], []), ([10], []), ([10], []), ([10, 15, 16], []), ([10, 17], []), ([10, 18], []), ([10, 14, 19], []), ([10, 20], []), ([21], []), ([22], []), ([22], []), ([22, 23, 24], []), ([22, 25], []), ([22], []), ([22], []), ([22, 27, 28], []), ([22, 29], []), ([22, 30], []), ([22, 26, 31], []), ([22, 32], []), ([33], []), ([34], []), ([34], []), ([34, 35, 36], []), ([34, 37], []), ([34], []), ([34], []), ([34, 39, 40], []), ([34, 41], []), ([34, 42], []), ([34, 38, 43], []), ([34, 44], []), ([45], []), ([46], []), ([46, 47], []), ([48], []), ([48], []), ([48, 49, 50], []), ([48, 51], []), ([48], []), ([48, 53], []), ([48], []), ([48, 55], []), ([48, 54, 56], []), ([48, 57], []), ([48], []), ([48, 59], []), ([48, 58, 60], []), ([48, 61], []), ([48, 62], []), ([48, 52, 63], []), ([46, 48, 64], []), ([46, 65], []), ([66], []), ([67], []), ([67], []), ([67, 68, 69], []), ([67, 70], []), ([67], []), ([67, 72], []), ([67], []), ([67, 73, 74], []), ([67, 75], []), ([67, 76], []), ([67, 71, 77], []), ([67, 78], [])], by kernel_rfl, ⟨fun S hS => g_fin rfl (g_op rfl (s_move (v := .d (.sl 1 (r43.1.map encI))) (lt_of rfl) (ov_ev hS rfl) rfl)),
      fun S hS => g_fin rfl (g_op rfl (s_move (v := .d (.lit (.int .i64 x48.Job))) (lt_of rfl) (ov_ev hS rfl) rfl)),
      fun S hS => g_fin rfl (g_op rfl (s_index_sl (lt_of rfl) (ov_ev hS rfl) (ov_ev hS rfl) sl_27.of (idx_map encI h52))),
      fun S hS => g_fin rfl (g_op rfl (s_load_cp (lt_of rfl) (ov_ev hS rfl) one_3)),
      fun S hS => g_fin rfl (g_op rfl (s_move (v := .d (.sl 2 (r32.1.map encApiSpan))) (lt_of rfl) (ov_ev hS rfl) rfl)),
      fun S hS => g_fin rfl (g_op rfl (s_move (v := .d (.lit (.int .i64 x48.Job))) (lt_of rfl) (ov_ev hS rfl) rfl)),
      fun S hS => g_fin rfl (g_op rfl (s_index_sl (lt_of rfl) (ov_ev hS rfl) (ov_ev hS rfl) sl_37.of (idx_map encApiSpan h54))),
      fun S hS => g_fin rfl (g_op rfl (s_field_cp (lt_of rfl) (ov_ev hS rfl) fld_34_0 (es := [.lit (.int .i64 x53.Low)]) rfl)),
      fun S hS => g_fin rfl (g_op rfl (s_load_cp (lt_of rfl) (ov_ev hS rfl) one_3)),
      fun S hS => g_fin rfl (g_op rfl (s_cmp (lt_of rfl) (ov_ev hS rfl) (ov_ev hS rfl) rfl)),
      fun S hS => g_fin rfl (g_op rfl (s_move (v := .d (.lit (.bool ((decide (x51 < x53.Low)))))) (lt_of rfl) (ov_ev hS rfl) rfl)),
      fun S hS => g_fin rfl (g_take rfl rfl (lt_of rfl) (ov_en hS rfl) c57 (s_move (v := .d (.sl 1 (r43.1.map encI))) (lt_of rfl) (ov_ev hS rfl) rfl)),
      fun S hS => g_fin rfl (g_take rfl rfl (lt_of rfl) (ov_en hS rfl) c57 (s_move (v := .d (.lit (.int .i64 x48.Job))) (lt_of rfl) (ov_ev hS rfl) rfl)),
      fun S hS => g_fin rfl (g_take rfl rfl (lt_of rfl) (ov_en hS rfl) c57 (s_index_sl (lt_of rfl) (ov_ev hS rfl) (ov_ev hS rfl) sl_27.of (idx_map encI h59))),
      fun S hS => g_fin rfl (g_take rfl rfl (lt_of rfl) (ov_en hS rfl) c57 (s_load_cp (lt_of rfl) (ov_ev hS rfl) one_3)),
      fun S hS => g_fin rfl (g_take rfl rfl (lt_of rfl) (ov_en hS rfl) c57 (s_move (v := .d (.sl 2 (r32.1.map encApiSpan))) (lt_of rfl) (ov_ev hS rfl) rfl)),
      fun S hS => g_fin rfl (g_take rfl rfl (lt_of rfl) (ov_en hS rfl) c57 (s_move (v := .d (.lit (.int .i64 x48.Job))) (lt_of rfl) (ov_ev hS rfl) rfl)),
      fun S hS => g_fin rfl (g_take rfl rfl (lt_of rfl) (ov_en hS rfl) c57 (s_index_sl (lt_of rfl) (ov_ev hS rfl) (ov_ev hS rfl) sl_37.of (idx_map encApiSpan h61))),
      fun S hS => g_fin rfl (g_take rfl rfl (lt_of rfl) (ov_en hS rfl) c57 (s_field_cp (lt_of rfl) (ov_ev hS rfl) fld_34_1 (es := [.lit (.int .i64 x60.High)]) rfl)),
      fun S hS => g_fin rfl (g_take rfl rfl (lt_of rfl) (ov_en hS rfl) c57 (s_load_cp (lt_of rfl) (ov_ev hS rfl) one_3)),
      fun S hS => g_fin rfl (g_take rfl rfl (lt_of rfl) (ov_en hS rfl) c57 (s_cmp (lt_of rfl) (ov_ev hS rfl) (ov_ev hS rfl) rfl)),
      fun S hS => g_fin rfl (g_op rfl (s_pick_f (v := .d (.lit (.bool ((decide (x60.High < x58)))))) (lt_of rfl) (ov_ev hS rfl) c57 (ov_ev hS rfl) rfl)),
      fun S hS => g_fin rfl (g_op rfl (s_move (v := .d (.lit (.bool (decide (x60.High < x58))))) (lt_of rfl) (ov_ev hS rfl) rfl)),
      fun S hS => g_fin rfl (g_pass rfl rfl (lt_of rfl) rfl (lt_of rfl) (ov_en hS rfl) c64),
      fun S hS => g_fin rfl (g_pass rfl rfl (lt_of rfl) rfl (lt_of rfl) (ov_en hS rfl) c64),
      fun S hS => g_fin rfl (g_pass rfl rfl (lt_of rfl) rfl (lt_of rfl) (ov_en hS rfl) c64),
      fun S hS => g_fin rfl (g_pass rfl rfl (lt_of rfl) rfl (lt_of rfl) (ov_en hS rfl) c64),
      fun S hS => g_fin rfl (g_pass rfl rfl (lt_of rfl) rfl (lt_of rfl) (ov_en hS rfl) c64),
      fun S hS => g_fin rfl (g_pass rfl rfl (lt_of rfl) rfl (lt_of rfl) (ov_en hS rfl) c64),
      fun S hS => g_fin rfl (g_pass rfl rfl (lt_of rfl) rfl (lt_of rfl) (ov_en hS rfl) c64),
      fun S hS => g_fin rfl (g_pass rfl rfl (lt_of rfl) rfl (lt_of rfl) (ov_en hS rfl) c64),
      fun S hS => g_fin rfl (g_pass rfl rfl (lt_of rfl) rfl (lt_of rfl) (ov_en hS rfl) c64),
      fun S hS => g_fin rfl (g_pass rfl rfl (lt_of rfl) rfl (lt_of rfl) (ov_en hS rfl) c64),
      fun S hS => g_fin rfl (g_op rfl (s_pick_t (v := .d (.lit (.bool true))) (lt_of rfl) (ov_ev hS rfl) c64 rfl rfl)),
      fun S hS => g_fin rfl (g_op rfl (s_move (v := .d (.lit (.bool (true)))) (lt_of rfl) (ov_ev hS rfl) rfl)),
      fun S hS => g_fin rfl (g_pass rfl rfl (lt_of rfl) rfl (lt_of rfl) (ov_en hS rfl) c71),
      fun S hS => g_fin rfl (g_pass rfl rfl (lt_of rfl) rfl (lt_of rfl) (ov_en hS rfl) c71),
      fun S hS => g_fin rfl (g_pass rfl rfl (lt_of rfl) rfl (lt_of rfl) (ov_en hS rfl) c71),
      fun S hS => g_fin rfl (g_pass rfl rfl (lt_of rfl) rfl (lt_of rfl) (ov_en hS rfl) c71),
      fun S hS => g_fin rfl (g_pass rfl rfl (lt_of rfl) rfl (lt_of rfl) (ov_en hS rfl) c71),
      fun S hS => g_fin rfl (g_pass rfl rfl (lt_of rfl) rfl (lt_of rfl) (ov_en hS rfl) c71),
      fun S hS => g_fin rfl (g_pass rfl rfl (lt_of rfl) rfl (lt_of rfl) (ov_en hS rfl) c71),
      fun S hS => g_fin rfl (g_pass rfl rfl (lt_of rfl) rfl (lt_of rfl) (ov_en hS rfl) c71),
      fun S hS => g_fin rfl (g_pass rfl rfl (lt_of rfl) rfl (lt_of rfl) (ov_en hS rfl) c71),
      fun S hS => g_fin rfl (g_pass rfl rfl (lt_of rfl) rfl (lt_of rfl) (ov_en hS rfl) c71),
      fun S hS => g_fin rfl (g_op rfl (s_pick_t (v := .d (.lit (.bool true))) (lt_of rfl) (ov_ev hS rfl) c71 rfl rfl)),
      fun S hS => g_fin rfl (g_op rfl (s_move (v := .d (.lit (.bool (true)))) (lt_of rfl) (ov_ev hS rfl) rfl)),
      fun S hS => g_fin rfl (g_pass rfl rfl (lt_of rfl) rfl (lt_of rfl) (ov_en hS rfl) c78),
      fun S hS => g_fin rfl (g_pass rfl rfl (lt_of rfl) rfl (lt_of rfl) (ov_en hS rfl) c78),
      fun S hS => g_fin rfl (g_pass' rfl rfl (lt_of rfl) rfl (lt_of rfl) (ov_en hS rfl)),
      fun S hS => g_fin rfl (g_pass' rfl rfl (lt_of rfl) rfl (lt_of rfl) (ov_en hS rfl)),
      fun S hS => g_fin rfl (g_pass' rfl rfl (lt_of rfl) rfl (lt_of rfl) (ov_en hS rfl)),
      fun S hS => g_fin rfl (g_pass' rfl rfl (lt_of rfl) rfl (lt_of rfl) (ov_en hS rfl)),
      fun S hS => g_fin rfl (g_pass' rfl rfl (lt_of rfl) rfl (lt_of rfl) (ov_en hS rfl)),
      fun S hS => g_fin rfl (g_pass' rfl rfl (lt_of rfl) rfl (lt_of rfl) (ov_en hS rfl)),
      fun S hS => g_fin rfl (g_pass' rfl rfl (lt_of rfl) rfl (lt_of rfl) (ov_en hS rfl)),
      fun S hS => g_fin rfl (g_pass' rfl rfl (lt_of rfl) rfl (lt_of rfl) (ov_en hS rfl)),
      fun S hS => g_fin rfl (g_pass' rfl rfl (lt_of rfl) rfl (lt_of rfl) (ov_en hS rfl)),
      fun S hS => g_fin rfl (g_pass' rfl rfl (lt_of rfl) rfl (lt_of rfl) (ov_en hS rfl)),
      fun S hS => g_fin rfl (g_pass' rfl rfl (lt_of rfl) rfl (lt_of rfl) (ov_en hS rfl)),
      fun S hS => g_fin rfl (g_pass' rfl rfl (lt_of rfl) rfl (lt_of rfl) (ov_en hS rfl)),
      fun S hS => g_fin rfl (g_pass' rfl rfl (lt_of rfl) rfl (lt_of rfl) (ov_en hS rfl)),
      fun S hS => g_fin rfl (g_pass' rfl rfl (lt_of rfl) rfl (lt_of rfl) (ov_en hS rfl)),
      fun S hS => g_fin rfl (g_pass' rfl rfl (lt_of rfl) rfl (lt_of rfl) (ov_en hS rfl)),
      fun S hS => g_fin rfl (g_pass' rfl rfl (lt_of rfl) rfl (lt_of rfl) (ov_en hS rfl)),
      fun S hS => g_fin rfl (g_pass rfl rfl (lt_of rfl) rfl (lt_of rfl) (ov_en hS rfl) c78),
      fun S hS => g_fin rfl (g_op rfl (s_pick_t (v := .d (.lit (.bool true))) (lt_of rfl) (ov_ev hS rfl) c78 rfl rfl)),
      fun S hS => g_fin rfl (g_op rfl (s_move (v := .d (.lit (.bool (true)))) (lt_of rfl) (ov_ev hS rfl) rfl)),
      fun S hS => g_fin rfl (g_pass rfl rfl (lt_of rfl) rfl (lt_of rfl) (ov_en hS rfl) c90),
      fun S hS => g_fin rfl (g_pass rfl rfl (lt_of rfl) rfl (lt_of rfl) (ov_en hS rfl) c90),
      fun S hS => g_fin rfl (g_pass rfl rfl (lt_of rfl) rfl (lt_of rfl) (ov_en hS rfl) c90),
      fun S hS => g_fin rfl (g_pass rfl rfl (lt_of rfl) rfl (lt_of rfl) (ov_en hS rfl) c90),
      fun S hS => g_fin rfl (g_pass rfl rfl (lt_of rfl) rfl (lt_of rfl) (ov_en hS rfl) c90),
      fun S hS => g_fin rfl (g_pass rfl rfl (lt_of rfl) rfl (lt_of rfl) (ov_en hS rfl) c90),
      fun S hS => g_fin rfl (g_pass rfl rfl (lt_of rfl) rfl (lt_of rfl) (ov_en hS rfl) c90),
      fun S hS => g_fin rfl (g_pass rfl rfl (lt_of rfl) rfl (lt_of rfl) (ov_en hS rfl) c90),
      fun S hS => g_fin rfl (g_pass rfl rfl (lt_of rfl) rfl (lt_of rfl) (ov_en hS rfl) c90),
      fun S hS => g_fin rfl (g_pass rfl rfl (lt_of rfl) rfl (lt_of rfl) (ov_en hS rfl) c90),
      fun S hS => g_fin rfl (g_pass rfl rfl (lt_of rfl) rfl (lt_of rfl) (ov_en hS rfl) c90),
      fun S hS => g_fin rfl (g_op rfl (s_pick_t (v := .d (.lit (.bool true))) (lt_of rfl) (ov_ev hS rfl) c90 rfl rfl)), trivial⟩⟩
                              · exact ent_le (le_upd rfl (le_keep ⟨rfl, rfl, rfl, rfl, rfl, rfl, rfl, rfl, rfl, rfl, trivial⟩))
                            · have h63 := cond_ff c64 h63
                              obtain ⟨x65, h66, h63⟩ := bind_some h63
                              obtain ⟨x67, h68, h63⟩ := bind_some h63
                              have h63 := Option.some.inj h63
                              subst h63
                              refine bool_cases (decide (x65 < x67.Low)) (fun c71 => ?_) (fun c71 => ?_)
                              · have h70 := cond_tt c71 h70
                                have h70 := Option.some.inj h70
                                subst h70
                                have c78 : true = true := rfl
                                have h77 := cond_tt c78 h77
                                have h77 := Option.some.inj h77
                                subst h77
                                have c90 : true = true := rfl
                                have h89 := cond_tt c90 h89
                                have h89 := Option.some.inj h89
                                subst h89
                                refine ⟨[(134, 0, .d (.sl 1 (r43.1.map encI))), (135, 1, .d (.lit (.int .i64 x48.Job))), (136, 2, .cp [.lit (.int .i64 x51)]), (137, 3, .d (.lit (.int .i64 x51))), (138, 4, .d (.sl 2 (r32.1.map encApiSpan))), (139, 5, .d (.lit (.int .i64 x48.Job))), (140, 6, .cp [.lit (.int .i64 x53.Low), .lit (.int .i64 x53.High)]), (141, 7, .cp [.lit (.int .i64 x53.Low)]), (142, 8, .d (.lit (.int .i64 x53.Low))), (143, 9, .d (.lit (.bool ((decide (x51 < x53.Low)))))), (144, 10, .d (.lit (.bool ((decide (x51 < x53.Low)))))), (145, 11, .d (.sl 1 (r43.1.map encI))), (146, 12, .d (.lit (.int .i64 x48.Job))), (147, 13, .cp [.lit (.int .i64 x58)]), (148, 14, .d (.lit (.int .i64 x58))), (149, 15, .d (.sl 2 (r32.1.map encApiSpan))), (150, 16, .d (.lit (.int .i64 x48.Job))), (151, 17, .cp [.lit (.int .i64 x60.Low), .lit (.int .i64 x60.High)]), (152, 18, .cp [.lit (.int .i64 x60.High)]), (153, 19, .d (.lit (.int .i64 x60.High))), (154, 20, .d (.lit (.bool ((decide (x60.High < x58)))))), (155, 21, .d (.lit (.bool ((decide (x60.High < x58)))))), (156, 22, .d (.lit (.bool (decide (x60.High < x58))))), (157, 23, .d (.sl 1 (r43.2.map encI))), (158, 24, .d (.lit (.int .i64 x48.Job))), (159, 25, .cp [.lit (.int .i64 x65)]), (160, 26, .d (.lit (.int .i64 x65))), (161, 27, .d (.sl 2 (r32.2.1.map encApiSpan))), (162, 28, .d (.lit (.int .i64 x48.Job))), (163, 29, .cp [.lit (.int .i64 x67.Low), .lit (.int .i64 x67.High)]), (164, 30, .cp [.lit (.int .i64 x67.Low)]), (165, 31, .d (.lit (.int .i64 x67.Low))), (166, 32, .d (.lit (.bool ((decide (x65 < x67.Low)))))), (167, 33, .d (.lit (.bool ((decide (x65 < x67.Low)))))), (168, 34, .d (.lit (.bool (decide (x65 < x67.Low))))), (169, 35, .tup []), (170, 36, .tup []), (171, 37, .tup []), (172, 38, .tup []), (173, 39, .tup []), (174, 40, .tup []), (175, 41, .tup []), (176, 42, .tup []), (177, 43, .tup []), (178, 44, .tup []), (179, 45, .d (.lit (.bool true))), (180, 46, .d (.lit (.bool (true)))), (181, 47, .tup []), (182, 48, .tup []), (183, 49, .tup []), (184, 50, .tup []), (185, 51, .tup []), (186, 52, .tup []), (187, 53, .tup []), (188, 54, .tup []), (189, 55, .tup []), (190, 56, .tup []), (191, 57, .tup []), (192, 58, .tup []), (193, 59, .tup []), (194, 60, .tup []), (195, 61, .tup []), (196, 62, .tup []), (197, 63, .tup []), (198, 64, .tup []), (199, 65, .tup []), (200, 66, .d (.lit (.bool true))), (201, 67, .d (.lit (.bool (true)))), (202, 68, .tup []), (203, 69, .tup []), (204, 70, .tup []), (205, 71, .tup []), (206, 72, .tup []), (207, 73, .tup []), (208, 74, .tup []), (209, 75, .tup []), (210, 76, .tup []), (211, 77, .tup []), (212, 78, .tup []), (213, 79, .d (.lit (.bool true)))], ?_, ?_⟩
                                · exact ⟨by kernel_rfl, by kernel_rfl, by kernel_rfl, by kernel_rfl, by kernel_rfl, [([], []), ([], []), ([0, 1], []), ([2], []), ([], []), ([], []), ([4, 5], []), ([6], []), ([7], []), ([3, 8], []), ([9], []), ([10], []), ([10], []), ([10, 11, 12], []), ([10, 13], []), ([10], []), ([10], []), ([10, 15, 16], []), ([10, 17], []), ([10, 18], []), ([10, 14, 19], []), ([10, 20], []), ([21], []), ([22], []), ([22], []), ([22, 23, 24], []), ([22, 25], []), ([22], []), ([22], []), ([22, 27, 28], []), ([22, 29], []), ([22, 30], []), ([22, 26, 31], []), ([22, 32], []), ([33], []), ([34], []), ([34], []), ([34, 35, 36], []), ([34, 37], []), ([34], []), ([34], []), ([34, 39, 40], []), ([34, 41], []), ([34, 42], []), ([34, 38, 43], []), ([34, 44], []), ([45], []), ([46], []), ([46, 47], []), ([48], []), ([48], []), ([48, 49, 50], []), ([48, 51], []), ([48], []), ([48, 53], []), ([48], []), ([48, 55], []), ([48, 54, 56], []), ([48, 57], []), ([48], []), ([48, 59], []), ([48, 58, 60], []), ([48, 61], []), ([48, 62], []), ([48, 52, 63], []), ([46, 48, 64], []), ([46, 65], []), ([66], []), ([67], []), ([67], []), ([67, 68, 69], []), ([67, 70], []), ([67], []), ([67, 72], []), ([67], []), ([67, 73, 74], []), ([67, 75], []), ([67, 76], []), ([67, 71, 77], []), ([67, 78], [])], by kernel_rfl, ⟨fun S hS => g_fin rfl (g_op rfl (s_move (v := .d (.sl 1 (r43.1.map encI))) (lt_of rfl) (ov_ev hS rfl) rfl)),
      fun S hS => g_fin rfl (g_op rfl (s_move (v := .d (.lit (.int .i64 x48.Job))) (lt_of rfl) (ov_ev hS rfl) rfl)),
      fun S hS => g_fin rfl (g_op rfl (s_index_sl (lt_of rfl) (ov_ev hS rfl) (ov_ev hS rfl) sl_27.of (idx_map encI h52))),
      fun S hS => g_fin rfl (g_op rfl (s_load_cp (lt_of rfl) (ov_ev hS rfl) one_3)),
      fun S hS => g_fin rfl (g_op rfl (s_move (v := .d (.sl 2 (r32.1.map encApiSpan))) (lt_of rfl) (ov_ev hS rfl) rfl)),
      fun S hS => g_fin rfl (g_op rfl (s_move (v := .d (.lit (.int .i64 x48.Job))) (lt_of rfl) (ov_ev hS rfl) rfl)),
      fun S hS => g_fin rfl (g_op rfl (s_index_sl (lt_of rfl) (ov_ev hS rfl) (ov_ev hS rfl) sl_37.of (idx_map encApiSpan h54))),
      fun S hS => g_fin rfl (g_op rfl (s_field_cp (lt_of rfl) (ov_ev hS rfl) fld_34_0 (es := [.lit (.int .i64 x53.Low)]) rfl)),
      fun S hS => g_fin rfl (g_op rfl (s_load_cp (lt_of rfl) (ov_ev hS rfl) one_3)),
      fun S hS => g_fin rfl (g_op rfl (s_cmp (lt_of rfl) (ov_ev hS rfl) (ov_ev hS rfl) rfl)),
      fun S hS => g_fin rfl (g_op rfl (s_move (v := .d (.lit (.bool ((decide (x51 < x53.Low)))))) (lt_of rfl) (ov_ev hS rfl) rfl)),
      fun S hS => g_fin rfl (g_take rfl rfl (lt_of rfl) (ov_en hS rfl) c57 (s_move (v := .d (.sl 1 (r43.1.map encI))) (lt_of rfl) (ov_ev hS rfl) rfl)),
      fun S hS => g_fin rfl (g_take rfl rfl (lt_of rfl) (ov_en hS rfl) c57 (s_move (v := .d (.lit (.int .i64 x48.Job))) (lt_of rfl) (ov_ev hS rfl) rfl)),
      fun S hS => g_fin rfl (g_take rfl rfl (lt_of rfl) (ov_en hS rfl) c57 (s_index_sl (lt_of rfl) (ov_ev hS rfl) (ov_ev hS rfl) sl_27.of (idx_map encI h59))),
      fun S hS => g_fin rfl (g_take rfl rfl (lt_of rfl) (ov_en hS rfl) c57 (s_load_cp (lt_of rfl) (ov_ev hS rfl) one_3)),
      fun S hS => g_fin rfl (g_take rfl rfl (lt_of rfl) (ov_en hS rfl) c57 (s_move (v := .d (.sl 2 (r32.1.map encApiSpan))) (lt_of rfl) (ov_ev hS rfl) rfl)),
      fun S hS => g_fin rfl (g_take rfl rfl (lt_of rfl) (ov_en hS rfl) c57 (s_move (v := .d (.lit (.int .i64 x48.Job))) (lt_of rfl) (ov_ev hS rfl) rfl)),
      fun S hS => g_fin rfl (g_take rfl rfl (lt_of rfl) (ov_en hS rfl) c57 (s_index_sl (lt_of rfl) (ov_ev hS rfl) (ov_ev hS rfl) sl_37.of (idx_map encApiSpan h61))),
      fun S hS => g_fin rfl (g_take rfl rfl (lt_of rfl) (ov_en hS rfl) c57 (s_field_cp (lt_of rfl) (ov_ev hS rfl) fld_34_1 (es := [.lit (.int .i64 x60.High)]) rfl)),
      fun S hS => g_fin rfl (g_take rfl rfl (lt_of rfl) (ov_en hS rfl) c57 (s_load_cp (lt_of rfl) (ov_ev hS rfl) one_3)),
      fun S hS => g_fin rfl (g_take rfl rfl (lt_of rfl) (ov_en hS rfl) c57 (s_cmp (lt_of rfl) (ov_ev hS rfl) (ov_ev hS rfl) rfl)),
      fun S hS => g_fin rfl (g_op rfl (s_pick_f (v := .d (.lit (.bool ((decide (x60.High < x58)))))) (lt_of rfl) (ov_ev hS rfl) c57 (ov_ev hS rfl) rfl)),
      fun S hS => g_fin rfl (g_op rfl (s_move (v := .d (.lit (.bool (decide (x60.High < x58))))) (lt_of rfl) (ov_ev hS rfl) rfl)),
      fun S hS => g_fin rfl (g_take rfl rfl (lt_of rfl) (ov_en hS rfl) c64 (s_move (v := .d (.sl 1 (r43.2.map encI))) (lt_of rfl) (ov_ev hS rfl) rfl)),
      fun S hS => g_fin rfl (g_take rfl rfl (lt_of rfl) (ov_en hS rfl) c64 (s_move (v := .d (.lit (.int .i64 x48.Job))) (lt_of rfl) (ov_ev hS rfl) rfl)),
      fun S hS => g_fin rfl (g_take rfl rfl (lt_of rfl) (ov_en hS rfl) c64 (s_index_sl (lt_of rfl) (ov_ev hS rfl) (ov_ev hS rfl) sl_27.of (idx_map encI h66))),
      fun S hS => g_fin rfl (g_take rfl rfl (lt_of rfl) (ov_en hS rfl) c64 (s_load_cp (lt_of rfl) (ov_ev hS rfl) one_3)),
      fun S hS => g_fin rfl (g_take rfl rfl (lt_of rfl) (ov_en hS rfl) c64 (s_move (v := .d (.sl 2 (r32.2.1.map encApiSpan))) (lt_of rfl) (ov_ev hS rfl) rfl)),
      fun S hS => g_fin rfl (g_take rfl rfl (lt_of rfl) (ov_en hS rfl) c64 (s_move (v := .d (.lit (.int .i64 x48.Job))) (lt_of rfl) (ov_ev hS rfl) rfl)),
      fun S hS => g_fin rfl (g_take rfl rfl (lt_of rfl) (ov_en hS rfl) c64 (s_index_sl (lt_of rfl) (ov_ev hS rfl) (ov_ev hS rfl) sl_37.of (idx_map encApiSpan h68))),
      fun S hS => g_fin rfl (g_take rfl rfl (lt_of rfl) (ov_en hS rfl) c64 (s_field_cp (lt_of rfl) (ov_ev hS rfl) fld_34_0 (es := [.lit (.int .i64 x67.Low)]) rfl)),
      fun S hS => g_fin rfl (g_take rfl rfl (lt_of rfl) (ov_en hS rfl) c64 (s_load_cp (lt_of rfl) (ov_ev hS rfl) one_3)),
      fun S hS => g_fin rfl (g_take rfl rfl (lt_of rfl) (ov_en hS rfl) c64 (s_cmp (lt_of rfl) (ov_ev hS rfl) (ov_ev hS rfl) rfl)),
      fun S hS => g_fin rfl (g_op rfl (s_pick_f (v := .d (.lit (.bool ((decide (x65 < x67.Low)))))) (lt_of rfl) (ov_ev hS rfl) c64 (ov_ev hS rfl) rfl)),
      fun S hS => g_fin rfl (g_op rfl (s_move (v := .d (.lit (.bool (decide (x65 < x67.Low))))) (lt_of rfl) (ov_ev hS rfl) rfl)),
      fun S hS => g_fin rfl (g_pass rfl rfl (lt_of rfl) rfl (lt_of rfl) (ov_en hS rfl) c71),
      fun S hS => g_fin rfl (g_pass rfl rfl (lt_of rfl) rfl (lt_of rfl) (ov_en hS rfl) c71),
      fun S hS => g_fin rfl (g_pass rfl rfl (lt_of rfl) rfl (lt_of rfl) (ov_en hS rfl) c71),
      fun S hS => g_fin rfl (g_pass rfl rfl (lt_of rfl) rfl (lt_of rfl) (ov_en hS rfl) c71),
      fun S hS => g_fin rfl (g_pass rfl rfl (lt_of rfl) rfl (lt_of rfl) (ov_en hS rfl) c71),
      fun S hS => g_fin rfl (g_pass rfl rfl (lt_of rfl) rfl (lt_of rfl) (ov_en hS rfl) c71),
      fun S hS => g_fin rfl (g_pass rfl rfl (lt_of rfl) rfl (lt_of rfl) (ov_en hS rfl) c71),
      fun S hS => g_fin rfl (g_pass rfl rfl (lt_of rfl) rfl (lt_of rfl) (ov_en hS rfl) c71),
      fun S hS => g_fin rfl (g_pass rfl rfl (lt_of rfl) rfl (lt_of rfl) (ov_en hS rfl) c71),
      fun S hS => g_fin rfl (g_pass rfl rfl (lt_of rfl) rfl (lt_of rfl) (ov_en hS rfl) c71),
      fun S hS => g_fin rfl (g_op rfl (s_pick_t (v := .d (.lit (.bool true))) (lt_of rfl) (ov_ev hS rfl) c71 rfl rfl)),
      fun S hS => g_fin rfl (g_op rfl (s_move (v := .d (.lit (.bool (true)))) (lt_of rfl) (ov_ev hS rfl) rfl)),
      fun S hS => g_fin rfl (g_pass rfl rfl (lt_of rfl) rfl (lt_of rfl) (ov_en hS rfl) c78),
      fun S hS => g_fin rfl (g_pass rfl rfl (lt_of rfl) rfl (lt_of rfl) (ov_en hS rfl) c78),
      fun S hS => g_fin rfl (g_pass' rfl rfl (lt_of rfl) rfl (lt_of rfl) (ov_en hS rfl)),
      fun S hS => g_fin rfl (g_pass' rfl rfl (lt_of rfl) rfl (lt_of rfl) (ov_en hS rfl)),
      fun S hS => g_fin rfl (g_pass' rfl rfl (lt_of rfl) rfl (lt_of rfl) (ov_en hS rfl)),
      fun S hS => g_fin rfl (g_pass' rfl rfl (lt_of rfl) rfl (lt_of rfl) (ov_en hS rfl)),
      fun S hS => g_fin rfl (g_pass' rfl rfl (lt_of rfl) rfl (lt_of rfl) (ov_en hS rfl)),
      fun S hS => g_fin rfl (g_pass' rfl rfl (lt_of rfl) rfl (lt_of rfl) (ov_en hS rfl)),
      fun S hS => g_fin rfl (g_pass' rfl rfl (lt_of rfl) rfl (lt_of rfl) (ov_en hS rfl)),
      fun S hS => g_fin rfl (g_pass' rfl rfl (lt_of rfl) rfl (lt_of rfl) (ov_en hS rfl)),
      fun S hS => g_fin rfl (g_pass' rfl rfl (lt_of rfl) rfl (lt_of rfl) (ov_en hS rfl)),
      fun S hS => g_fin rfl (g_pass' rfl rfl (lt_of rfl) rfl (lt_of rfl) (ov_en hS rfl)),
      fun S hS => g_fin rfl (g_pass' rfl rfl (lt_of rfl) rfl (lt_of rfl) (ov_en hS rfl)),
      fun S hS => g_fin rfl (g_pass' rfl rfl (lt_of rfl) rfl (lt_of rfl) (ov_en hS rfl)),
      fun S hS => g_fin rfl (g_pass' rfl rfl (lt_of rfl) rfl (lt_of rfl) (ov_en hS rfl)),
      fun S hS => g_fin rfl (g_pass' rfl rfl (lt_of rfl) rfl (lt_of rfl) (ov_en hS rfl)),
      fun S hS => g_fin rfl (g_pass' rfl rfl (lt_of rfl) rfl (lt_of rfl) (ov_en hS rfl)),
      fun S hS => g_fin rfl (g_pass' rfl rfl (lt_of rfl) rfl (lt_of rfl) (ov_en hS rfl)),
      fun S hS => g_fin rfl (g_pass rfl rfl (lt_of rfl) rfl (lt_of rfl) (ov_en hS rfl) c78),
      fun S hS => g_fin rfl (g_op rfl (s_pick_t (v := .d (.lit (.bool true))) (lt_of rfl) (ov_ev hS rfl) c78 rfl rfl)),
      fun S hS => g_fin rfl (g_op rfl (s_move (v := .d (.lit (.bool (true)))) (lt_of rfl) (ov_ev hS rfl) rfl)),
      fun S hS => g_fin rfl (g_pass rfl rfl (lt_of rfl) rfl (lt_of rfl) (ov_en hS rfl) c90),
      fun S hS => g_fin rfl (g_pass rfl rfl (lt_of rfl) rfl (lt_of rfl) (ov_en hS rfl) c90),
      fun S hS => g_fin rfl (g_pass rfl rfl (lt_of rfl) rfl (lt_of rfl) (ov_en hS rfl) c90),
      fun S hS => g_fin rfl (g_pass rfl rfl (lt_of rfl) rfl (lt_of rfl) (ov_en hS rfl) c90),
      fun S hS => g_fin rfl (g_pass rfl rfl (lt_of rfl) rfl (lt_of rfl) (ov_en hS rfl) c90),
      fun S hS => g_fin rfl (g_pass rfl rfl (lt_of rfl) rfl (lt_of rfl) (ov_en hS rfl) c90),
      fun S hS => g_fin rfl (g_pass rfl rfl (lt_of rfl) rfl (lt_of rfl) (ov_en hS rfl) c90),
      fun S hS => g_fin rfl (g_pass rfl rfl (lt_of rfl) rfl (lt_of rfl) (ov_en hS rfl) c90),
      fun S hS => g_fin rfl (g_pass rfl rfl (lt_of rfl) rfl (lt_of rfl) (ov_en hS rfl) c90),
      fun S hS => g_fin rfl (g_pass rfl rfl (lt_of rfl) rfl (lt_of rfl) (ov_en hS rfl) c90),
      fun S hS => g_fin rfl (g_pass rfl rfl (lt_of rfl) rfl (lt_of rfl) (ov_en hS rfl) c90),
      fun S hS => g_fin rfl (g_op rfl (s_pick_t (v := .d (.lit (.bool true))) (lt_of rfl) (ov_ev hS rfl) c90 rfl rfl)), trivial⟩⟩
                                · exact ent_le (le_upd rfl (le_keep ⟨rfl, rfl, rfl, rfl, rfl, rfl, rfl, rfl, rfl, rfl, trivial⟩))
                              · have h70 := cond_ff c71 h70
                                obtain ⟨x72, h73, h70⟩ := bind_some h70
                                obtain ⟨x74, h75, h70⟩ := bind_some h70
                                have h70 := Option.some.inj h70
                                subst h70
                                refine bool_cases (decide (x74.High < x72)) (fun c78 => ?_) (fun c78 => ?_)
                                · have h77 := cond_tt c78 h77
                                  have h77 := Option.some.inj h77
                                  subst h77
                                  have c90 : true = true := rfl
                                  have h89 := cond_tt c90 h89
                                  have h89 := Option.some.inj h89
                                  subst h89
                                  refine ⟨[(134, 0, .d (.sl 1 (r43.1.map encI))), (135, 1, .d (.lit (.int .i64 x48.Job))), (136, 2, .cp [.lit (.int .i64 x51)]), (137, 3, .d (.lit (.int .i64 x51))), (138, 4, .d (.sl 2 (r32.1.map encApiSpan))), (139, 5, .d (.lit (.int .i64 x48.Job))), (140, 6, .cp [.lit (.int .i64 x53.Low), .lit (.int .i64 x53.High)]), (141, 7, .cp [.lit (.int .i64 x53.Low)]), (142, 8, .d (.lit (.int .i64 x53.Low))), (143, 9, .d (.lit (.bool ((decide (x51 < x53.Low)))))), (144, 10, .d (.lit (.bool ((decide (x51 < x53.Low)))))), (145, 11, .d (.sl 1 (r43.1.map encI))), (146, 12, .d (.lit (.int .i64 x48.Job))), (147, 13, .cp [.lit (.int .i64 x58)]), (148, 14, .d (.lit (.int .i64 x58))), (149, 15, .d (.sl 2 (r32.1.map encApiSpan))), (150, 16, .d (.lit (.int .i64 x48.Job))), (151, 17, .cp [.lit (.int .i64 x60.Low), .lit (.int .i64 x60.High)]), (152, 18, .cp [.lit (.int .i64 x60.High)]), (153, 19, .d (.lit (.int .i64 x60.High))), (154, 20, .d (.lit (.bool ((decide (x60.High < x58)))))), (155, 21, .d (.lit (.bool ((decide (x60.High < x58)))))), (156, 22, .d (.lit (.bool (decide (x60.High < x58))))), (157, 23, .d (.sl 1 (r43.2.map encI))), (158, 24, .d (.lit (.int .i64 x48.Job))), (159, 25, .cp [.lit (.int .i64 x65)]), (160, 26, .d (.lit (.int .i64 x65))), (161, 27, .d (.sl 2 (r32.2.1.map encApiSpan))), (162, 28, .d (.lit (.int .i64 x48.Job))), (163, 29, .cp [.lit (.int .i64 x67.Low), .lit (.int .i64 x67.High)]), (164, 30, .cp [.lit (.int .i64 x67.Low)]), (165, 31, .d (.lit (.int .i64 x67.Low))), (166, 32, .d (.lit (.bool ((decide (x65 < x67.Low)))))), (167, 33, .d (.lit (.bool ((decide (x65 < x67.Low)))))), (168, 34, .d (.lit (.bool (decide (x65 < x67.Low))))), (169, 35, .d (.sl 1 (r43.2.map encI))), (170, 36, .d (.lit (.int .i64 x48.Job))), (171, 37, .cp [.lit (.int .i64 x72)]), (172, 38, .d (.lit (.int .i64 x72))), (173, 39, .d (.sl 2 (r32.2.1.map encApiSpan))), (174, 40, .d (.lit (.int .i64 x48.Job))), (175, 41, .cp [.lit (.int .i64 x74.Low), .lit (.int .i64 x74.High)]), (176, 42, .cp [.lit (.int .i64 x74.High)]), (177, 43, .d (.lit (.int .i64 x74.High))), (178, 44, .d (.lit (.bool ((decide (x74.High < x72)))))), (179, 45, .d (.lit (.bool ((decide (x74.High < x72)))))), (180, 46, .d (.lit (.bool (decide (x74.High < x72))))), (181, 47, .tup []), (182, 48, .tup []), (183, 49, .tup []), (184, 50, .tup []), (185, 51, .tup []), (186, 52, .tup []), (187, 53, .tup []), (188, 54, .tup []), (189, 55, .tup []), (190, 56, .tup []), (191, 57, .tup []), (192, 58, .tup []), (193, 59, .tup []), (194, 60, .tup []), (195, 61, .tup []), (196, 62, .tup []), (197, 63, .tup []), (198, 64, .tup []), (199, 65, .tup []), (200, 66, .d (.lit (.bool true))), (201, 67, .d (.lit (.bool (true)))), (202, 68, .tup []), (203, 69, .tup []), (204, 70, .tup []), (205, 71, .tup []), (206, 72, .tup []), (207, 73, .tup []), (208, 74, .tup []), (209, 75, .tup []), (210, 76, .tup []), (211, 77, .tup []), (212, 78, .tup []), (213, 79, .d (.lit (.bool true)))], ?_, ?_⟩
                                  · exact ⟨by kernel_rfl, by kernel_rfl, by kernel_rfl, by kernel_rfl, by kernel_rfl, [([], []), ([], []), ([0, 1], []), ([2], []), ([], []), ([], []), ([4, 5], []), ([6], []), ([7], []), ([3, 8], []), ([9], []), ([10], []), ([10], []), ([10, 11, 12], []), ([10, 13], []), ([10], []), ([10], []), ([10, 15, 16], []), ([10, 17], []), ([10, 18], []), ([10, 14, 19], []), ([10, 20], []), ([21], []), ([22], []), ([22], []), ([22, 23, 24], []), ([22, 25], []), ([22], []), ([22], []), ([22, 27, 28], []), ([22, 29], []), ([22, 30], []), ([22, 26, 31], []), ([22, 32], []), ([33], []), ([34], []), ([34], []), ([34, 35, 36], []), ([34, 37], []), ([34], []), ([34], []), ([34, 39, 40], []), ([34, 41], []), ([34, 42], []), ([34, 38, 43], []), ([34, 44], []), ([45], []), ([46], []), ([46, 47], []), ([48], []), ([48], []), ([48, 49, 50], []), ([48, 51], []), ([48], []), ([48, 53], []), ([48], []), ([48, 55], []), ([48, 54, 56], []), ([48, 57], []), ([48], []), ([48, 59], []), ([48, 58, 60], []), ([48, 61], []), ([48, 62], []), ([48, 52, 63], []), ([46, 48, 64], []), ([46, 65], []), ([66], []), ([67], []), ([67], []), ([67, 68, 69], []), ([67, 70], []), ([67], []), ([67, 72], []), ([67], []), ([67, 73, 74], []), ([67, 75], []), ([67, 76], []), ([67, 71, 77], []), ([67, 78], [])], by kernel_rfl, ⟨fun S hS => g_fin rfl (g_op rfl (s_move (v := .d (.sl 1 (r43.1.map encI))) (lt_of rfl) (ov_ev hS rfl) rfl)),
      fun S hS => g_fin rfl (g_op rfl (s_move (v := .d (.lit (.int .i64 x48.Job))) (lt_of rfl) (ov_ev hS rfl) rfl)),
      fun S hS => g_fin rfl (g_op rfl (s_index_sl (lt_of rfl) (ov_ev hS rfl) (ov_ev hS rfl) sl_27.of (idx_map encI h52))),
      fun S hS => g_fin rfl (g_op rfl (s_load_cp (lt_of rfl) (ov_ev hS rfl) one_3)),
      fun S hS => g_fin rfl (g_op rfl (s_move (v := .d (.sl 2 (r32.1.map encApiSpan))) (lt_of rfl) (ov_ev hS rfl) rfl)),
      fun S hS => g_fin rfl (g_op rfl (s_move (v := .d (.lit (.int .i64 x48.Job))) (lt_of rfl) (ov_ev hS rfl) rfl)),
      fun S hS => g_fin rfl (g_op rfl (s_index_sl (lt_of rfl) (ov_ev hS rfl) (ov_ev hS rfl) sl_37.of (idx_map encApiSpan h54))),
      fun S hS => g_fin rfl (g_op rfl (s_field_cp (lt_of rfl) (ov_ev hS rfl) fld_34_0 (es := [.lit (.int .i64 x53.Low)]) rfl)),
      fun S hS => g_fin rfl (g_op rfl (s_load_cp (lt_of rfl) (ov_ev hS rfl) one_3)),
      fun S hS => g_fin rfl (g_op rfl (s_cmp (lt_of rfl) (ov_ev hS rfl) (ov_ev hS rfl) rfl)),
      fun S hS => g_fin rfl (g_op rfl (s_move (v := .d (.lit (.bool ((decide (x51 < x53.Low)))))) (lt_of rfl) (ov_ev hS rfl) rfl)),
      fun S hS => g_fin rfl (g_take rfl rfl (lt_of rfl) (ov_en hS rfl) c57 (s_move (v := .d (.sl 1 (r43.1.map encI))) (lt_of rfl) (ov_ev hS rfl) rfl)),
      fun S hS => g_fin rfl (g_take rfl rfl (lt_of rfl) (ov_en hS rfl) c57 (s_move (v := .d (.lit (.int .i64 x48.Job))) (lt_of rfl) (ov_ev hS rfl) rfl)),
      fun S hS => g_fin rfl (g_take rfl rfl (lt_of rfl) (ov_en hS rfl) c57 (s_index_sl (lt_of rfl) (ov_ev hS rfl) (ov_ev hS rfl) sl_27.of (idx_map encI h59))),
      fun S hS => g_fin rfl (g_take rfl rfl (lt_of rfl) (ov_en hS rfl) c57 (s_load_cp (lt_of rfl) (ov_ev hS rfl) one_3)),
      fun S hS => g_fin rfl (g_take rfl rfl (lt_of rfl) (ov_en hS rfl) c57 (s_move (v := .d (.sl 2 (r32.1.map encApiSpan))) (lt_of rfl) (ov_ev hS rfl) rfl)),
      fun S hS => g_fin rfl (g_take rfl rfl (lt_of rfl) (ov_en hS rfl) c57 (s_move (v := .d (.lit (.int .i64 x48.Job))) (lt_of rfl) (ov_ev hS rfl) rfl)),
      fun S hS => g_fin rfl (g_take rfl rfl (lt_of rfl) (ov_en hS rfl) c57 (s_index_sl (lt_of rfl) (ov_ev hS rfl) (ov_ev hS rfl) sl_37.of (idx_map encApiSpan h61))),
      fun S hS => g_fin rfl (g_take rfl rfl (lt_of rfl) (ov_en hS rfl) c57 (s_field_cp (lt_of rfl) (ov_ev hS rfl) fld_34_1 (es := [.lit (.int .i64 x60.High)]) rfl)),
      fun S hS => g_fin rfl (g_take rfl rfl (lt_of rfl) (ov_en hS rfl) c57 (s_load_cp (lt_of rfl) (ov_ev hS rfl) one_3)),
      fun S hS => g_fin rfl (g_take rfl rfl (lt_of rfl) (ov_en hS rfl) c57 (s_cmp (lt_of rfl) (ov_ev hS rfl) (ov_ev hS rfl) rfl)),
      fun S hS => g_fin rfl (g_op rfl (s_pick_f (v := .d (.lit (.bool ((decide (x60.High < x58)))))) (lt_of rfl) (ov_ev hS rfl) c57 (ov_ev hS rfl) rfl)),
      fun S hS => g_fin rfl (g_op rfl (s_move (v := .d (.lit (.bool (decide (x60.High < x58))))) (lt_of rfl) (ov_ev hS rfl) rfl)),
      fun S hS => g_fin rfl (g_take rfl rfl (lt_of rfl) (ov_en hS rfl) c64 (s_move (v := .d (.sl 1 (r43.2.map encI))) (lt_of rfl) (ov_ev hS rfl) rfl)),
      fun S hS => g_fin rfl (g_take rfl rfl (lt_of rfl) (ov_en hS rfl) c64 (s_move (v := .d (.lit (.int .i64 x48.Job))) (lt_of rfl) (ov_ev hS rfl) rfl)),
      fun S hS => g_fin rfl (g_take rfl rfl (lt_of rfl) (ov_en hS rfl) c64 (s_index_sl (lt_of rfl) (ov_ev hS rfl) (ov_ev hS rfl) sl_27.of (idx_map encI h66))),
      fun S hS => g_fin rfl (g_take rfl rfl (lt_of rfl) (ov_en hS rfl) c64 (s_load_cp (lt_of rfl) (ov_ev hS rfl) one_3)),
      fun S hS => g_fin rfl (g_take rfl rfl (lt_of rfl) (ov_en hS rfl) c64 (s_move (v := .d (.sl 2 (r32.2.1.map encApiSpan))) (lt_of rfl) (ov_ev hS rfl) rfl)),
      fun S hS => g_fin rfl (g_take rfl rfl (lt_of rfl) (ov_en hS rfl) c64 (s_move (v := .d (.lit (.int .i64 x48.Job))) (lt_of rfl) (ov_ev hS rfl) rfl)),
      fun S hS => g_fin rfl (g_take rfl rfl (lt_of rfl) (ov_en hS rfl) c64 (s_index_sl (lt_of rfl) (ov_ev hS rfl) (ov_ev hS rfl) sl_37.of (idx_map encApiSpan h68))),
      fun S hS => g_fin rfl (g_take rfl rfl (lt_of rfl) (ov_en hS rfl) c64 (s_field_cp (lt_of rfl) (ov_ev hS rfl) fld_34_0 (es := [.lit (.int .i64 x67.Low)]) rfl)),
      fun S hS => g_fin rfl (g_take rfl rfl (lt_of rfl) (ov_en hS rfl) c64 (s_load_cp (lt_of rfl) (ov_ev hS rfl) one_3)),
      fun S hS => g_fin rfl (g_take rfl rfl (lt_of rfl) (ov_en hS rfl) c64 (s_cmp (lt_of rfl) (ov_ev hS rfl) (ov_ev hS rfl) rfl)),
      fun S hS => g_fin rfl (g_op rfl (s_pick_f (v := .d (.lit (.bool ((decide (x65 < x67.Low)))))) (lt_of rfl) (ov_ev hS rfl) c64 (ov_ev hS rfl) rfl)),
      fun S hS => g_fin rfl (g_op rfl (s_move (v := .d (.lit (.bool (decide (x65 < x67.Low))))) (lt_of rfl) (ov_ev hS rfl) rfl)),
      fun S hS => g_fin rfl (g_take rfl rfl (lt_of rfl) (ov_en hS rfl) c71 (s_move (v := .d (.sl 1 (r43.2.map encI))) (lt_of rfl) (ov_ev hS rfl) rfl)),
      fun S hS => g_fin rfl (g_take rfl rfl (lt_of rfl) (ov_en hS rfl) c71 (s_move (v := .d (.lit (.int .i64 x48.Job))) (lt_of rfl) (ov_ev hS rfl) rfl)),
      fun S hS => g_fin rfl (g_take rfl rfl (lt_of rfl) (ov_en hS rfl) c71 (s_index_sl (lt_of rfl) (ov_ev hS rfl) (ov_ev hS rfl) sl_27.of (idx_map encI h73))),
      fun S hS => g_fin rfl (g_take rfl rfl (lt_of rfl) (ov_en hS rfl) c71 (s_load_cp (lt_of rfl) (ov_ev hS rfl) one_3)),
      fun S hS => g_fin rfl (g_take rfl rfl (lt_of rfl) (ov_en hS rfl) c71 (s_move (v := .d (.sl 2 (r32.2.1.map encApiSpan))) (lt_of rfl) (ov_ev hS rfl) rfl)),
      fun S hS => g_fin rfl (g_take rfl rfl (lt_of rfl) (ov_en hS rfl) c71 (s_move (v := .d (.lit (.int .i64 x48.Job))) (lt_of rfl) (ov_ev hS rfl) rfl)),
      fun S hS => g_fin rfl (g_take rfl rfl (lt_of rfl) (ov_en hS rfl) c71 (s_index_sl (lt_of rfl) (ov_ev hS rfl) (ov_ev hS rfl) sl_37.of (idx_map encApiSpan h75))),
      fun S hS => g_fin rfl (g_take rfl rfl (lt_of rfl) (ov_en hS rfl) c71 (s_field_cp (lt_of rfl) (ov_ev hS rfl) fld_34_1 (es := [.lit (.int .i64 x74.High)]) rfl)),
      fun S hS => g_fin rfl (g_take rfl rfl (lt_of rfl) (ov_en hS rfl) c71 (s_load_cp (lt_of rfl) (ov_ev hS rfl) one_3)),
      fun S hS => g_fin rfl (g_take rfl rfl (lt_of rfl) (ov_en hS rfl) c71 (s_cmp (lt_of rfl) (ov_ev hS rfl) (ov_ev hS rfl) rfl)),
      fun S hS => g_fin rfl (g_op rfl (s_pick_f (v := .d (.lit (.bool ((decide (x74.High < x72)))))) (lt_of rfl) (ov_ev hS rfl) c71 (ov_ev hS rfl) rfl)),
      fun S hS => g_fin rfl (g_op rfl (s_move (v := .d (.lit (.bool (decide (x74.High < x72))))) (lt_of rfl) (ov_ev hS rfl) rfl)),
      fun S hS => g_fin rfl (g_pass rfl rfl (lt_of rfl) rfl (lt_of rfl) (ov_en hS rfl) c78),
      fun S hS => g_fin rfl (g_pass rfl rfl (lt_of rfl) rfl (lt_of rfl) (ov_en hS rfl) c78),
      fun S hS => g_fin rfl (g_pass' rfl rfl (lt_of rfl) rfl (lt_of rfl) (ov_en hS rfl)),
      fun S hS => g_fin rfl (g_pass' rfl rfl (lt_of rfl) rfl (lt_of rfl) (ov_en hS rfl)),
      fun S hS => g_fin rfl (g_pass' rfl rfl (lt_of rfl) rfl (lt_of rfl) (ov_en hS rfl)),
      fun S hS => g_fin rfl (g_pass' rfl rfl (lt_of rfl) rfl (lt_of rfl) (ov_en hS rfl)),
      fun S hS => g_fin rfl (g_pass' rfl rfl (lt_of rfl) rfl (lt_of rfl) (ov_en hS rfl)),
      fun S hS => g_fin rfl (g_pass' rfl rfl (lt_of rfl) rfl (lt_of rfl) (ov_en hS rfl)),
      fun S hS => g_fin rfl (g_pass' rfl rfl (lt_of rfl) rfl (lt_of rfl) (ov_en hS rfl)),
      fun S hS => g_fin rfl (g_pass' rfl rfl (lt_of rfl) rfl (lt_of rfl) (ov_en hS rfl)),
      fun S hS => g_fin rfl (g_pass' rfl rfl (lt_of rfl) rfl (lt_of rfl) (ov_en hS rfl)),
      fun S hS => g_fin rfl (g_pass' rfl rfl (lt_of rfl) rfl (lt_of rfl) (ov_en hS rfl)),
      fun S hS => g_fin rfl (g_pass' rfl rfl (lt_of rfl) rfl (lt_of rfl) (ov_en hS rfl)),
      fun S hS => g_fin rfl (g_pass' rfl rfl (lt_of rfl) rfl (lt_of rfl) (ov_en hS rfl)),
      fun S hS => g_fin rfl (g_pass' rfl rfl (lt_of rfl) rfl (lt_of rfl) (ov_en hS rfl)),
      fun S hS => g_fin rfl (g_pass' rfl rfl (lt_of rfl) rfl (lt_of rfl) (ov_en hS rfl)),
      fun S hS => g_fin rfl (g_pass' rfl rfl (lt_of rfl) rfl (lt_of rfl) (ov_en hS rfl)),
      fun S hS => g_fin rfl (g_pass' rfl rfl (lt_of rfl) rfl (lt_of rfl) (ov_en hS rfl)),
      fun S hS => g_fin rfl (g_pass rfl rfl (lt_of rfl) rfl (lt_of rfl) (ov_en hS rfl) c78),
      fun S hS => g_fin rfl (g_op rfl (s_pick_t (v := .d (.lit (.bool true))) (lt_of rfl) (ov_ev hS rfl) c78 rfl rfl)),
      fun S hS => g_fin rfl (g_op rfl (s_move (v := .d (.lit (.bool (true)))) (lt_of rfl) (ov_ev hS rfl) rfl)),
      fun S hS => g_fin rfl (g_pass rfl rfl (lt_of rfl) rfl (lt_of rfl) (ov_en hS rfl) c90),
      fun S hS => g_fin rfl (g_pass rfl rfl (lt_of rfl) rfl (lt_of rfl) (ov_en hS rfl) c90),
      fun S hS => g_fin rfl (g_pass rfl rfl (lt_of rfl) rfl (lt_of rfl) (ov_en hS rfl) c90),
      fun S hS => g_fin rfl (g_pass rfl rfl (lt_of rfl) rfl (lt_of rfl) (ov_en hS rfl) c90),
      fun S hS => g_fin rfl (g_pass rfl rfl (lt_of rfl) rfl (lt_of rfl) (ov_en hS rfl) c90),
      fun S hS => g_fin rfl (g_pass rfl rfl (lt_of rfl) rfl (lt_of rfl) (ov_en hS rfl) c90),
      fun S hS => g_fin rfl (g_pass rfl rfl (lt_of rfl) rfl (lt_of rfl) (ov_en hS rfl) c90),
      fun S hS => g_fin rfl (g_pass rfl rfl (lt_of rfl) rfl (lt_of rfl) (ov_en hS rfl) c90),
      fun S hS => g_fin rfl (g_pass rfl rfl (lt_of rfl) rfl (lt_of rfl) (ov_en hS rfl) c90),
      fun S hS => g_fin rfl (g_pass rfl rfl (lt_of rfl) rfl (lt_of rfl) (ov_en hS rfl) c90),
      fun S hS => g_fin rfl (g_pass rfl rfl (lt_of rfl) rfl (lt_of rfl) (ov_en hS rfl) c90),
      fun S hS => g_fin rfl (g_op rfl (s_pick_t (v := .d (.lit (.bool true))) (lt_of rfl) (ov_ev hS rfl) c90 rfl rfl)), trivial⟩⟩
                                  · exact ent_le (le_upd rfl (le_keep ⟨rfl, rfl, rfl, rfl, rfl, rfl, rfl, rfl, rfl, rfl, trivial⟩))
                                · have h77 := cond_ff c78 h77
                                  obtain ⟨b79, h80, h77⟩ := bind_some h77
                                  refine bool_cases (r34.1) (fun c81 => ?_) (fun c81 => ?_)
                                  · have h80 := cond_tt c81 h80
                                    obtain ⟨x82, h83, h80⟩ := bind_some h80
                                    obtain ⟨x84, h85, h80⟩ := bind_some h80
                                    obtain ⟨x86, h87, h80⟩ := bind_some h80
                                    have h80 := Option.some.inj h80
                                    subst h80
                                    have h77 := Option.some.inj h77
                                    subst h77
                                    refine bool_cases (decide (x86.High < x82)) (fun c90 => ?_) (fun c90 => ?_)
                                    · have h89 := cond_tt c90 h89
                                      have h89 := Option.some.inj h89
                                      subst h89
                                      refine ⟨[(134, 0, .d (.sl 1 (r43.1.map encI))), (135, 1, .d (.lit (.int .i64 x48.Job))), (136, 2, .cp [.lit (.int .i64 x51)]), (137, 3, .d (.lit (.int .i64 x51))), (138, 4, .d (.sl 2 (r32.1.map encApiSpan))), (139, 5, .d (.lit (.int .i64 x48.Job))), (140, 6, .cp [.lit (.int .i64 x53.Low), .lit (.int .i64 x53.High)]), (141, 7, .cp [.lit (.int .i64 x53.Low)]), (142, 8, .d (.lit (.int .i64 x53.Low))), (143, 9, .d (.lit (.bool ((decide (x51 < x53.Low)))))), (144, 10, .d (.lit (.bool ((decide (x51 < x53.Low)))))), (145, 11, .d (.sl 1 (r43.1.map encI))), (146, 12, .d (.lit (.int .i64 x48.Job))), (147, 13, .cp [.lit (.int .i64 x58)]), (148, 14, .d (.lit (.int .i64 x58))), (149, 15, .d (.sl 2 (r32.1.map encApiSpan))), (150, 16, .d (.lit (.int .i64 x48.Job))), (151, 17, .cp [.lit (.int .i64 x60.Low), .lit (.int .i64 x60.High)]), (152, 18, .cp [.lit (.int .i64 x60.High)]), (153, 19, .d (.lit (.int .i64 x60.High))), (154, 20, .d (.lit (.bool ((decide (x60.High < x58)))))), (155, 21, .d (.lit (.bool ((decide (x60.High < x58)))))), (156, 22, .d (.lit (.bool (decide (x60.High < x58))))), (157, 23, .d (.sl 1 (r43.2.map encI))), (158, 24, .d (.lit (.int .i64 x48.Job))), (159, 25, .cp [.lit (.int .i64 x65)]), (160, 26, .d (.lit (.int .i64 x65))), (161, 27, .d (.sl 2 (r32.2.1.map encApiSpan))), (162, 28, .d (.lit (.int .i64 x48.Job))), (163, 29, .cp [.lit (.int .i64 x67.Low), .lit (.int .i64 x67.High)]), (164, 30, .cp [.lit (.int .i64 x67.Low)]), (165, 31, .d (.lit (.int .i64 x67.Low))), (166, 32, .d (.lit (.bool ((decide (x65 < x67.Low)))))), (167, 33, .d (.lit (.bool ((decide (x65 < x67.Low)))))), (168, 34, .d (.lit (.bool (decide (x65 < x67.Low))))), (169, 35, .d (.sl 1 (r43.2.map encI))), (170, 36, .d (.lit (.int .i64 x48.Job))), (171, 37, .cp [.lit (.int .i64 x72)]), (172, 38, .d (.lit (.int .i64 x72))), (173, 39, .d (.sl 2 (r32.2.1.map encApiSpan))), (174, 40, .d (.lit (.int .i64 x48.Job))), (175, 41, .cp [.lit (.int .i64 x74.Low), .lit (.int .i64 x74.High)]), (176, 42, .cp [.lit (.int .i64 x74.High)]), (177, 43, .d (.lit (.int .i64 x74.High))), (178, 44, .d (.lit (.bool ((decide (x74.High < x72)))))), (179, 45, .d (.lit (.bool ((decide (x74.High < x72)))))), (180, 46, .d (.lit (.bool (decide (x74.High < x72))))), (181, 47, .d (.lit (.bool r34.1))), (182, 48, .d (.lit (.bool r34.1))), (183, 49, .d (.sl 1 (r43.2.map encI))), (184, 50, .d (.lit (.int .i64 x48.Job))), (185, 51, .cp [.lit (.int .i64 x82)]), (186, 52, .d (.lit (.int .i64 x82))), (187, 53, .bp b1 0 0), (188, 54, .d (.sl 1 (p_0.Days.map encSl_ApiSpan))), (189, 55, .bp b50 0 1), (190, 56, .d (.lit (.int .i64 x48.Day))), (191, 57, .cp [.sl 2 (x84.map encApiSpan)]), (192, 58, .d (.sl 2 (x84.map encApiSpan))), (193, 59, .bp b50 0 2), (194, 60, .d (.lit (.int .i64 x48.Court))), (195, 61, .cp [.lit (.int .i64 x86.Low), .lit (.int .i64 x86.High)]), (196, 62, .cp [.lit (.int .i64 x86.High)]), (197, 63, .d (.lit (.int .i64 x86.High))), (198, 64, .d (.lit (.bool ((decide (x86.High < x82)))))), (199, 65, .d (.lit (.bool ((decide (x86.High < x82)))))), (200, 66, .d (.lit (.bool (decide (x86.High < x82))))), (201, 67, .d (.lit (.bool (decide (x86.High < x82))))), (202, 68, .tup []), (203, 69, .tup []), (204, 70, .tup []), (205, 71, .tup []), (206, 72, .tup []), (207, 73, .tup []), (208, 74, .tup []), (209, 75, .tup []), (210, 76, .tup []), (211, 77, .tup []), (212, 78, .tup []), (213, 79, .d (.lit (.bool true)))], ?_, ?_⟩
                                      · exact ⟨by kernel_rfl, by kernel_rfl, by kernel_rfl, by kernel_rfl, by kernel_rfl, [([], []), ([], []), ([0, 1], []), ([2], []), ([], []), ([], []), ([4, 5], []), ([6], []), ([7], []), ([3, 8], []), ([9], []), ([10], []), ([10], []), ([10, 11, 12], []), ([10, 13], []), ([10], []), ([10], []), ([10, 15, 16], []), ([10, 17], []), ([10, 18], []), ([10, 14, 19], []), ([10, 20], []), ([21], []), ([22], []), ([22], []), ([22, 23, 24], []), ([22, 25], []), ([22], []), ([22], []), ([22, 27, 28], []), ([22, 29], []), ([22, 30], []), ([22, 26, 31], []), ([22, 32], []), ([33], []), ([34], []), ([34], []), ([34, 35, 36], []), ([34, 37], []), ([34], []), ([34], []), ([34, 39, 40], []), ([34, 41], []), ([34, 42], []), ([34, 38, 43], []), ([34, 44], []), ([45], []), ([46], []), ([46, 47], []), ([48], []), ([48], []), ([48, 49, 50], []), ([48, 51], []), ([48], []), ([48, 53], []), ([48], []), ([48, 55], []), ([48, 54, 56], []), ([48, 57], []), ([48], []), ([48, 59], []), ([48, 58, 60], []), ([48, 61], []), ([48, 62], []), ([48, 52, 63], []), ([46, 48, 64], []), ([46, 65], []), ([66], []), ([67], []), ([67], []), ([67, 68, 69], []), ([67, 70], []), ([67], []), ([67, 72], []), ([67], []), ([67, 73, 74], []), ([67, 75], []), ([67, 76], []), ([67, 71, 77], []), ([67, 78], [])], by kernel_rfl, ⟨fun S hS => g_fin rfl (g_op rfl (s_move (v := .d (.sl 1 (r43.1.map encI))) (lt_of rfl) (ov_ev hS rfl) rfl)),
      fun S hS => g_fin rfl (g_op rfl (s_move (v := .d (.lit (.int .i64 x48.Job))) (lt_of rfl) (ov_ev hS rfl) rfl)),
      fun S hS => g_fin rfl (g_op rfl (s_index_sl (lt_of rfl) (ov_ev hS rfl) (ov_ev hS rfl) sl_27.of (idx_map encI h52))),
      fun S hS => g_fin rfl (g_op rfl (s_load_cp (lt_of rfl) (ov_ev hS rfl) one_3)),
      fun S hS => g_fin rfl (g_op rfl (s_move (v := .d (.sl 2 (r32.1.map encApiSpan))) (lt_of rfl) (ov_ev hS rfl) rfl)),
      fun S hS => g_fin rfl (g_op rfl (s_move (v := .d (.lit (.int .i64 x48.Job))) (lt_of rfl) (ov_ev hS rfl) rfl)),
      fun S hS => g_fin rfl (g_op rfl (s_index_sl (lt_of rfl) (ov_ev hS rfl) (ov_ev hS rfl) sl_37.of (idx_map encApiSpan h54))),
      fun S hS => g_fin rfl (g_op rfl (s_field_cp (lt_of rfl) (ov_ev hS rfl) fld_34_0 (es := [.lit (.int .i64 x53.Low)]) rfl)),
      fun S hS => g_fin rfl (g_op rfl (s_load_cp (lt_of rfl) (ov_ev hS rfl) one_3)),
      fun S hS => g_fin rfl (g_op rfl (s_cmp (lt_of rfl) (ov_ev hS rfl) (ov_ev hS rfl) rfl)),
      fun S hS => g_fin rfl (g_op rfl (s_move (v := .d (.lit (.bool ((decide (x51 < x53.Low)))))) (lt_of rfl) (ov_ev hS rfl) rfl)),
      fun S hS => g_fin rfl (g_take rfl rfl (lt_of rfl) (ov_en hS rfl) c57 (s_move (v := .d (.sl 1 (r43.1.map encI))) (lt_of rfl) (ov_ev hS rfl) rfl)),
      fun S hS => g_fin rfl (g_take rfl rfl (lt_of rfl) (ov_en hS rfl) c57 (s_move (v := .d (.lit (.int .i64 x48.Job))) (lt_of rfl) (ov_ev hS rfl) rfl)),
      fun S hS => g_fin rfl (g_take rfl rfl (lt_of rfl) (ov_en hS rfl) c57 (s_index_sl (lt_of rfl) (ov_ev hS rfl) (ov_ev hS rfl) sl_27.of (idx_map encI h59))),
      fun S hS => g_fin rfl (g_take rfl rfl (lt_of rfl) (ov_en hS rfl) c57 (s_load_cp (lt_of rfl) (ov_ev hS rfl) one_3)),
      fun S hS => g_fin rfl (g_take rfl rfl (lt_of rfl) (ov_en hS rfl) c57 (s_move (v := .d (.sl 2 (r32.1.map encApiSpan))) (lt_of rfl) (ov_ev hS rfl) rfl)),
      fun S hS => g_fin rfl (g_take rfl rfl (lt_of rfl) (ov_en hS rfl) c57 (s_move (v := .d (.lit (.int .i64 x48.Job))) (lt_of rfl) (ov_ev hS rfl) rfl)),
      fun S hS => g_fin rfl (g_take rfl rfl (lt_of rfl) (ov_en hS rfl) c57 (s_index_sl (lt_of rfl) (ov_ev hS rfl) (ov_ev hS rfl) sl_37.of (idx_map encApiSpan h61))),
      fun S hS => g_fin rfl (g_take rfl rfl (lt_of rfl) (ov_en hS rfl) c57 (s_field_cp (lt_of rfl) (ov_ev hS rfl) fld_34_1 (es := [.lit (.int .i64 x60.High)]) rfl)),
      fun S hS => g_fin rfl (g_take rfl rfl (lt_of rfl) (ov_en hS rfl) c57 (s_load_cp (lt_of rfl) (ov_ev hS rfl) one_3)),
      fun S hS => g_fin rfl (g_take rfl rfl (lt_of rfl) (ov_en hS rfl) c57 (s_cmp (lt_of rfl) (ov_ev hS rfl) (ov_ev hS rfl) rfl)),
      fun S hS => g_fin rfl (g_op rfl (s_pick_f (v := .d (.lit (.bool ((decide (x60.High < x58)))))) (lt_of rfl) (ov_ev hS rfl) c57 (ov_ev hS rfl) rfl)),
      fun S hS => g_fin rfl (g_op rfl (s_move (v := .d (.lit (.bool (decide (x60.High < x58))))) (lt_of rfl) (ov_ev hS rfl) rfl)),
      fun S hS => g_fin rfl (g_take rfl rfl (lt_of rfl) (ov_en hS rfl) c64 (s_move (v := .d (.sl 1 (r43.2.map encI))) (lt_of rfl) (ov_ev hS rfl) rfl)),
      fun S hS => g_fin rfl (g_take rfl rfl (lt_of rfl) (ov_en hS rfl) c64 (s_move (v := .d (.lit (.int .i64 x48.Job))) (lt_of rfl) (ov_ev hS rfl) rfl)),
      fun S hS => g_fin rfl (g_take rfl rfl (lt_of rfl) (ov_en hS rfl) c64 (s_index_sl (lt_of rfl) (ov_ev hS rfl) (ov_ev hS rfl) sl_27.of (idx_map encI h66))),
      fun S hS => g_fin rfl (g_take rfl rfl (lt_of rfl) (ov_en hS rfl) c64 (s_load_cp (lt_of rfl) (ov_ev hS rfl) one_3)),
      fun S hS => g_fin rfl (g_take rfl rfl (lt_of rfl) (ov_en hS rfl) c64 (s_move (v := .d (.sl 2 (r32.2.1.map encApiSpan))) (lt_of rfl) (ov_ev hS rfl) rfl)),
      fun S hS => g_fin rfl (g_take rfl rfl (lt_of rfl) (ov_en hS rfl) c64 (s_move (v := .d (.lit (.int .i64 x48.Job))) (lt_of rfl) (ov_ev hS rfl) rfl)),
      fun S hS => g_fin rfl (g_take rfl rfl (lt_of rfl) (ov_en hS rfl) c64 (s_index_sl (lt_of rfl) (ov_ev hS rfl) (ov_ev hS rfl) sl_37.of (idx_map encApiSpan h68))),
      fun S hS => g_fin rfl (g_take rfl rfl (lt_of rfl) (ov_en hS rfl) c64 (s_field_cp (lt_of rfl) (ov_ev hS rfl) fld_34_0 (es := [.lit (.int .i64 x67.Low)]) rfl)),
      fun S hS => g_fin rfl (g_take rfl rfl (lt_of rfl) (ov_en hS rfl) c64 (s_load_cp (lt_of rfl) (ov_ev hS rfl) one_3)),
      fun S hS => g_fin rfl (g_take rfl rfl (lt_of rfl) (ov_en hS rfl) c64 (s_cmp (lt_of rfl) (ov_ev hS rfl) (ov_ev hS rfl) rfl)),
      fun S hS => g_fin rfl (g_op rfl (s_pick_f (v := .d (.lit (.bool ((decide (x65 < x67.Low)))))) (lt_of rfl) (ov_ev hS rfl) c64 (ov_ev hS rfl) rfl)),
      fun S hS => g_fin rfl (g_op rfl (s_move (v := .d (.lit (.bool (decide (x65 < x67.Low))))) (lt_of rfl) (ov_ev hS rfl) rfl)),
      fun S hS => g_fin rfl (g_take rfl rfl (lt_of rfl) (ov_en hS rfl) c71 (s_move (v := .d (.sl 1 (r43.2.map encI))) (lt_of rfl) (ov_ev hS rfl) rfl)),
      fun S hS => g_fin rfl (g_take rfl rfl (lt_of rfl) (ov_en hS rfl) c71 (s_move (v := .d (.lit (.int .i64 x48.Job))) (lt_of rfl) (ov_ev hS rfl) rfl)),
      fun S hS => g_fin rfl (g_take rfl rfl (lt_of rfl) (ov_en hS rfl) c71 (s_index_sl (lt_of rfl) (ov_ev hS rfl) (ov_ev hS rfl) sl_27.of (idx_map encI h73))),
      fun S hS => g_fin rfl (g_take rfl rfl (lt_of rfl) (ov_en hS rfl) c71 (s_load_cp (lt_of rfl) (ov_ev hS rfl) one_3)),
      fun S hS => g_fin rfl (g_take rfl rfl (lt_of rfl) (ov_en hS rfl) c71 (s_move (v := .d (.sl 2 (r32.2.1.map encApiSpan))) (lt_of rfl) (ov_ev hS rfl) rfl)),
      fun S hS => g_fin rfl (g_take rfl rfl (lt_of rfl) (ov_en hS rfl) c71 (s_move (v := .d (.lit (.int .i64 x48.Job))) (lt_of rfl) (ov_ev hS rfl) rfl)),
      fun S hS => g_fin rfl (g_take rfl rfl (lt_of rfl) (ov_en hS rfl) c71 (s_index_sl (lt_of rfl) (ov_ev hS rfl) (ov_ev hS rfl) sl_37.of (idx_map encApiSpan h75))),
      fun S hS => g_fin rfl (g_take rfl rfl (lt_of rfl) (ov_en hS rfl) c71 (s_field_cp (lt_of rfl) (ov_ev hS rfl) fld_34_1 (es := [.lit (.int .i64 x74.High)]) rfl)),
      fun S hS => g_fin rfl (g_take rfl rfl (lt_of rfl) (ov_en hS rfl) c71 (s_load_cp (lt_of rfl) (ov_ev hS rfl) one_3)),
      fun S hS => g_fin rfl (g_take rfl rfl (lt_of rfl) (ov_en hS rfl) c71 (s_cmp (lt_of rfl) (ov_ev hS rfl) (ov_ev hS rfl) rfl)),
      fun S hS => g_fin rfl (g_op rfl (s_pick_f (v := .d (.lit (.bool ((decide (x74.High < x72)))))) (lt_of rfl) (ov_ev hS rfl) c71 (ov_ev hS rfl) rfl)),
      fun S hS => g_fin rfl (g_op rfl (s_move (v := .d (.lit (.bool (decide (x74.High < x72))))) (lt_of rfl) (ov_ev hS rfl) rfl)),
      fun S hS => g_fin rfl (g_take rfl rfl (lt_of rfl) (ov_en hS rfl) c78 (s_move (v := .d (.lit (.bool r34.1))) (lt_of rfl) (ov_ev hS rfl) rfl)),
      fun S hS => g_fin rfl (g_take rfl rfl (lt_of rfl) (ov_en hS rfl) c78 (s_move (v := .d (.lit (.bool r34.1))) (lt_of rfl) (ov_ev hS rfl) rfl)),
      fun S hS => g_fin rfl (g_take rfl rfl (lt_of rfl) (ov_en hS rfl) c81 (s_move (v := .d (.sl 1 (r43.2.map encI))) (lt_of rfl) (ov_ev hS rfl) rfl)),
      fun S hS => g_fin rfl (g_take rfl rfl (lt_of rfl) (ov_en hS rfl) c81 (s_move (v := .d (.lit (.int .i64 x48.Job))) (lt_of rfl) (ov_ev hS rfl) rfl)),
      fun S hS => g_fin rfl (g_take rfl rfl (lt_of rfl) (ov_en hS rfl) c81 (s_index_sl (lt_of rfl) (ov_ev hS rfl) (ov_ev hS rfl) sl_27.of (idx_map encI h83))),
      fun S hS => g_fin rfl (g_take rfl rfl (lt_of rfl) (ov_en hS rfl) c81 (s_load_cp (lt_of rfl) (ov_ev hS rfl) one_3)),
      fun S hS => g_fin rfl (g_take rfl rfl (lt_of rfl) (ov_en hS rfl) c81 (s_field_bp (lt_of rfl) (ov_ev hS rfl) fld_25_0)),
      fun S hS => g_fin rfl (g_take rfl rfl (lt_of rfl) (ov_en hS rfl) c81 (s_load_bp (lt_of rfl) (ov_ev hS rfl) (i := 0) rfl rfl one_22)),
      fun S hS => g_fin rfl (g_take rfl rfl (lt_of rfl) (ov_en hS rfl) c81 (s_field_bp (lt_of rfl) (ov_ev hS rfl) fld_45_1)),
      fun S hS => g_fin rfl (g_take rfl rfl (lt_of rfl) (ov_en hS rfl) c81 (s_load_bp (lt_of rfl) (ov_ev hS rfl) (i := 1) rfl rfl one_3)),
      fun S hS => g_fin rfl (g_take rfl rfl (lt_of rfl) (ov_en hS rfl) c81 (s_index_sl (lt_of rfl) (ov_ev hS rfl) (ov_ev hS rfl) sl_22.of (idx_map encSl_ApiSpan h85))),
      fun S hS => g_fin rfl (g_take rfl rfl (lt_of rfl) (ov_en hS rfl) c81 (s_load_cp (lt_of rfl) (ov_ev hS rfl) one_37)),
      fun S hS => g_fin rfl (g_take rfl rfl (lt_of rfl) (ov_en hS rfl) c81 (s_field_bp (lt_of rfl) (ov_ev hS rfl) fld_45_2)),
      fun S hS => g_fin rfl (g_take rfl rfl (lt_of rfl) (ov_en hS rfl) c81 (s_load_bp (lt_of rfl) (ov_ev hS rfl) (i := 1) rfl rfl one_3)),
      fun S hS => g_fin rfl (g_take rfl rfl (lt_of rfl) (ov_en hS rfl) c81 (s_index_sl (lt_of rfl) (ov_ev hS rfl) (ov_ev hS rfl) sl_37.of (idx_map encApiSpan h87))),
      fun S hS => g_fin rfl (g_take rfl rfl (lt_of rfl) (ov_en hS rfl) c81 (s_field_cp (lt_of rfl) (ov_ev hS rfl) fld_34_1 (es := [.lit (.int .i64 x86.High)]) rfl)),
      fun S hS => g_fin rfl (g_take rfl rfl (lt_of rfl) (ov_en hS rfl) c81 (s_load_cp (lt_of rfl) (ov_ev hS rfl) one_3)),
      fun S hS => g_fin rfl (g_take rfl rfl (lt_of rfl) (ov_en hS rfl) c81 (s_cmp (lt_of rfl) (ov_ev hS rfl) (ov_ev hS rfl) rfl)),
      fun S hS => g_fin rfl (g_take rfl rfl (lt_of rfl) (ov_en hS rfl) c78 (s_pick_t (v := .d (.lit (.bool ((decide (x86.High < x82)))))) (lt_of rfl) (ov_ev hS rfl) c81 (ov_ev hS rfl) rfl)),
      fun S hS => g_fin rfl (g_op rfl (s_pick_f (v := .d (.lit (.bool (decide (x86.High < x82))))) (lt_of rfl) (ov_ev hS rfl) c78 (ov_ev hS rfl) rfl)),
      fun S hS => g_fin rfl (g_op rfl (s_move (v := .d (.lit (.bool (decide (x86.High < x82))))) (lt_of rfl) (ov_ev hS rfl) rfl)),
      fun S hS => g_fin rfl (g_pass rfl rfl (lt_of rfl) rfl (lt_of rfl) (ov_en hS rfl) c90),
      fun S hS => g_fin rfl (g_pass rfl rfl (lt_of rfl) rfl (lt_of rfl) (ov_en hS rfl) c90),
      fun S hS => g_fin rfl (g_pass rfl rfl (lt_of rfl) rfl (lt_of rfl) (ov_en hS rfl) c90),
      fun S hS => g_fin rfl (g_pass rfl rfl (lt_of rfl) rfl (lt_of rfl) (ov_en hS rfl) c90),
      fun S hS => g_fin rfl (g_pass rfl rfl (lt_of rfl) rfl (lt_of rfl) (ov_en hS rfl) c90),
      fun S hS => g_fin rfl (g_pass rfl rfl (lt_of rfl) rfl (lt_of rfl) (ov_en hS rfl) c90),
      fun S hS => g_fin rfl (g_pass rfl rfl (lt_of rfl) rfl (lt_of rfl) (ov_en hS rfl) c90),
      fun S hS => g_fin rfl (g_pass rfl rfl (lt_of rfl) rfl (lt_of rfl) (ov_en hS rfl) c90),
      fun S hS => g_fin rfl (g_pass rfl rfl (lt_of rfl) rfl (lt_of rfl) (ov_en hS rfl) c90),
      fun S hS => g_fin rfl (g_pass rfl rfl (lt_of rfl) rfl (lt_of rfl) (ov_en hS rfl) c90),
      fun S hS => g_fin rfl (g_pass rfl rfl (lt_of rfl) rfl (lt_of rfl) (ov_en hS rfl) c90),
      fun S hS => g_fin rfl (g_op rfl (s_pick_t (v := .d (.lit (.bool true))) (lt_of rfl) (ov_ev hS rfl) c90 rfl rfl)), trivial⟩⟩
                                      · exact ent_le (le_upd rfl (le_keep ⟨rfl, rfl, rfl, rfl, rfl, rfl, rfl, rfl, rfl, rfl, trivial⟩))
                                    · have h89 := cond_ff c90 h89
                                      obtain ⟨x91, h92, h89⟩ := bind_some h89
                                      obtain ⟨x93, h94, h89⟩ := bind_some h89
                                      have h89 := Option.some.inj h89
                                      subst h89
                                      refine ⟨[(134, 0, .d (.sl 1 (r43.1.map encI))), (135, 1, .d (.lit (.int .i64 x48.Job))), (136, 2, .cp [.lit (.int .i64 x51)]), (137, 3, .d (.lit (.int .i64 x51))), (138, 4, .d (.sl 2 (r32.1.map encApiSpan))), (139, 5, .d (.lit (.int .i64 x48.Job))), (140, 6, .cp [.lit (.int .i64 x53.Low), .lit (.int .i64 x53.High)]), (141, 7, .cp [.lit (.int .i64 x53.Low)]), (142, 8, .d (.lit (.int .i64 x53.Low))), (143, 9, .d (.lit (.bool ((decide (x51 < x53.Low)))))), (144, 10, .d (.lit (.bool ((decide (x51 < x53.Low)))))), (145, 11, .d (.sl 1 (r43.1.map encI))), (146, 12, .d (.lit (.int .i64 x48.Job))), (147, 13, .cp [.lit (.int .i64 x58)]), (148, 14, .d (.lit (.int .i64 x58))), (149, 15, .d (.sl 2 (r32.1.map encApiSpan))), (150, 16, .d (.lit (.int .i64 x48.Job))), (151, 17, .cp [.lit (.int .i64 x60.Low), .lit (.int .i64 x60.High)]), (152, 18, .cp [.lit (.int .i64 x60.High)]), (153, 19, .d (.lit (.int .i64 x60.High))), (154, 20, .d (.lit (.bool ((decide (x60.High < x58)))))), (155, 21, .d (.lit (.bool ((decide (x60.High < x58)))))), (156, 22, .d (.lit (.bool (decide (x60.High < x58))))), (157, 23, .d (.sl 1 (r43.2.map encI))), (158, 24, .d (.lit (.int .i64 x48.Job))), (159, 25, .cp [.lit (.int .i64 x65)]), (160, 26, .d (.lit (.int .i64 x65))), (161, 27, .d (.sl 2 (r32.2.1.map encApiSpan))), (162, 28, .d (.lit (.int .i64 x48.Job))), (163, 29, .cp [.lit (.int .i64 x67.Low), .lit (.int .i64 x67.High)]), (164, 30, .cp [.lit (.int .i64 x67.Low)]), (165, 31, .d (.lit (.int .i64 x67.Low))), (166, 32, .d (.lit (.bool ((decide (x65 < x67.Low)))))), (167, 33, .d (.lit (.bool ((decide (x65 < x67.Low)))))), (168, 34, .d (.lit (.bool (decide (x65 < x67.Low))))), (169, 35, .d (.sl 1 (r43.2.map encI))), (170, 36, .d (.lit (.int .i64 x48.Job))), (171, 37, .cp [.lit (.int .i64 x72)]), (172, 38, .d (.lit (.int .i64 x72))), (173, 39, .d (.sl 2 (r32.2.1.map encApiSpan))), (174, 40, .d (.lit (.int .i64 x48.Job))), (175, 41, .cp [.lit (.int .i64 x74.Low), .lit (.int .i64 x74.High)]), (176, 42, .cp [.lit (.int .i64 x74.High)]), (177, 43, .d (.lit (.int .i64 x74.High))), (178, 44, .d (.lit (.bool ((decide (x74.High < x72)))))), (179, 45, .d (.lit (.bool ((decide (x74.High < x72)))))), (180, 46, .d (.lit (.bool (decide (x74.High < x72))))), (181, 47, .d (.lit (.bool r34.1))), (182, 48, .d (.lit (.bool r34.1))), (183, 49, .d (.sl 1 (r43.2.map encI))), (184, 50, .d (.lit (.int .i64 x48.Job))), (185, 51, .cp [.lit (.int .i64 x82)]), (186, 52, .d (.lit (.int .i64 x82))), (187, 53, .bp b1 0 0), (188, 54, .d (.sl 1 (p_0.Days.map encSl_ApiSpan))), (189, 55, .bp b50 0 1), (190, 56, .d (.lit (.int .i64 x48.Day))), (191, 57, .cp [.sl 2 (x84.map encApiSpan)]), (192, 58, .d (.sl 2 (x84.map encApiSpan))), (193, 59, .bp b50 0 2), (194, 60, .d (.lit (.int .i64 x48.Court))), (195, 61, .cp [.lit (.int .i64 x86.Low), .lit (.int .i64 x86.High)]), (196, 62, .cp [.lit (.int .i64 x86.High)]), (197, 63, .d (.lit (.int .i64 x86.High))), (198, 64, .d (.lit (.bool ((decide (x86.High < x82)))))), (199, 65, .d (.lit (.bool ((decide (x86.High < x82)))))), (200, 66, .d (.lit (.bool (decide (x86.High < x82))))), (201, 67, .d (.lit (.bool (decide (x86.High < x82))))), (202, 68, .d (.sl 1 (r43.1.map encI))), (203, 69, .d (.lit (.int .i64 x48.Job))), (204, 70, .cp [.lit (.int .i64 x91)]), (205, 71, .d (.lit (.int .i64 x91))), (206, 72, .bp b1 0 2), (207, 73, .d (.sl 6 (p_0.Jobs.map encApiJob))), (208, 74, .d (.lit (.int .i64 x48.Job))), (209, 75, .cp [.lit (.int .i64 x93.Length.Low), .lit (.int .i64 x93.Length.High), .sl 1 (x93.After.map encI), .sl 1 (x93.With.map encI), .lit (.int .i64 x93.Due), .lit (.int .i64 x93.Earliest)]), (210, 76, .cp [.lit (.int .i64 x93.Earliest)]), (211, 77, .d (.lit (.int .i64 x93.Earliest))), (212, 78, .d (.lit (.bool ((decide (x91 < x93.Earliest)))))), (213, 79, .d (.lit (.bool ((decide (x91 < x93.Earliest))))))], ?_, ?_⟩
                                      · exact ⟨by kernel_rfl, by kernel_rfl, by kernel_rfl, by kernel_rfl, by kernel_rfl, [([], []), ([], []), ([0, 1], []), ([2], []), ([], []), ([], []), ([4, 5], []), ([6], []), ([7], []), ([3, 8], []), ([9], []), ([10], []), ([10], []), ([10, 11, 12], []), ([10, 13], []), ([10], []), ([10], []), ([10, 15, 16], []), ([10, 17], []), ([10, 18], []), ([10, 14, 19], []), ([10, 20], []), ([21], []), ([22], []), ([22], []), ([22, 23, 24], []), ([22, 25], []), ([22], []), ([22], []), ([22, 27, 28], []), ([22, 29], []), ([22, 30], []), ([22, 26, 31], []), ([22, 32], []), ([33], []), ([34], []), ([34], []), ([34, 35, 36], []), ([34, 37], []), ([34], []), ([34], []), ([34, 39, 40], []), ([34, 41], []), ([34, 42], []), ([34, 38, 43], []), ([34, 44], []), ([45], []), ([46], []), ([46, 47], []), ([48], []), ([48], []), ([48, 49, 50], []), ([48, 51], []), ([48], []), ([48, 53], []), ([48], []), ([48, 55], []), ([48, 54, 56], []), ([48, 57], []), ([48], []), ([48, 59], []), ([48, 58, 60], []), ([48, 61], []), ([48, 62], []), ([48, 52, 63], []), ([46, 48, 64], []), ([46, 65], []), ([66], []), ([67], []), ([67], []), ([67, 68, 69], []), ([67, 70], []), ([67], []), ([67, 72], []), ([67], []), ([67, 73, 74], []), ([67, 75], []), ([67, 76], []), ([67, 71, 77], []), ([67, 78], [])], by kernel_rfl, ⟨fun S hS => g_fin rfl (g_op rfl (s_move (v := .d (.sl 1 (r43.1.map encI))) (lt_of rfl) (ov_ev hS rfl) rfl)),
      fun S hS => g_fin rfl (g_op rfl (s_move (v := .d (.lit (.int .i64 x48.Job))) (lt_of rfl) (ov_ev hS rfl) rfl)),
      fun S hS => g_fin rfl (g_op rfl (s_index_sl (lt_of rfl) (ov_ev hS rfl) (ov_ev hS rfl) sl_27.of (idx_map encI h52))),
      fun S hS => g_fin rfl (g_op rfl (s_load_cp (lt_of rfl) (ov_ev hS rfl) one_3)),
      fun S hS => g_fin rfl (g_op rfl (s_move (v := .d (.sl 2 (r32.1.map encApiSpan))) (lt_of rfl) (ov_ev hS rfl) rfl)),
      fun S hS => g_fin rfl (g_op rfl (s_move (v := .d (.lit (.int .i64 x48.Job))) (lt_of rfl) (ov_ev hS rfl) rfl)),
      fun S hS => g_fin rfl (g_op rfl (s_index_sl (lt_of rfl) (ov_ev hS rfl) (ov_ev hS rfl) sl_37.of (idx_map encApiSpan h54))),
      fun S hS => g_fin rfl (g_op rfl (s_field_cp (lt_of rfl) (ov_ev hS rfl) fld_34_0 (es := [.lit (.int .i64 x53.Low)]) rfl)),
      fun S hS => g_fin rfl (g_op rfl (s_load_cp (lt_of rfl) (ov_ev hS rfl) one_3)),
      fun S hS => g_fin rfl (g_op rfl (s_cmp (lt_of rfl) (ov_ev hS rfl) (ov_ev hS rfl) rfl)),
      fun S hS => g_fin rfl (g_op rfl (s_move (v := .d (.lit (.bool ((decide (x51 < x53.Low)))))) (lt_of rfl) (ov_ev hS rfl) rfl)),
      fun S hS => g_fin rfl (g_take rfl rfl (lt_of rfl) (ov_en hS rfl) c57 (s_move (v := .d (.sl 1 (r43.1.map encI))) (lt_of rfl) (ov_ev hS rfl) rfl)),
      fun S hS => g_fin rfl (g_take rfl rfl (lt_of rfl) (ov_en hS rfl) c57 (s_move (v := .d (.lit (.int .i64 x48.Job))) (lt_of rfl) (ov_ev hS rfl) rfl)),
      fun S hS => g_fin rfl (g_take rfl rfl (lt_of rfl) (ov_en hS rfl) c57 (s_index_sl (lt_of rfl) (ov_ev hS rfl) (ov_ev hS rfl) sl_27.of (idx_map encI h59))),
      fun S hS => g_fin rfl (g_take rfl rfl (lt_of rfl) (ov_en hS rfl) c57 (s_load_cp (lt_of rfl) (ov_ev hS rfl) one_3)),
      fun S hS => g_fin rfl (g_take rfl rfl (lt_of rfl) (ov_en hS rfl) c57 (s_move (v := .d (.sl 2 (r32.1.map encApiSpan))) (lt_of rfl) (ov_ev hS rfl) rfl)),
      fun S hS => g_fin rfl (g_take rfl rfl (lt_of rfl) (ov_en hS rfl) c57 (s_move (v := .d (.lit (.int .i64 x48.Job))) (lt_of rfl) (ov_ev hS rfl) rfl)),
      fun S hS => g_fin rfl (g_take rfl rfl (lt_of rfl) (ov_en hS rfl) c57 (s_index_sl (lt_of rfl) (ov_ev hS rfl) (ov_ev hS rfl) sl_37.of (idx_map encApiSpan h61))),
      fun S hS => g_fin rfl (g_take rfl rfl (lt_of rfl) (ov_en hS rfl) c57 (s_field_cp (lt_of rfl) (ov_ev hS rfl) fld_34_1 (es := [.lit (.int .i64 x60.High)]) rfl)),
      fun S hS => g_fin rfl (g_take rfl rfl (lt_of rfl) (ov_en hS rfl) c57 (s_load_cp (lt_of rfl) (ov_ev hS rfl) one_3)),
      fun S hS => g_fin rfl (g_take rfl rfl (lt_of rfl) (ov_en hS rfl) c57 (s_cmp (lt_of rfl) (ov_ev hS rfl) (ov_ev hS rfl) rfl)),
      fun S hS => g_fin rfl (g_op rfl (s_pick_f (v := .d (.lit (.bool ((decide (x60.High < x58)))))) (lt_of rfl) (ov_ev hS rfl) c57 (ov_ev hS rfl) rfl)),
      fun S hS => g_fin rfl (g_op rfl (s_move (v := .d (.lit (.bool (decide (x60.High < x58))))) (lt_of rfl) (ov_ev hS rfl) rfl)),
      fun S hS => g_fin rfl (g_take rfl rfl (lt_of rfl) (ov_en hS rfl) c64 (s_move (v := .d (.sl 1 (r43.2.map encI))) (lt_of rfl) (ov_ev hS rfl) rfl)),
      fun S hS => g_fin rfl (g_take rfl rfl (lt_of rfl) (ov_en hS rfl) c64 (s_move (v := .d (.lit (.int .i64 x48.Job))) (lt_of rfl) (ov_ev hS rfl) rfl)),
      fun S hS => g_fin rfl (g_take rfl rfl (lt_of rfl) (ov_en hS rfl) c64 (s_index_sl (lt_of rfl) (ov_ev hS rfl) (ov_ev hS rfl) sl_27.of (idx_map encI h66))),
      fun S hS => g_fin rfl (g_take rfl rfl (lt_of rfl) (ov_en hS rfl) c64 (s_load_cp (lt_of rfl) (ov_ev hS rfl) one_3)),
      fun S hS => g_fin rfl (g_take rfl rfl (lt_of rfl) (ov_en hS rfl) c64 (s_move (v := .d (.sl 2 (r32.2.1.map encApiSpan))) (lt_of rfl) (ov_ev hS rfl) rfl)),
      fun S hS => g_fin rfl (g_take rfl rfl (lt_of rfl) (ov_en hS rfl) c64 (s_move (v := .d (.lit (.int .i64 x48.Job))) (lt_of rfl) (ov_ev hS rfl) rfl)),
      fun S hS => g_fin rfl (g_take rfl rfl (lt_of rfl) (ov_en hS rfl) c64 (s_index_sl (lt_of rfl) (ov_ev hS rfl) (ov_ev hS rfl) sl_37.of (idx_map encApiSpan h68))),
      fun S hS => g_fin rfl (g_take rfl rfl (lt_of rfl) (ov_en hS rfl) c64 (s_field_cp (lt_of rfl) (ov_ev hS rfl) fld_34_0 (es := [.lit (.int .i64 x67.Low)]) rfl)),
      fun S hS => g_fin rfl (g_take rfl rfl (lt_of rfl) (ov_en hS rfl) c64 (s_load_cp (lt_of rfl) (ov_ev hS rfl) one_3)),
      fun S hS => g_fin rfl (g_take rfl rfl (lt_of rfl) (ov_en hS rfl) c64 (s_cmp (lt_of rfl) (ov_ev hS rfl) (ov_ev hS rfl) rfl)),
      fun S hS => g_fin rfl (g_op rfl (s_pick_f (v := .d (.lit (.bool ((decide (x65 < x67.Low)))))) (lt_of rfl) (ov_ev hS rfl) c64 (ov_ev hS rfl) rfl)),
      fun S hS => g_fin rfl (g_op rfl (s_move (v := .d (.lit (.bool (decide (x65 < x67.Low))))) (lt_of rfl) (ov_ev hS rfl) rfl)),
      fun S hS => g_fin rfl (g_take rfl rfl (lt_of rfl) (ov_en hS rfl) c71 (s_move (v := .d (.sl 1 (r43.2.map encI))) (lt_of rfl) (ov_ev hS rfl) rfl)),
      fun S hS => g_fin rfl (g_take rfl rfl (lt_of rfl) (ov_en hS rfl) c71 (s_move (v := .d (.lit (.int .i64 x48.Job))) (lt_of rfl) (ov_ev hS rfl) rfl)),
      fun S hS => g_fin rfl (g_take rfl rfl (lt_of rfl) (ov_en hS rfl) c71 (s_index_sl (lt_of rfl) (ov_ev hS rfl) (ov_ev hS rfl) sl_27.of (idx_map encI h73))),
      fun S hS => g_fin rfl (g_take rfl rfl (lt_of rfl) (ov_en hS rfl) c71 (s_load_cp (lt_of rfl) (ov_ev hS rfl) one_3)),
      fun S hS => g_fin rfl (g_take rfl rfl (lt_of rfl) (ov_en hS rfl) c71 (s_move (v := .d (.sl 2 (r32.2.1.map encApiSpan))) (lt_of rfl) (ov_ev hS rfl) rfl)),
      fun S hS => g_fin rfl (g_take rfl rfl (lt_of rfl) (ov_en hS rfl) c71 (s_move (v := .d (.lit (.int .i64 x48.Job))) (lt_of rfl) (ov_ev hS rfl) rfl)),
      fun S hS => g_fin rfl (g_take rfl rfl (lt_of rfl) (ov_en hS rfl) c71 (s_index_sl (lt_of rfl) (ov_ev hS rfl) (ov_ev hS rfl) sl_37.of (idx_map encApiSpan h75))),
      fun S hS => g_fin rfl (g_take rfl rfl (lt_of rfl) (ov_en hS rfl) c71 (s_field_cp (lt_of rfl) (ov_ev hS rfl) fld_34_1 (es := [.lit (.int .i64 x74.High)]) rfl)),
      fun S hS => g_fin rfl (g_take rfl rfl (lt_of rfl) (ov_en hS rfl) c71 (s_load_cp (lt_of rfl) (ov_ev hS rfl) one_3)),
      fun S hS => g_fin rfl (g_take rfl rfl (lt_of rfl) (ov_en hS rfl) c71 (s_cmp (lt_of rfl) (ov_ev hS rfl) (ov_ev hS rfl) rfl)),
      fun S hS => g_fin rfl (g_op rfl (s_pick_f (v := .d (.lit (.bool ((decide (x74.High < x72)))))) (lt_of rfl) (ov_ev hS rfl) c71 (ov_ev hS rfl) rfl)),
      fun S hS => g_fin rfl (g_op rfl (s_move (v := .d (.lit (.bool (decide (x74.High < x72))))) (lt_of rfl) (ov_ev hS rfl) rfl)),
      fun S hS => g_fin rfl (g_take rfl rfl (lt_of rfl) (ov_en hS rfl) c78 (s_move (v := .d (.lit (.bool r34.1))) (lt_of rfl) (ov_ev hS rfl) rfl)),
      fun S hS => g_fin rfl (g_take rfl rfl (lt_of rfl) (ov_en hS rfl) c78 (s_move (v := .d (.lit (.bool r34.1))) (lt_of rfl) (ov_ev hS rfl) rfl)),
      fun S hS => g_fin rfl (g_take rfl rfl (lt_of rfl) (ov_en hS rfl) c81 (s_move (v := .d (.sl 1 (r43.2.map encI))) (lt_of rfl) (ov_ev hS rfl) rfl)),
      fun S hS => g_fin rfl (g_take rfl rfl (lt_of rfl) (ov_en hS rfl) c81 (s_move (v := .d (.lit (.int .i64 x48.Job))) (lt_of rfl) (ov_ev hS rfl) rfl)),
      fun S hS => g_fin rfl (g_take rfl rfl (lt_of rfl) (ov_en hS rfl) c81 (s_index_sl (lt_of rfl) (ov_ev hS rfl) (ov_ev hS rfl) sl_27.of (idx_map encI h83))),
      fun S hS => g_fin rfl (g_take rfl rfl (lt_of rfl) (ov_en hS rfl) c81 (s_load_cp (lt_of rfl) (ov_ev hS rfl) one_3)),
      fun S hS => g_fin rfl (g_take rfl rfl (lt_of rfl) (ov_en hS rfl) c81 (s_field_bp (lt_of rfl) (ov_ev hS rfl) fld_25_0)),
      fun S hS => g_fin rfl (g_take rfl rfl (lt_of rfl) (ov_en hS rfl) c81 (s_load_bp (lt_of rfl) (ov_ev hS rfl) (i := 0) rfl rfl one_22)),
      fun S hS => g_fin rfl (g_take rfl rfl (lt_of rfl) (ov_en hS rfl) c81 (s_field_bp (lt_of rfl) (ov_ev hS rfl) fld_45_1)),
      fun S hS => g_fin rfl (g_take rfl rfl (lt_of rfl) (ov_en hS rfl) c81 (s_load_bp (lt_of rfl) (ov_ev hS rfl) (i := 1) rfl rfl one_3)),
      fun S hS => g_fin rfl (g_take rfl rfl (lt_of rfl) (ov_en hS rfl) c81 (s_index_sl (lt_of rfl) (ov_ev hS rfl) (ov_ev hS rfl) sl_22.of (idx_map encSl_ApiSpan h85))),
      fun S hS => g_fin rfl (g_take rfl rfl (lt_of rfl) (ov_en hS rfl) c81 (s_load_cp (lt_of rfl) (ov_ev hS rfl) one_37)),
      fun S hS => g_fin rfl (g_take rfl rfl (lt_of rfl) (ov_en hS rfl) c81 (s_field_bp (lt_of rfl) (ov_ev hS rfl) fld_45_2)),
      fun S hS => g_fin rfl (g_take rfl rfl (lt_of rfl) (ov_en hS rfl) c81 (s_load_bp (lt_of rfl) (ov_ev hS rfl) (i := 1) rfl rfl one_3)),
      fun S hS => g_fin rfl (g_take rfl rfl (lt_of rfl) (ov_en hS rfl) c81 (s_index_sl (lt_of rfl) (ov_ev hS rfl) (ov_ev hS rfl) sl_37.of (idx_map encApiSpan h87))),
      fun S hS => g_fin rfl (g_take rfl rfl (lt_of rfl) (ov_en hS rfl) c81 (s_field_cp (lt_of rfl) (ov_ev hS rfl) fld_34_1 (es := [.lit (.int .i64 x86.High)]) rfl)),
      fun S hS => g_fin rfl (g_take rfl rfl (lt_of rfl) (ov_en hS rfl) c81 (s_load_cp (lt_of rfl) (ov_ev hS rfl) one_3)),
      fun S hS => g_fin rfl (g_take rfl rfl (lt_of rfl) (ov_en hS rfl) c81 (s_cmp (lt_of rfl) (ov_ev hS rfl) (ov_ev hS rfl) rfl)),
      fun S hS => g_fin rfl (g_take rfl rfl (lt_of rfl) (ov_en hS rfl) c78 (s_pick_t (v := .d (.lit (.bool ((decide (x86.High < x82)))))) (lt_of rfl) (ov_ev hS rfl) c81 (ov_ev hS rfl) rfl)),
      fun S hS => g_fin rfl (g_op rfl (s_pick_f (v := .d (.lit (.bool (decide (x86.High < x82))))) (lt_of rfl) (ov_ev hS rfl) c78 (ov_ev hS rfl) rfl)),
      fun S hS => g_fin rfl (g_op rfl (s_move (v := .d (.lit (.bool (decide (x86.High < x82))))) (lt_of rfl) (ov_ev hS rfl) rfl)),
      fun S hS => g_fin rfl (g_take rfl rfl (lt_of rfl) (ov_en hS rfl) c90 (s_move (v := .d (.sl 1 (r43.1.map encI))) (lt_of rfl) (ov_ev hS rfl) rfl)),
      fun S hS => g_fin rfl (g_take rfl rfl (lt_of rfl) (ov_en hS rfl) c90 (s_move (v := .d (.lit (.int .i64 x48.Job))) (lt_of rfl) (ov_ev hS rfl) rfl)),
      fun S hS => g_fin rfl (g_take rfl rfl (lt_of rfl) (ov_en hS rfl) c90 (s_index_sl (lt_of rfl) (ov_ev hS rfl) (ov_ev hS rfl) sl_27.of (idx_map encI h92))),
      fun S hS => g_fin rfl (g_take rfl rfl (lt_of rfl) (ov_en hS rfl) c90 (s_load_cp (lt_of rfl) (ov_ev hS rfl) one_3)),
      fun S hS => g_fin rfl (g_take rfl rfl (lt_of rfl) (ov_en hS rfl) c90 (s_field_bp (lt_of rfl) (ov_ev hS rfl) fld_25_2)),
      fun S hS => g_fin rfl (g_take rfl rfl (lt_of rfl) (ov_en hS rfl) c90 (s_load_bp (lt_of rfl) (ov_ev hS rfl) (i := 0) rfl rfl one_23)),
      fun S hS => g_fin rfl (g_take rfl rfl (lt_of rfl) (ov_en hS rfl) c90 (s_move (v := .d (.lit (.int .i64 x48.Job))) (lt_of rfl) (ov_ev hS rfl) rfl)),
      fun S hS => g_fin rfl (g_take rfl rfl (lt_of rfl) (ov_en hS rfl) c90 (s_index_sl (lt_of rfl) (ov_ev hS rfl) (ov_ev hS rfl) sl_23.of (idx_map encApiJob h94))),
      fun S hS => g_fin rfl (g_take rfl rfl (lt_of rfl) (ov_en hS rfl) c90 (s_field_cp (lt_of rfl) (ov_ev hS rfl) fld_36_4 (es := [.lit (.int .i64 x93.Earliest)]) rfl)),
      fun S hS => g_fin rfl (g_take rfl rfl (lt_of rfl) (ov_en hS rfl) c90 (s_load_cp (lt_of rfl) (ov_ev hS rfl) one_3)),
      fun S hS => g_fin rfl (g_take rfl rfl (lt_of rfl) (ov_en hS rfl) c90 (s_cmp (lt_of rfl) (ov_ev hS rfl) (ov_ev hS rfl) rfl)),
      fun S hS => g_fin rfl (g_op rfl (s_pick_f (v := .d (.lit (.bool ((decide (x91 < x93.Earliest)))))) (lt_of rfl) (ov_ev hS rfl) c90 (ov_ev hS rfl) rfl)), trivial⟩⟩
                                      · exact ent_le (le_upd rfl (le_keep ⟨rfl, rfl, rfl, rfl, rfl, rfl, rfl, rfl, rfl, rfl, trivial⟩))
                                  · have h80 := cond_ff c81 h80
                                    have h80 := Option.some.inj h80
                                    subst h80
                                    have h77 := Option.some.inj h77
                                    subst h77
                                    have c90 : false = false := rfl
                                    have h89 := cond_ff c90 h89
                                    obtain ⟨x91, h92, h89⟩ := bind_some h89
                                    obtain ⟨x93, h94, h89⟩ := bind_some h89
                                    have h89 := Option.some.inj h89
                                    subst h89
                                    refine ⟨[(134, 0, .d (.sl 1 (r43.1.map encI))), (135, 1, .d (.lit (.int .i64 x48.Job))), (136, 2, .cp [.lit (.int .i64 x51)]), (137, 3, .d (.lit (.int .i64 x51))), (138, 4, .d (.sl 2 (r32.1.map encApiSpan))), (139, 5, .d (.lit (.int .i64 x48.Job))), (140, 6, .cp [.lit (.int .i64 x53.Low), .lit (.int .i64 x53.High)]), (141, 7, .cp [.lit (.int .i64 x53.Low)]), (142, 8, .d (.lit (.int .i64 x53.Low))), (143, 9, .d (.lit (.bool ((decide (x51 < x53.Low)))))), (144, 10, .d (.lit (.bool ((decide (x51 < x53.Low)))))), (145, 11, .d (.sl 1 (r43.1.map encI))), (146, 12, .d (.lit (.int .i64 x48.Job))), (147, 13, .cp [.lit (.int .i64 x58)]), (148, 14, .d (.lit (.int .i64 x58))), (149, 15, .d (.sl 2 (r32.1.map encApiSpan))), (150, 16, .d (.lit (.int .i64 x48.Job))), (151, 17, .cp [.lit (.int .i64 x60.Low), .lit (.int .i64 x60.High)]), (152, 18, .cp [.lit (.int .i64 x60.High)]), (153, 19, .d (.lit (.int .i64 x60.High))), (154, 20, .d (.lit (.bool ((decide (x60.High < x58)))))), (155, 21, .d (.lit (.bool ((decide (x60.High < x58)))))), (156, 22, .d (.lit (.bool (decide (x60.High < x58))))), (157, 23, .d (.sl 1 (r43.2.map encI))), (158, 24, .d (.lit (.int .i64 x48.Job))), (159, 25, .cp [.lit (.int .i64 x65)]), (160, 26, .d (.lit (.int .i64 x65))), (161, 27, .d (.sl 2 (r32.2.1.map encApiSpan))), (162, 28, .d (.lit (.int .i64 x48.Job))), (163, 29, .cp [.lit (.int .i64 x67.Low), .lit (.int .i64 x67.High)]), (164, 30, .cp [.lit (.int .i64 x67.Low)]), (165, 31, .d (.lit (.int .i64 x67.Low))), (166, 32, .d (.lit (.bool ((decide (x65 < x67.Low)))))), (167, 33, .d (.lit (.bool ((decide (x65 < x67.Low)))))), (168, 34, .d (.lit (.bool (decide (x65 < x67.Low))))), (169, 35, .d (.sl 1 (r43.2.map encI))), (170, 36, .d (.lit (.int .i64 x48.Job))), (171, 37, .cp [.lit (.int .i64 x72)]), (172, 38, .d (.lit (.int .i64 x72))), (173, 39, .d (.sl 2 (r32.2.1.map encApiSpan))), (174, 40, .d (.lit (.int .i64 x48.Job))), (175, 41, .cp [.lit (.int .i64 x74.Low), .lit (.int .i64 x74.High)]), (176, 42, .cp [.lit (.int .i64 x74.High)]), (177, 43, .d (.lit (.int .i64 x74.High))), (178, 44, .d (.lit (.bool ((decide (x74.High < x72)))))), (179, 45, .d (.lit (.bool ((decide (x74.High < x72)))))), (180, 46, .d (.lit (.bool (decide (x74.High < x72))))), (181, 47, .d (.lit (.bool r34.1))), (182, 48, .d (.lit (.bool r34.1))), (183, 49, .tup []), (184, 50, .tup []), (185, 51, .tup []), (186, 52, .tup []), (187, 53, .tup []), (188, 54, .tup []), (189, 55, .tup []), (190, 56, .tup []), (191, 57, .tup []), (192, 58, .tup []), (193, 59, .tup []), (194, 60, .tup []), (195, 61, .tup []), (196, 62, .tup []), (197, 63, .tup []), (198, 64, .tup []), (199, 65, .d (.lit (.bool false))), (200, 66, .d (.lit (.bool (false)))), (201, 67, .d (.lit (.bool (false)))), (202, 68, .d (.sl 1 (r43.1.map encI))), (203, 69, .d (.lit (.int .i64 x48.Job))), (204, 70, .cp [.lit (.int .i64 x91)]), (205, 71, .d (.lit (.int .i64 x91))), (206, 72, .bp b1 0 2), (207, 73, .d (.sl 6 (p_0.Jobs.map encApiJob))), (208, 74, .d (.lit (.int .i64 x48.Job))), (209, 75, .cp [.lit (.int .i64 x93.Length.Low), .lit (.int .i64 x93.Length.High), .sl 1 (x93.After.map encI), .sl 1 (x93.With.map encI), .lit (.int .i64 x93.Due), .lit (.int .i64 x93.Earliest)]), (210, 76, .cp [.lit (.int .i64 x93.Earliest)]), (211, 77, .d (.lit (.int .i64 x93.Earliest))), (212, 78, .d (.lit (.bool ((decide (x91 < x93.Earliest)))))), (213, 79, .d (.lit (.bool ((decide (x91 < x93.Earliest))))))], ?_, ?_⟩
                                    · exact ⟨by kernel_rfl, by kernel_rfl, by kernel_rfl, by kernel_rfl, by kernel_rfl, [([], []), ([], []), ([0, 1], []), ([2], []), ([], []), ([], []), ([4, 5], []), ([6], []), ([7], []), ([3, 8], []), ([9], []), ([10], []), ([10], []), ([10, 11, 12], []), ([10, 13], []), ([10], []), ([10], []), ([10, 15, 16], []), ([10, 17], []), ([10, 18], []), ([10, 14, 19], []), ([10, 20], []), ([21], []), ([22], []), ([22], []), ([22, 23, 24], []), ([22, 25], []), ([22], []), ([22], []), ([22, 27, 28], []), ([22, 29], []), ([22, 30], []), ([22, 26, 31], []), ([22, 32], []), ([33], []), ([34], []), ([34], []), ([34, 35, 36], []), ([34, 37], []), ([34], []), ([34], []), ([34, 39, 40], []), ([34, 41], []), ([34, 42], []), ([34, 38, 43], []), ([34, 44], []), ([45], []), ([46], []), ([46, 47], []), ([48], []), ([48], []), ([48, 49, 50], []), ([48, 51], []), ([48], []), ([48, 53], []), ([48], []), ([48, 55], []), ([48, 54, 56], []), ([48, 57], []), ([48], []), ([48, 59], []), ([48, 58, 60], []), ([48, 61], []), ([48, 62], []), ([48, 52, 63], []), ([46, 48, 64], []), ([46, 65], []), ([66], []), ([67], []), ([67], []), ([67, 68, 69], []), ([67, 70], []), ([67], []), ([67, 72], []), ([67], []), ([67, 73, 74], []), ([67, 75], []), ([67, 76], []), ([67, 71, 77], []), ([67, 78], [])], by kernel_rfl, ⟨fun S hS => g_fin rfl (g_op rfl (s_move (v := .d (.sl 1 (r43.1.map encI))) (lt_of rfl) (ov_ev hS rfl) rfl)),
      fun S hS => g_fin rfl (g_op rfl (s_move (v := .d (.lit (.int .i64 x48.Job))) (lt_of rfl) (ov_ev hS rfl) rfl)),
      fun S hS => g_fin rfl (g_op rfl (s_index_sl (lt_of rfl) (ov_ev hS rfl) (ov_ev hS rfl) sl_27.of (idx_map encI h52))),
      fun S hS => g_fin rfl (g_op rfl (s_load_cp (lt_of rfl) (ov_ev hS rfl) one_3)),
      fun S hS => g_fin rfl (g_op rfl (s_move (v := .d (.sl 2 (r32.1.map encApiSpan))) (lt_of rfl) (ov_ev hS rfl) rfl)),
      fun S hS => g_fin rfl (g_op rfl (s_move (v := .d (.lit (.int .i64 x48.Job))) (lt_of rfl) (ov_ev hS rfl) rfl)),
      fun S hS => g_fin rfl (g_op rfl (s_index_sl (lt_of rfl) (ov_ev hS rfl) (ov_ev hS rfl) sl_37.of (idx_map encApiSpan h54))),
      fun S hS => g_fin rfl (g_op rfl (s_field_cp (lt_of rfl) (ov_ev hS rfl) fld_34_0 (es := [.lit (.int .i64 x53.Low)]) rfl)),
      fun S hS => g_fin rfl (g_op rfl (s_load_cp (lt_of rfl) (ov_ev hS rfl) one_3)),
      fun S hS => g_fin rfl (g_op rfl (s_cmp (lt_of rfl) (ov_ev hS rfl) (ov_ev hS rfl) rfl)),
      fun S hS => g_fin rfl (g_op rfl (s_move (v := .d (.lit (.bool ((decide (x51 < x53.Low)))))) (lt_of rfl) (ov_ev hS rfl) rfl)),
      fun S hS => g_fin rfl (g_take rfl rfl (lt_of rfl) (ov_en hS rfl) c57 (s_move (v := .d (.sl 1 (r43.1.map encI))) (lt_of rfl) (ov_ev hS rfl) rfl)),
      fun S hS => g_fin rfl (g_take rfl rfl (lt_of rfl) (ov_en hS rfl) c57 (s_move (v := .d (.lit (.int .i64 x48.Job))) (lt_of rfl) (ov_ev hS rfl) rfl)),
      fun S hS => g_fin rfl (g_take rfl rfl (lt_of rfl) (ov_en hS rfl) c57 (s_index_sl (lt_of rfl) (ov_ev hS rfl) (ov_ev hS rfl) sl_27.of (idx_map encI h59))),
      fun S hS => g_fin rfl (g_take rfl rfl (lt_of rfl) (ov_en hS rfl) c57 (s_load_cp (lt_of rfl) (ov_ev hS rfl) one_3)),
      fun S hS => g_fin rfl (g_take rfl rfl (lt_of rfl) (ov_en hS rfl) c57 (s_move (v := .d (.sl 2 (r32.1.map encApiSpan))) (lt_of rfl) (ov_ev hS rfl) rfl)),
      fun S hS => g_fin rfl (g_take rfl rfl (lt_of rfl) (ov_en hS rfl) c57 (s_move (v := .d (.lit (.int .i64 x48.Job))) (lt_of rfl) (ov_ev hS rfl) rfl)),
      fun S hS => g_fin rfl (g_take rfl rfl (lt_of rfl) (ov_en hS rfl) c57 (s_index_sl (lt_of rfl) (ov_ev hS rfl) (ov_ev hS rfl) sl_37.of (idx_map encApiSpan h61))),
      fun S hS => g_fin rfl (g_take rfl rfl (lt_of rfl) (ov_en hS rfl) c57 (s_field_cp (lt_of rfl) (ov_ev hS rfl) fld_34_1 (es := [.lit (.int .i64 x60.High)]) rfl)),
      fun S hS => g_fin rfl (g_take rfl rfl (lt_of rfl) (ov_en hS rfl) c57 (s_load_cp (lt_of rfl) (ov_ev hS rfl) one_3)),
      fun S hS => g_fin rfl (g_take rfl rfl (lt_of rfl) (ov_en hS rfl) c57 (s_cmp (lt_of rfl) (ov_ev hS rfl) (ov_ev hS rfl) rfl)),
      fun S hS => g_fin rfl (g_op rfl (s_pick_f (v := .d (.lit (.bool ((decide (x60.High < x58)))))) (lt_of rfl) (ov_ev hS rfl) c57 (ov_ev hS rfl) rfl)),
      fun S hS => g_fin rfl (g_op rfl (s_move (v := .d (.lit (.bool (decide (x60.High < x58))))) (lt_of rfl) (ov_ev hS rfl) rfl)),
      fun S hS => g_fin rfl (g_take rfl rfl (lt_of rfl) (ov_en hS rfl) c64 (s_move (v := .d (.sl 1 (r43.2.map encI))) (lt_of rfl) (ov_ev hS rfl) rfl)),
      fun S hS => g_fin rfl (g_take rfl rfl (lt_of rfl) (ov_en hS rfl) c64 (s_move (v := .d (.lit (.int .i64 x48.Job))) (lt_of rfl) (ov_ev hS rfl) rfl)),
      fun S hS => g_fin rfl (g_take rfl rfl (lt_of rfl) (ov_en hS rfl) c64 (s_index_sl (lt_of rfl) (ov_ev hS rfl) (ov_ev hS rfl) sl_27.of (idx_map encI h66))),
      fun S hS => g_fin rfl (g_take rfl rfl (lt_of rfl) (ov_en hS rfl) c64 (s_load_cp (lt_of rfl) (ov_ev hS rfl) one_3)),
      fun S hS => g_fin rfl (g_take rfl rfl (lt_of rfl) (ov_en hS rfl) c64 (s_move (v := .d (.sl 2 (r32.2.1.map encApiSpan))) (lt_of rfl) (ov_ev hS rfl) rfl)),
      fun S hS => g_fin rfl (g_take rfl rfl (lt_of rfl) (ov_en hS rfl) c64 (s_move (v := .d (.lit (.int .i64 x48.Job))) (lt_of rfl) (ov_ev hS rfl) rfl)),
      fun S hS => g_fin rfl (g_take rfl rfl (lt_of rfl) (ov_en hS rfl) c64 (s_index_sl (lt_of rfl) (ov_ev hS rfl) (ov_ev hS rfl) sl_37.of (idx_map encApiSpan h68))),
      fun S hS => g_fin rfl (g_take rfl rfl (lt_of rfl) (ov_en hS rfl) c64 (s_field_cp (lt_of rfl) (ov_ev hS rfl) fld_34_0 (es := [.lit (.int .i64 x67.Low)]) rfl)),
      fun S hS => g_fin rfl (g_take rfl rfl (lt_of rfl) (ov_en hS rfl) c64 (s_load_cp (lt_of rfl) (ov_ev hS rfl) one_3)),
      fun S hS => g_fin rfl (g_take rfl rfl (lt_of rfl) (ov_en hS rfl) c64 (s_cmp (lt_of rfl) (ov_ev hS rfl) (ov_ev hS rfl) rfl)),
      fun S hS => g_fin rfl (g_op rfl (s_pick_f (v := .d (.lit (.bool ((decide (x65 < x67.Low)))))) (lt_of rfl) (ov_ev hS rfl) c64 (ov_ev hS rfl) rfl)),
      fun S hS => g_fin rfl (g_op rfl (s_move (v := .d (.lit (.bool (decide (x65 < x67.Low))))) (lt_of rfl) (ov_ev hS rfl) rfl)),
      fun S hS => g_fin rfl (g_take rfl rfl (lt_of rfl) (ov_en hS rfl) c71 (s_move (v := .d (.sl 1 (r43.2.map encI))) (lt_of rfl) (ov_ev hS rfl) rfl)),
      fun S hS => g_fin rfl (g_take rfl rfl (lt_of rfl) (ov_en hS rfl) c71 (s_move (v := .d (.lit (.int .i64 x48.Job))) (lt_of rfl) (ov_ev hS rfl) rfl)),
      fun S hS => g_fin rfl (g_take rfl rfl (lt_of rfl) (ov_en hS rfl) c71 (s_index_sl (lt_of rfl) (ov_ev hS rfl) (ov_ev hS rfl) sl_27.of (idx_map encI h73))),
      fun S hS => g_fin rfl (g_take rfl rfl (lt_of rfl) (ov_en hS rfl) c71 (s_load_cp (lt_of rfl) (ov_ev hS rfl) one_3)),
      fun S hS => g_fin rfl (g_take rfl rfl (lt_of rfl) (ov_en hS rfl) c71 (s_move (v := .d (.sl 2 (r32.2.1.map encApiSpan))) (lt_of rfl) (ov_ev hS rfl) rfl)),
      fun S hS => g_fin rfl (g_take rfl rfl (lt_of rfl) (ov_en hS rfl) c71 (s_move (v := .d (.lit (.int .i64 x48.Job))) (lt_of rfl) (ov_ev hS rfl) rfl)),
      fun S hS => g_fin rfl (g_take rfl rfl (lt_of rfl) (ov_en hS rfl) c71 (s_index_sl (lt_of rfl) (ov_ev hS rfl) (ov_ev hS rfl) sl_37.of (idx_map encApiSpan h75))),
      fun S hS => g_fin rfl (g_take rfl rfl (lt_of rfl) (ov_en hS rfl) c71 (s_field_cp (lt_of rfl) (ov_ev hS rfl) fld_34_1 (es := [.lit (.int .i64 x74.High)]) rfl)),
      fun S hS => g_fin rfl (g_take rfl rfl (lt_of rfl) (ov_en hS rfl) c71 (s_load_cp (lt_of rfl) (ov_ev hS rfl) one_3)),
      fun S hS => g_fin rfl (g_take rfl rfl (lt_of rfl) (ov_en hS rfl) c71 (s_cmp (lt_of rfl) (ov_ev hS rfl) (ov_ev hS rfl) rfl)),
      fun S hS => g_fin rfl (g_op rfl (s_pick_f (v := .d (.lit (.bool ((decide (x74.High < x72)))))) (lt_of rfl) (ov_ev hS rfl) c71 (ov_ev hS rfl) rfl)),
      fun S hS => g_fin rfl (g_op rfl (s_move (v := .d (.lit (.bool (decide (x74.High < x72))))) (lt_of rfl) (ov_ev hS rfl) rfl)),
      fun S hS => g_fin rfl (g_take rfl rfl (lt_of rfl) (ov_en hS rfl) c78 (s_move (v := .d (.lit (.bool r34.1))) (lt_of rfl) (ov_ev hS rfl) rfl)),
      fun S hS => g_fin rfl (g_take rfl rfl (lt_of rfl) (ov_en hS rfl) c78 (s_move (v := .d (.lit (.bool r34.1))) (lt_of rfl) (ov_ev hS rfl) rfl)),
      fun S hS => g_fin rfl (g_pass rfl rfl (lt_of rfl) rfl (lt_of rfl) (ov_en hS rfl) c81),
      fun S hS => g_fin rfl (g_pass rfl rfl (lt_of rfl) rfl (lt_of rfl) (ov_en hS rfl) c81),
      fun S hS => g_fin rfl (g_pass rfl rfl (lt_of rfl) rfl (lt_of rfl) (ov_en hS rfl) c81),
      fun S hS => g_fin rfl (g_pass rfl rfl (lt_of rfl) rfl (lt_of rfl) (ov_en hS rfl) c81),
      fun S hS => g_fin rfl (g_pass rfl rfl (lt_of rfl) rfl (lt_of rfl) (ov_en hS rfl) c81),
      fun S hS => g_fin rfl (g_pass rfl rfl (lt_of rfl) rfl (lt_of rfl) (ov_en hS rfl) c81),
      fun S hS => g_fin rfl (g_pass rfl rfl (lt_of rfl) rfl (lt_of rfl) (ov_en hS rfl) c81),
      fun S hS => g_fin rfl (g_pass rfl rfl (lt_of rfl) rfl (lt_of rfl) (ov_en hS rfl) c81),
      fun S hS => g_fin rfl (g_pass rfl rfl (lt_of rfl) rfl (lt_of rfl) (ov_en hS rfl) c81),
      fun S hS => g_fin rfl (g_pass rfl rfl (lt_of rfl) rfl (lt_of rfl) (ov_en hS rfl) c81),
      fun S hS => g_fin rfl (g_pass rfl rfl (lt_of rfl) rfl (lt_of rfl) (ov_en hS rfl) c81),
      fun S hS => g_fin rfl (g_pass rfl rfl (lt_of rfl) rfl (lt_of rfl) (ov_en hS rfl) c81),
      fun S hS => g_fin rfl (g_pass rfl rfl (lt_of rfl) rfl (lt_of rfl) (ov_en hS rfl) c81),
      fun S hS => g_fin rfl (g_pass rfl rfl (lt_of rfl) rfl (lt_of rfl) (ov_en hS rfl) c81),
      fun S hS => g_fin rfl (g_pass rfl rfl (lt_of rfl) rfl (lt_of rfl) (ov_en hS rfl) c81),
      fun S hS => g_fin rfl (g_pass rfl rfl (lt_of rfl) rfl (lt_of rfl) (ov_en hS rfl) c81),
      fun S hS => g_fin rfl (g_take rfl rfl (lt_of rfl) (ov_en hS rfl) c78 (s_pick_f (v := .d (.lit (.bool false))) (lt_of rfl) (ov_ev hS rfl) c81 rfl rfl)),
      fun S hS => g_fin rfl (g_op rfl (s_pick_f (v := .d (.lit (.bool (false)))) (lt_of rfl) (ov_ev hS rfl) c78 (ov_ev hS rfl) rfl)),
      fun S hS => g_fin rfl (g_op rfl (s_move (v := .d (.lit (.bool (false)))) (lt_of rfl) (ov_ev hS rfl) rfl)),
      fun S hS => g_fin rfl (g_take rfl rfl (lt_of rfl) (ov_en hS rfl) c90 (s_move (v := .d (.sl 1 (r43.1.map encI))) (lt_of rfl) (ov_ev hS rfl) rfl)),
      fun S hS => g_fin rfl (g_take rfl rfl (lt_of rfl) (ov_en hS rfl) c90 (s_move (v := .d (.lit (.int .i64 x48.Job))) (lt_of rfl) (ov_ev hS rfl) rfl)),
      fun S hS => g_fin rfl (g_take rfl rfl (lt_of rfl) (ov_en hS rfl) c90 (s_index_sl (lt_of rfl) (ov_ev hS rfl) (ov_ev hS rfl) sl_27.of (idx_map encI h92))),
      fun S hS => g_fin rfl (g_take rfl rfl (lt_of rfl) (ov_en hS rfl) c90 (s_load_cp (lt_of rfl) (ov_ev hS rfl) one_3)),
      fun S hS => g_fin rfl (g_take rfl rfl (lt_of rfl) (ov_en hS rfl) c90 (s_field_bp (lt_of rfl) (ov_ev hS rfl) fld_25_2)),
      fun S hS => g_fin rfl (g_take rfl rfl (lt_of rfl) (ov_en hS rfl) c90 (s_load_bp (lt_of rfl) (ov_ev hS rfl) (i := 0) rfl rfl one_23)),
      fun S hS => g_fin rfl (g_take rfl rfl (lt_of rfl) (ov_en hS rfl) c90 (s_move (v := .d (.lit (.int .i64 x48.Job))) (lt_of rfl) (ov_ev hS rfl) rfl)),
      fun S hS => g_fin rfl (g_take rfl rfl (lt_of rfl) (ov_en hS rfl) c90 (s_index_sl (lt_of rfl) (ov_ev hS rfl) (ov_ev hS rfl) sl_23.of (idx_map encApiJob h94))),
      fun S hS => g_fin rfl (g_take rfl rfl (lt_of rfl) (ov_en hS rfl) c90 (s_field_cp (lt_of rfl) (ov_ev hS rfl) fld_36_4 (es := [.lit (.int .i64 x93.Earliest)]) rfl)),
      fun S hS => g_fin rfl (g_take rfl rfl (lt_of rfl) (ov_en hS rfl) c90 (s_load_cp (lt_of rfl) (ov_ev hS rfl) one_3)),
      fun S hS => g_fin rfl (g_take rfl rfl (lt_of rfl) (ov_en hS rfl) c90 (s_cmp (lt_of rfl) (ov_ev hS rfl) (ov_ev hS rfl) rfl)),
      fun S hS => g_fin rfl (g_op rfl (s_pick_f (v := .d (.lit (.bool ((decide (x91 < x93.Earliest)))))) (lt_of rfl) (ov_ev hS rfl) c90 (ov_ev hS rfl) rfl)), trivial⟩⟩
                                    · exact ent_le (le_upd rfl (le_keep ⟨rfl, rfl, rfl, rfl, rfl, rfl, rfl, rfl, rfl, rfl, trivial⟩))
                        · refine tr_nil ?_
                          refine tr_if rfl (fun c95 => ?_) (fun c95 => ?_)
                          · have h := cond_tt c95 h
                            refine tr_seq ?_
                            refine tr_region ?_
                            refine tr1 rfl (s_assign (v := .d (.lit (.bool false))) (lt_of rfl) rfl rfl) ?_
                            refine tr_nil ?_
                            have h := Option.some.inj h
                            subst h
                            refine tr_ent (ent_free (ble_keep (l := [6]) ⟨rfl, trivial⟩)) ?_
                            exact tr_ret ⟨rfl, _, .one _, rfl, rfl⟩
                          · have h := cond_ff c95 h
                            refine tr_skip ?_
                            refine tr_seq ?_
                            refine tr_region ?_
                            refine tr1 rfl (s_assign (v := .d (.lit (.int .i64 0))) (lt_of rfl) rfl rfl) ?_
                            refine tr_nil ?_
                            refine tr_blkb ?_
                            refine tr_loopk [1, 3, 8, 9, 11, 14, 15, 16, 17, 18] (fun (s96 : Int) => [(19, .d (.lit (.int .i64 s96)))]) (fun (s96 : Int) => [.box b1 0 (encApiProgram p_0), .box b50 0 (encApiSeat x48)]) (fun (k : Nat) (s96 : Int) => deucelaw08_PlayReal_L4 (deucelaw08_PlayReal_L2 order_1 r32.1 r32.2.1 r34.1 r43.1 r43.2 p_0 k46) order_1 r32.1 r32.2.1 r34.1 r43.1 r43.2 i_2_45 x48.Job p_0 x48 k s96) (fun _ => rfl) (0) h (ent_pick [0, 1] rfl rfl (le_upd rfl (le_keep ⟨rfl, rfl, rfl, rfl, rfl, rfl, rfl, rfl, rfl, rfl, trivial⟩))) ?_
                            rintro k97 k_4_96 h
                            simp only [deucelaw08_PlayReal_L4] at h
                            refine tr_seq ?_
                            refine tr_seq ?_
                            refine tr_region ?_
                            refine tr1 rfl (s_move (v := .d (.lit (.int .i64 k_4_96))) (lt_of rfl) rfl rfl) ?_
                            refine tr1 rfl (s_move (v := .d (.lit (.int .i64 i_2_45))) (lt_of rfl) rfl rfl) ?_
                            refine tr1 rfl (s_cmp (lt_of rfl) rfl rfl rfl) ?_
                            refine tr_nil ?_
                            refine tr_if rfl (fun c98 => ?_) (fun c98 => ?_)
                            · have h := cond_tt c98 h
                              refine tr_skip ?_
                              refine tr_seq ?_
                              refine tr_blk ?_
                              refine tr_seq ?_
                              refine tr_region ?_
                              refine tr1 rfl (s_move (v := .d (.sl 3 (order_1.map encApiSeat))) (lt_of rfl) rfl rfl) ?_
                              refine tr1 rfl (s_move (v := .d (.lit (.int .i64 k_4_96))) (lt_of rfl) rfl rfl) ?_
                              obtain ⟨x99, h100, h⟩ := bind_some h
                              refine tr1 rfl (s_index_sl (lt_of rfl) rfl rfl sl_26.of (idx_map encApiSeat h100)) ?_
                              refine tr1 rfl (s_loada_cp (lt_of rfl) rfl agg_45 (es := (encApiSeat x99)) rfl rfl) ?_
                              refine tr_op rfl (s_alloc (zs := [.lit (.int .i64 0), .lit (.int .i64 0), .lit (.int .i64 0)]) (lt_of rfl) Try.zeroValue45 rfl rfl) ?_
                              rintro _ ⟨b101, rfl⟩
                              refine tr1 rfl (s_store_bp (i := 2) rfl rfl rfl rfl rfl Try.sizeOf45 rfl (lt_of rfl) (Nat.le_of_ble_eq_true rfl) (ds' := (encApiSeat x99)) rfl) ?_
                              refine tr_nil ?_
                              refine tr_seq ?_
                              refine tr_seq ?_
                              refine tr_region ?_
                              refine tr1 rfl (s_field_bp (lt_of rfl) rfl fld_45_1) ?_
                              refine tr1 rfl (s_load_bp (lt_of rfl) rfl (i := 2) rfl rfl one_3) ?_
                              refine tr1 rfl (s_field_bp (lt_of rfl) rfl fld_45_1) ?_
                              refine tr1 rfl (s_load_bp (lt_of rfl) rfl (i := 1) rfl rfl one_3) ?_
                              refine tr1 rfl (s_cmp (lt_of rfl) rfl rfl rfl) ?_
                              refine tr_nil ?_
                              refine tr_if rfl (fun c102 => ?_) (fun c102 => ?_)
                              · have h := cond_tt c102 h
                                refine tr_exit ?_
                                refine .inl ⟨rfl, ?_⟩
                                refine tr_region ?_
                                refine tr1 rfl (s_move (v := .d (.lit (.int .i64 k_4_96))) (lt_of rfl) rfl rfl) ?_
                                refine tr1 rfl (s_arith (lt_of rfl) rfl rfl rfl) ?_
                                refine tr1 rfl (s_assign (v := .d (.lit (.int .i64 ((w64 (k_4_96 + 1)))))) (lt_of rfl) rfl rfl) ?_
                                refine tr_nil ?_
                                exact ⟨(w64 (k_4_96 + 1)), h, ent_pick [0, 1] rfl rfl (le_upd rfl (le_keep ⟨rfl, rfl, rfl, rfl, rfl, rfl, rfl, rfl, rfl, rfl, trivial⟩))⟩
                              · have h := cond_ff c102 h
                                refine tr_skip ?_
                                refine tr_seq ?_
                                obtain ⟨r103, h104, h⟩ := bind_some h
                                obtain ⟨b105, h106, h⟩ := bind_some h
                                obtain ⟨b112, h113, h⟩ := bind_some h
                                refine tr_drawk mix 39 [1, 3, 8, 9, 11, 14, 15, 16, 17, 18, 19] [(266, .d (.lit (.bool b112)))] ?_ ?_
                                · refine bool_cases (r103) (fun c107 => ?_) (fun c107 => ?_)
                                  · have h106 := cond_tt c107 h106
                                    obtain ⟨x108, h109, h106⟩ := bind_some h106
                                    obtain ⟨x110, h111, h106⟩ := bind_some h106
                                    have h106 := Option.some.inj h106
                                    subst h106
                                    refine bool_cases (decide (x108 < (w64 (x110 + p_0.Rest)))) (fun c114 => ?_) (fun c114 => ?_)
                                    · have h113 := cond_tt c114 h113
                                      have h113 := Option.some.inj h113
                                      subst h113
                                      refine ⟨[(228, 0, .agg (encApiProgram p_0)), (229, 1, .d (.lit (.int .i64 x48.Job))), (230, 2, .bp b101 0 0), (231, 3, .d (.lit (.int .i64 x99.Job))), (232, 4, .d (.lit (.bool r103))), (233, 5, .d (.lit (.bool r103))), (234, 6, .d (.sl 1 (r43.1.map encI))), (235, 7, .d (.lit (.int .i64 x48.Job))), (236, 8, .cp [.lit (.int .i64 x108)]), (237, 9, .d (.lit (.int .i64 x108))), (238, 10, .d (.sl 1 (r43.2.map encI))), (239, 11, .bp b101 0 0), (240, 12, .d (.lit (.int .i64 x99.Job))), (241, 13, .cp [.lit (.int .i64 x110)]), (242, 14, .d (.lit (.int .i64 x110))), (243, 15, .bp b1 0 1), (244, 16, .d (.lit (.int .i64 p_0.Rest))), (245, 17, .d (.lit (.int .i64 ((w64 (x110 + p_0.Rest)))))), (246, 18, .d (.lit (.bool ((decide (x108 < (w64 (x110 + p_0.Rest)))))))), (247, 19, .d (.lit (.bool ((decide (x108 < (w64 (x110 + p_0.Rest)))))))), (248, 20, .d (.lit (.bool (decide (x108 < (w64 (x110 + p_0.Rest))))))), (249, 21, .tup []), (250, 22, .tup []), (251, 23, .tup []), (252, 24, .tup []), (253, 25, .tup []), (254, 26, .tup []), (255, 27, .tup []), (256, 28, .tup []), (257, 29, .tup []), (258, 30, .tup []), (259, 31, .tup []), (260, 32, .tup []), (261, 33, .tup []), (262, 34, .tup []), (263, 35, .tup []), (264, 36, .tup []), (265, 37, .tup []), (266, 38, .d (.lit (.bool true)))], ?_, ?_⟩
                                      · exact ⟨by kernel_rfl, by kernel_rfl, by kernel_rfl, by kernel_rfl, by kernel_rfl, [([], []), ([], []), ([], []), ([2], []), ([0, 1, 3], []), ([4], []), ([5], []), ([5], []), ([5, 6, 7], []), ([5, 8], []), ([5], []), ([5], []), ([5, 11], []), ([5, 10, 12], []), ([5, 13], []), ([5], []), ([5, 15], []), ([5, 14, 16], []), ([5, 9, 17], []), ([5, 18], []), ([19], []), ([20], []), ([20, 21], []), ([20], []), ([20, 23], []), ([20, 22, 24], []), ([20, 25], []), ([26], []), ([26], []), ([26, 27, 28], []), ([26, 29], []), ([26], []), ([26], []), ([26, 32], []), ([26, 31, 33], []), ([26, 34], []), ([26, 30, 35], []), ([20, 26, 36], []), ([20, 37], [])], by kernel_rfl, ⟨fun S hS => g_fin rfl (g_op rfl (s_loada_bp (lt_of rfl) (ov_ev hS rfl) (i := 0) rfl agg_25 (es := (encApiProgram p_0)) rfl rfl)),
      fun S hS => g_fin rfl (g_op rfl (s_move (v := .d (.lit (.int .i64 x48.Job))) (lt_of rfl) (ov_ev hS rfl) rfl)),
      fun S hS => g_fin rfl (g_op rfl (s_field_bp (lt_of rfl) (ov_ev hS rfl) fld_45_0)),
      fun S hS => g_fin rfl (g_op rfl (s_load_bp (lt_of rfl) (ov_ev hS rfl) (i := 2) rfl rfl one_3)),
      fun S hS => g_fin rfl (g_op rfl (s_call (lt_of rfl) (.func _ _ Try.call20) (ev2 (ov_ev hS rfl) (ev2 (ov_ev hS rfl) (ev2 (ov_ev hS rfl) evn))) rfl (BVs.refl _ _) (deuceref08_Share_c _ _ _ h104) rfl)),
      fun S hS => g_fin rfl (g_op rfl (s_move (v := .d (.lit (.bool r103))) (lt_of rfl) (ov_ev hS rfl) rfl)),
      fun S hS => g_fin rfl (g_take rfl rfl (lt_of rfl) (ov_en hS rfl) c107 (s_move (v := .d (.sl 1 (r43.1.map encI))) (lt_of rfl) (ov_ev hS rfl) rfl)),
      fun S hS => g_fin rfl (g_take rfl rfl (lt_of rfl) (ov_en hS rfl) c107 (s_move (v := .d (.lit (.int .i64 x48.Job))) (lt_of rfl) (ov_ev hS rfl) rfl)),
      fun S hS => g_fin rfl (g_take rfl rfl (lt_of rfl) (ov_en hS rfl) c107 (s_index_sl (lt_of rfl) (ov_ev hS rfl) (ov_ev hS rfl) sl_27.of (idx_map encI h109))),
      fun S hS => g_fin rfl (g_take rfl rfl (lt_of rfl) (ov_en hS rfl) c107 (s_load_cp (lt_of rfl) (ov_ev hS rfl) one_3)),
      fun S hS => g_fin rfl (g_take rfl rfl (lt_of rfl) (ov_en hS rfl) c107 (s_move (v := .d (.sl 1 (r43.2.map encI))) (lt_of rfl) (ov_ev hS rfl) rfl)),
      fun S hS => g_fin rfl (g_take rfl rfl (lt_of rfl) (ov_en hS rfl) c107 (s_field_bp (lt_of rfl) (ov_ev hS rfl) fld_45_0)),
      fun S hS => g_fin rfl (g_take rfl rfl (lt_of rfl) (ov_en hS rfl) c107 (s_load_bp (lt_of rfl) (ov_ev hS rfl) (i := 2) rfl rfl one_3)),
      fun S hS => g_fin rfl (g_take rfl rfl (lt_of rfl) (ov_en hS rfl) c107 (s_index_sl (lt_of rfl) (ov_ev hS rfl) (ov_ev hS rfl) sl_27.of (idx_map encI h111))),
      fun S hS => g_fin rfl (g_take rfl rfl (lt_of rfl) (ov_en hS rfl) c107 (s_load_cp (lt_of rfl) (ov_ev hS rfl) one_3)),
      fun S hS => g_fin rfl (g_take rfl rfl (lt_of rfl) (ov_en hS rfl) c107 (s_field_bp (lt_of rfl) (ov_ev hS rfl) fld_25_1)),
      fun S hS => g_fin rfl (g_take rfl rfl (lt_of rfl) (ov_en hS rfl) c107 (s_load_bp (lt_of rfl) (ov_ev hS rfl) (i := 0) rfl rfl one_3)),
      fun S hS => g_fin rfl (g_take rfl rfl (lt_of rfl) (ov_en hS rfl) c107 (s_arith (lt_of rfl) (ov_ev hS rfl) (ov_ev hS rfl) rfl)),
      fun S hS => g_fin rfl (g_take rfl rfl (lt_of rfl) (ov_en hS rfl) c107 (s_cmp (lt_of rfl) (ov_ev hS rfl) (ov_ev hS rfl) rfl)),
      fun S hS => g_fin rfl (g_op rfl (s_pick_t (v := .d (.lit (.bool ((decide (x108 < (w64 (x110 + p_0.Rest)))))))) (lt_of rfl) (ov_ev hS rfl) c107 (ov_ev hS rfl) rfl)),
      fun S hS => g_fin rfl (g_op rfl (s_move (v := .d (.lit (.bool (decide (x108 < (w64 (x110 + p_0.Rest))))))) (lt_of rfl) (ov_ev hS rfl) rfl)),
      fun S hS => g_fin rfl (g_pass rfl rfl (lt_of rfl) rfl (lt_of rfl) (ov_en hS rfl) c114),
      fun S hS => g_fin rfl (g_pass rfl rfl (lt_of rfl) rfl (lt_of rfl) (ov_en hS rfl) c114),
      fun S hS => g_fin rfl (g_pass rfl rfl (lt_of rfl) rfl (lt_of rfl) (ov_en hS rfl) c114),
      fun S hS => g_fin rfl (g_pass rfl rfl (lt_of rfl) rfl (lt_of rfl) (ov_en hS rfl) c114),
      fun S hS => g_fin rfl (g_pass rfl rfl (lt_of rfl) rfl (lt_of rfl) (ov_en hS rfl) c114),
      fun S hS => g_fin rfl (g_pass rfl rfl (lt_of rfl) rfl (lt_of rfl) (ov_en hS rfl) c114),
      fun S hS => g_fin rfl (g_pass' rfl rfl (lt_of rfl) rfl (lt_of rfl) (ov_en hS rfl)),
      fun S hS => g_fin rfl (g_pass' rfl rfl (lt_of rfl) rfl (lt_of rfl) (ov_en hS rfl)),
      fun S hS => g_fin rfl (g_pass' rfl rfl (lt_of rfl) rfl (lt_of rfl) (ov_en hS rfl)),
      fun S hS => g_fin rfl (g_pass' rfl rfl (lt_of rfl) rfl (lt_of rfl) (ov_en hS rfl)),
      fun S hS => g_fin rfl (g_pass' rfl rfl (lt_of rfl) rfl (lt_of rfl) (ov_en hS rfl)),
      fun S hS => g_fin rfl (g_pass' rfl rfl (lt_of rfl) rfl (lt_of rfl) (ov_en hS rfl)),
      fun S hS => g_fin rfl (g_pass' rfl rfl (lt_of rfl) rfl (lt_of rfl) (ov_en hS rfl)),
      fun S hS => g_fin rfl (g_pass' rfl rfl (lt_of rfl) rfl (lt_of rfl) (ov_en hS rfl)),
      fun S hS => g_fin rfl (g_pass' rfl rfl (lt_of rfl) rfl (lt_of rfl) (ov_en hS rfl)),
      fun S hS => g_fin rfl (g_pass' rfl rfl (lt_of rfl) rfl (lt_of rfl) (ov_en hS rfl)),
      fun S hS => g_fin rfl (g_pass rfl rfl (lt_of rfl) rfl (lt_of rfl) (ov_en hS rfl) c114),
      fun S hS => g_fin rfl (g_op rfl (s_pick_t (v := .d (.lit (.bool true))) (lt_of rfl) (ov_ev hS rfl) c114 rfl rfl)), trivial⟩⟩
                                      · exact ent_le (le_upd rfl (le_keep ⟨rfl, rfl, rfl, rfl, rfl, rfl, rfl, rfl, rfl, rfl, rfl, trivial⟩))
                                    · have h113 := cond_ff c114 h113
                                      obtain ⟨b115, h116, h113⟩ := bind_some h113
                                      refine bool_cases (decide (x48.Court = x99.Court)) (fun c117 => ?_) (fun c117 => ?_)
                                      · have h116 := cond_tt c117 h116
                                        obtain ⟨x118, h119, h116⟩ := bind_some h116
                                        obtain ⟨x120, h121, h116⟩ := bind_some h116
                                        have h116 := Option.some.inj h116
                                        subst h116
                                        have h113 := Option.some.inj h113
                                        subst h113
                                        refine ⟨[(228, 0, .agg (encApiProgram p_0)), (229, 1, .d (.lit (.int .i64 x48.Job))), (230, 2, .bp b101 0 0), (231, 3, .d (.lit (.int .i64 x99.Job))), (232, 4, .d (.lit (.bool r103))), (233, 5, .d (.lit (.bool r103))), (234, 6, .d (.sl 1 (r43.1.map encI))), (235, 7, .d (.lit (.int .i64 x48.Job))), (236, 8, .cp [.lit (.int .i64 x108)]), (237, 9, .d (.lit (.int .i64 x108))), (238, 10, .d (.sl 1 (r43.2.map encI))), (239, 11, .bp b101 0 0), (240, 12, .d (.lit (.int .i64 x99.Job))), (241, 13, .cp [.lit (.int .i64 x110)]), (242, 14, .d (.lit (.int .i64 x110))), (243, 15, .bp b1 0 1), (244, 16, .d (.lit (.int .i64 p_0.Rest))), (245, 17, .d (.lit (.int .i64 ((w64 (x110 + p_0.Rest)))))), (246, 18, .d (.lit (.bool ((decide (x108 < (w64 (x110 + p_0.Rest)))))))), (247, 19, .d (.lit (.bool ((decide (x108 < (w64 (x110 + p_0.Rest)))))))), (248, 20, .d (.lit (.bool (decide (x108 < (w64 (x110 + p_0.Rest))))))), (249, 21, .bp b50 0 2), (250, 22, .d (.lit (.int .i64 x48.Court))), (251, 23, .bp b101 0 2), (252, 24, .d (.lit (.int .i64 x99.Court))), (253, 25, .d (.lit (.bool ((decide (x48.Court = x99.Court)))))), (254, 26, .d (.lit (.bool ((decide (x48.Court = x99.Court)))))), (255, 27, .d (.sl 1 (r43.1.map encI))), (256, 28, .d (.lit (.int .i64 x48.Job))), (257, 29, .cp [.lit (.int .i64 x118)]), (258, 30, .d (.lit (.int .i64 x118))), (259, 31, .d (.sl 1 (r43.2.map encI))), (260, 32, .bp b101 0 0), (261, 33, .d (.lit (.int .i64 x99.Job))), (262, 34, .cp [.lit (.int .i64 x120)]), (263, 35, .d (.lit (.int .i64 x120))), (264, 36, .d (.lit (.bool ((decide (x118 < x120)))))), (265, 37, .d (.lit (.bool ((decide (x118 < x120)))))), (266, 38, .d (.lit (.bool (decide (x118 < x120)))))], ?_, ?_⟩
                                        · exact ⟨by kernel_rfl, by kernel_rfl, by kernel_rfl, by kernel_rfl, by kernel_rfl, [([], []), ([], []), ([], []), ([2], []), ([0, 1, 3], []), ([4], []), ([5], []), ([5], []), ([5, 6, 7], []), ([5, 8], []), ([5], []), ([5], []), ([5, 11], []), ([5, 10, 12], []), ([5, 13], []), ([5], []), ([5, 15], []), ([5, 14, 16], []), ([5, 9, 17], []), ([5, 18], []), ([19], []), ([20], []), ([20, 21], []), ([20], []), ([20, 23], []), ([20, 22, 24], []), ([20, 25], []), ([26], []), ([26], []), ([26, 27, 28], []), ([26, 29], []), ([26], []), ([26], []), ([26, 32], []), ([26, 31, 33], []), ([26, 34], []), ([26, 30, 35], []), ([20, 26, 36], []), ([20, 37], [])], by kernel_rfl, ⟨fun S hS => g_fin rfl (g_op rfl (s_loada_bp (lt_of rfl) (ov_ev hS rfl) (i := 0) rfl agg_25 (es := (encApiProgram p_0)) rfl rfl)),
      fun S hS => g_fin rfl (g_op rfl (s_move (v := .d (.lit (.int .i64 x48.Job))) (lt_of rfl) (ov_ev hS rfl) rfl)),
      fun S hS => g_fin rfl (g_op rfl (s_field_bp (lt_of rfl) (ov_ev hS rfl) fld_45_0)),
      fun S hS => g_fin rfl (g_op rfl (s_load_bp (lt_of rfl) (ov_ev hS rfl) (i := 2) rfl rfl one_3)),
      fun S hS => g_fin rfl (g_op rfl (s_call (lt_of rfl) (.func _ _ Try.call20) (ev2 (ov_ev hS rfl) (ev2 (ov_ev hS rfl) (ev2 (ov_ev hS rfl) evn))) rfl (BVs.refl _ _) (deuceref08_Share_c _ _ _ h104) rfl)),
      fun S hS => g_fin rfl (g_op rfl (s_move (v := .d (.lit (.bool r103))) (lt_of rfl) (ov_ev hS rfl) rfl)),
      fun S hS => g_fin rfl (g_take rfl rfl (lt_of rfl) (ov_en hS rfl) c107 (s_move (v := .d (.sl 1 (r43.1.map encI))) (lt_of rfl) (ov_ev hS rfl) rfl)),
      fun S hS => g_fin rfl (g_take rfl rfl (lt_of rfl) (ov_en hS rfl) c107 (s_move (v := .d (.lit (.int .i64 x48.Job))) (lt_of rfl) (ov_ev hS rfl) rfl)),
      fun S hS => g_fin rfl (g_take rfl rfl (lt_of rfl) (ov_en hS rfl) c107 (s_index_sl (lt_of rfl) (ov_ev hS rfl) (ov_ev hS rfl) sl_27.of (idx_map encI h109))),
      fun S hS => g_fin rfl (g_take rfl rfl (lt_of rfl) (ov_en hS rfl) c107 (s_load_cp (lt_of rfl) (ov_ev hS rfl) one_3)),
      fun S hS => g_fin rfl (g_take rfl rfl (lt_of rfl) (ov_en hS rfl) c107 (s_move (v := .d (.sl 1 (r43.2.map encI))) (lt_of rfl) (ov_ev hS rfl) rfl)),
      fun S hS => g_fin rfl (g_take rfl rfl (lt_of rfl) (ov_en hS rfl) c107 (s_field_bp (lt_of rfl) (ov_ev hS rfl) fld_45_0)),
      fun S hS => g_fin rfl (g_take rfl rfl (lt_of rfl) (ov_en hS rfl) c107 (s_load_bp (lt_of rfl) (ov_ev hS rfl) (i := 2) rfl rfl one_3)),
      fun S hS => g_fin rfl (g_take rfl rfl (lt_of rfl) (ov_en hS rfl) c107 (s_index_sl (lt_of rfl) (ov_ev hS rfl) (ov_ev hS rfl) sl_27.of (idx_map encI h111))),
      fun S hS => g_fin rfl (g_take rfl rfl (lt_of rfl) (ov_en hS rfl) c107 (s_load_cp (lt_of rfl) (ov_ev hS rfl) one_3)),
      fun S hS => g_fin rfl (g_take rfl rfl (lt_of rfl) (ov_en hS rfl) c107 (s_field_bp (lt_of rfl) (ov_ev hS rfl) fld_25_1)),
      fun S hS => g_fin rfl (g_take rfl rfl (lt_of rfl) (ov_en hS rfl) c107 (s_load_bp (lt_of rfl) (ov_ev hS rfl) (i := 0) rfl rfl one_3)),
      fun S hS => g_fin rfl (g_take rfl rfl (lt_of rfl) (ov_en hS rfl) c107 (s_arith (lt_of rfl) (ov_ev hS rfl) (ov_ev hS rfl) rfl)),
      fun S hS => g_fin rfl (g_take rfl rfl (lt_of rfl) (ov_en hS rfl) c107 (s_cmp (lt_of rfl) (ov_ev hS rfl) (ov_ev hS rfl) rfl)),
      fun S hS => g_fin rfl (g_op rfl (s_pick_t (v := .d (.lit (.bool ((decide (x108 < (w64 (x110 + p_0.Rest)))))))) (lt_of rfl) (ov_ev hS rfl) c107 (ov_ev hS rfl) rfl)),
      fun S hS => g_fin rfl (g_op rfl (s_move (v := .d (.lit (.bool (decide (x108 < (w64 (x110 + p_0.Rest))))))) (lt_of rfl) (ov_ev hS rfl) rfl)),
      fun S hS => g_fin rfl (g_take rfl rfl (lt_of rfl) (ov_en hS rfl) c114 (s_field_bp (lt_of rfl) (ov_ev hS rfl) fld_45_2)),
      fun S hS => g_fin rfl (g_take rfl rfl (lt_of rfl) (ov_en hS rfl) c114 (s_load_bp (lt_of rfl) (ov_ev hS rfl) (i := 1) rfl rfl one_3)),
      fun S hS => g_fin rfl (g_take rfl rfl (lt_of rfl) (ov_en hS rfl) c114 (s_field_bp (lt_of rfl) (ov_ev hS rfl) fld_45_2)),
      fun S hS => g_fin rfl (g_take rfl rfl (lt_of rfl) (ov_en hS rfl) c114 (s_load_bp (lt_of rfl) (ov_ev hS rfl) (i := 2) rfl rfl one_3)),
      fun S hS => g_fin rfl (g_take rfl rfl (lt_of rfl) (ov_en hS rfl) c114 (s_cmp (lt_of rfl) (ov_ev hS rfl) (ov_ev hS rfl) rfl)),
      fun S hS => g_fin rfl (g_take rfl rfl (lt_of rfl) (ov_en hS rfl) c114 (s_move (v := .d (.lit (.bool ((decide (x48.Court = x99.Court)))))) (lt_of rfl) (ov_ev hS rfl) rfl)),
      fun S hS => g_fin rfl (g_take rfl rfl (lt_of rfl) (ov_en hS rfl) c117 (s_move (v := .d (.sl 1 (r43.1.map encI))) (lt_of rfl) (ov_ev hS rfl) rfl)),
      fun S hS => g_fin rfl (g_take rfl rfl (lt_of rfl) (ov_en hS rfl) c117 (s_move (v := .d (.lit (.int .i64 x48.Job))) (lt_of rfl) (ov_ev hS rfl) rfl)),
      fun S hS => g_fin rfl (g_take rfl rfl (lt_of rfl) (ov_en hS rfl) c117 (s_index_sl (lt_of rfl) (ov_ev hS rfl) (ov_ev hS rfl) sl_27.of (idx_map encI h119))),
      fun S hS => g_fin rfl (g_take rfl rfl (lt_of rfl) (ov_en hS rfl) c117 (s_load_cp (lt_of rfl) (ov_ev hS rfl) one_3)),
      fun S hS => g_fin rfl (g_take rfl rfl (lt_of rfl) (ov_en hS rfl) c117 (s_move (v := .d (.sl 1 (r43.2.map encI))) (lt_of rfl) (ov_ev hS rfl) rfl)),
      fun S hS => g_fin rfl (g_take rfl rfl (lt_of rfl) (ov_en hS rfl) c117 (s_field_bp (lt_of rfl) (ov_ev hS rfl) fld_45_0)),
      fun S hS => g_fin rfl (g_take rfl rfl (lt_of rfl) (ov_en hS rfl) c117 (s_load_bp (lt_of rfl) (ov_ev hS rfl) (i := 2) rfl rfl one_3)),
      fun S hS => g_fin rfl (g_take rfl rfl (lt_of rfl) (ov_en hS rfl) c117 (s_index_sl (lt_of rfl) (ov_ev hS rfl) (ov_ev hS rfl) sl_27.of (idx_map encI h121))),
      fun S hS => g_fin rfl (g_take rfl rfl (lt_of rfl) (ov_en hS rfl) c117 (s_load_cp (lt_of rfl) (ov_ev hS rfl) one_3)),
      fun S hS => g_fin rfl (g_take rfl rfl (lt_of rfl) (ov_en hS rfl) c117 (s_cmp (lt_of rfl) (ov_ev hS rfl) (ov_ev hS rfl) rfl)),
      fun S hS => g_fin rfl (g_take rfl rfl (lt_of rfl) (ov_en hS rfl) c114 (s_pick_t (v := .d (.lit (.bool ((decide (x118 < x120)))))) (lt_of rfl) (ov_ev hS rfl) c117 (ov_ev hS rfl) rfl)),
      fun S hS => g_fin rfl (g_op rfl (s_pick_f (v := .d (.lit (.bool (decide (x118 < x120))))) (lt_of rfl) (ov_ev hS rfl) c114 (ov_ev hS rfl) rfl)), trivial⟩⟩
                                        · exact ent_le (le_upd rfl (le_keep ⟨rfl, rfl, rfl, rfl, rfl, rfl, rfl, rfl, rfl, rfl, rfl, trivial⟩))
                                      · have h116 := cond_ff c117 h116
                                        have h116 := Option.some.inj h116
                                        subst h116
                                        have h113 := Option.some.inj h113
                                        subst h113
                                        refine ⟨[(228, 0, .agg (encApiProgram p_0)), (229, 1, .d (.lit (.int .i64 x48.Job))), (230, 2, .bp b101 0 0), (231, 3, .d (.lit (.int .i64 x99.Job))), (232, 4, .d (.lit (.bool r103))), (233, 5, .d (.lit (.bool r103))), (234, 6, .d (.sl 1 (r43.1.map encI))), (235, 7, .d (.lit (.int .i64 x48.Job))), (236, 8, .cp [.lit (.int .i64 x108)]), (237, 9, .d (.lit (.int .i64 x108))), (238, 10, .d (.sl 1 (r43.2.map encI))), (239, 11, .bp b101 0 0), (240, 12, .d (.lit (.int .i64 x99.Job))), (241, 13, .cp [.lit (.int .i64 x110)]), (242, 14, .d (.lit (.int .i64 x110))), (243, 15, .bp b1 0 1), (244, 16, .d (.lit (.int .i64 p_0.Rest))), (245, 17, .d (.lit (.int .i64 ((w64 (x110 + p_0.Rest)))))), (246, 18, .d (.lit (.bool ((decide (x108 < (w64 (x110 + p_0.Rest)))))))), (247, 19, .d (.lit (.bool ((decide (x108 < (w64 (x110 + p_0.Rest)))))))), (248, 20, .d (.lit (.bool (decide (x108 < (w64 (x110 + p_0.Rest))))))), (249, 21, .bp b50 0 2), (250, 22, .d (.lit (.int .i64 x48.Court))), (251, 23, .bp b101 0 2), (252, 24, .d (.lit (.int .i64 x99.Court))), (253, 25, .d (.lit (.bool ((decide (x48.Court = x99.Court)))))), (254, 26, .d (.lit (.bool ((decide (x48.Court = x99.Court)))))), (255, 27, .tup []), (256, 28, .tup []), (257, 29, .tup []), (258, 30, .tup []), (259, 31, .tup []), (260, 32, .tup []), (261, 33, .tup []), (262, 34, .tup []), (263, 35, .tup []), (264, 36, .tup []), (265, 37, .d (.lit (.bool false))), (266, 38, .d (.lit (.bool (false))))], ?_, ?_⟩
                                        · exact ⟨by kernel_rfl, by kernel_rfl, by kernel_rfl, by kernel_rfl, by kernel_rfl, [([], []), ([], []), ([], []), ([2], []), ([0, 1, 3], []), ([4], []), ([5], []), ([5], []), ([5, 6, 7], []), ([5, 8], []), ([5], []), ([5], []), ([5, 11], []), ([5, 10, 12], []), ([5, 13], []), ([5], []), ([5, 15], []), ([5, 14, 16], []), ([5, 9, 17], []), ([5, 18], []), ([19], []), ([20], []), ([20, 21], []), ([20], []), ([20, 23], []), ([20, 22, 24], []), ([20, 25], []), ([26], []), ([26], []), ([26, 27, 28], []), ([26, 29], []), ([26], []), ([26], []), ([26, 32], []), ([26, 31, 33], []), ([26, 34], []), ([26, 30, 35], []), ([20, 26, 36], []), ([20, 37], [])], by kernel_rfl, ⟨fun S hS => g_fin rfl (g_op rfl (s_loada_bp (lt_of rfl) (ov_ev hS rfl) (i := 0) rfl agg_25 (es := (encApiProgram p_0)) rfl rfl)),
      fun S hS => g_fin rfl (g_op rfl (s_move (v := .d (.lit (.int .i64 x48.Job))) (lt_of rfl) (ov_ev hS rfl) rfl)),
      fun S hS => g_fin rfl (g_op rfl (s_field_bp (lt_of rfl) (ov_ev hS rfl) fld_45_0)),
      fun S hS => g_fin rfl (g_op rfl (s_load_bp (lt_of rfl) (ov_ev hS rfl) (i := 2) rfl rfl one_3)),
      fun S hS => g_fin rfl (g_op rfl (s_call (lt_of rfl) (.func _ _ Try.call20) (ev2 (ov_ev hS rfl) (ev2 (ov_ev hS rfl) (ev2 (ov_ev hS rfl) evn))) rfl (BVs.refl _ _) (deuceref08_Share_c _ _ _ h104) rfl)),
      fun S hS => g_fin rfl (g_op rfl (s_move (v := .d (.lit (.bool r103))) (lt_of rfl) (ov_ev hS rfl) rfl)),
      fun S hS => g_fin rfl (g_take rfl rfl (lt_of rfl) (ov_en hS rfl) c107 (s_move (v := .d (.sl 1 (r43.1.map encI))) (lt_of rfl) (ov_ev hS rfl) rfl)),
      fun S hS => g_fin rfl (g_take rfl rfl (lt_of rfl) (ov_en hS rfl) c107 (s_move (v := .d (.lit (.int .i64 x48.Job))) (lt_of rfl) (ov_ev hS rfl) rfl)),
      fun S hS => g_fin rfl (g_take rfl rfl (lt_of rfl) (ov_en hS rfl) c107 (s_index_sl (lt_of rfl) (ov_ev hS rfl) (ov_ev hS rfl) sl_27.of (idx_map encI h109))),
      fun S hS => g_fin rfl (g_take rfl rfl (lt_of rfl) (ov_en hS rfl) c107 (s_load_cp (lt_of rfl) (ov_ev hS rfl) one_3)),
      fun S hS => g_fin rfl (g_take rfl rfl (lt_of rfl) (ov_en hS rfl) c107 (s_move (v := .d (.sl 1 (r43.2.map encI))) (lt_of rfl) (ov_ev hS rfl) rfl)),
      fun S hS => g_fin rfl (g_take rfl rfl (lt_of rfl) (ov_en hS rfl) c107 (s_field_bp (lt_of rfl) (ov_ev hS rfl) fld_45_0)),
      fun S hS => g_fin rfl (g_take rfl rfl (lt_of rfl) (ov_en hS rfl) c107 (s_load_bp (lt_of rfl) (ov_ev hS rfl) (i := 2) rfl rfl one_3)),
      fun S hS => g_fin rfl (g_take rfl rfl (lt_of rfl) (ov_en hS rfl) c107 (s_index_sl (lt_of rfl) (ov_ev hS rfl) (ov_ev hS rfl) sl_27.of (idx_map encI h111))),
      fun S hS => g_fin rfl (g_take rfl rfl (lt_of rfl) (ov_en hS rfl) c107 (s_load_cp (lt_of rfl) (ov_ev hS rfl) one_3)),
      fun S hS => g_fin rfl (g_take rfl rfl (lt_of rfl) (ov_en hS rfl) c107 (s_field_bp (lt_of rfl) (ov_ev hS rfl) fld_25_1)),
      fun S hS => g_fin rfl (g_take rfl rfl (lt_of rfl) (ov_en hS rfl) c107 (s_load_bp (lt_of rfl) (ov_ev hS rfl) (i := 0) rfl rfl one_3)),
      fun S hS => g_fin rfl (g_take rfl rfl (lt_of rfl) (ov_en hS rfl) c107 (s_arith (lt_of rfl) (ov_ev hS rfl) (ov_ev hS rfl) rfl)),
      fun S hS => g_fin rfl (g_take rfl rfl (lt_of rfl) (ov_en hS rfl) c107 (s_cmp (lt_of rfl) (ov_ev hS rfl) (ov_ev hS rfl) rfl)),
      fun S hS => g_fin rfl (g_op rfl (s_pick_t (v := .d (.lit (.bool ((decide (x108 < (w64 (x110 + p_0.Rest)))))))) (lt_of rfl) (ov_ev hS rfl) c107 (ov_ev hS rfl) rfl)),
      fun S hS => g_fin rfl (g_op rfl (s_move (v := .d (.lit (.bool (decide (x108 < (w64 (x110 + p_0.Rest))))))) (lt_of rfl) (ov_ev hS rfl) rfl)),
      fun S hS => g_fin rfl (g_take rfl rfl (lt_of rfl) (ov_en hS rfl) c114 (s_field_bp (lt_of rfl) (ov_ev hS rfl) fld_45_2)),
      fun S hS => g_fin rfl (g_take rfl rfl (lt_of rfl) (ov_en hS rfl) c114 (s_load_bp (lt_of rfl) (ov_ev hS rfl) (i := 1) rfl rfl one_3)),
      fun S hS => g_fin rfl (g_take rfl rfl (lt_of rfl) (ov_en hS rfl) c114 (s_field_bp (lt_of rfl) (ov_ev hS rfl) fld_45_2)),
      fun S hS => g_fin rfl (g_take rfl rfl (lt_of rfl) (ov_en hS rfl) c114 (s_load_bp (lt_of rfl) (ov_ev hS rfl) (i := 2) rfl rfl one_3)),
      fun S hS => g_fin rfl (g_take rfl rfl (lt_of rfl) (ov_en hS rfl) c114 (s_cmp (lt_of rfl) (ov_ev hS rfl) (ov_ev hS rfl) rfl)),
      fun S hS => g_fin rfl (g_take rfl rfl (lt_of rfl) (ov_en hS rfl) c114 (s_move (v := .d (.lit (.bool ((decide (x48.Court = x99.Court)))))) (lt_of rfl) (ov_ev hS rfl) rfl)),
      fun S hS => g_fin rfl (g_pass rfl rfl (lt_of rfl) rfl (lt_of rfl) (ov_en hS rfl) c117),
      fun S hS => g_fin rfl (g_pass rfl rfl (lt_of rfl) rfl (lt_of rfl) (ov_en hS rfl) c117),
      fun S hS => g_fin rfl (g_pass rfl rfl (lt_of rfl) rfl (lt_of rfl) (ov_en hS rfl) c117),
      fun S hS => g_fin rfl (g_pass rfl rfl (lt_of rfl) rfl (lt_of rfl) (ov_en hS rfl) c117),
      fun S hS => g_fin rfl (g_pass rfl rfl (lt_of rfl) rfl (lt_of rfl) (ov_en hS rfl) c117),
      fun S hS => g_fin rfl (g_pass rfl rfl (lt_of rfl) rfl (lt_of rfl) (ov_en hS rfl) c117),
      fun S hS => g_fin rfl (g_pass rfl rfl (lt_of rfl) rfl (lt_of rfl) (ov_en hS rfl) c117),
      fun S hS => g_fin rfl (g_pass rfl rfl (lt_of rfl) rfl (lt_of rfl) (ov_en hS rfl) c117),
      fun S hS => g_fin rfl (g_pass rfl rfl (lt_of rfl) rfl (lt_of rfl) (ov_en hS rfl) c117),
      fun S hS => g_fin rfl (g_pass rfl rfl (lt_of rfl) rfl (lt_of rfl) (ov_en hS rfl) c117),
      fun S hS => g_fin rfl (g_take rfl rfl (lt_of rfl) (ov_en hS rfl) c114 (s_pick_f (v := .d (.lit (.bool false))) (lt_of rfl) (ov_ev hS rfl) c117 rfl rfl)),
      fun S hS => g_fin rfl (g_op rfl (s_pick_f (v := .d (.lit (.bool (false)))) (lt_of rfl) (ov_ev hS rfl) c114 (ov_ev hS rfl) rfl)), trivial⟩⟩
                                        · exact ent_le (le_upd rfl (le_keep ⟨rfl, rfl, rfl, rfl, rfl, rfl, rfl, rfl, rfl, rfl, rfl, trivial⟩))
                                  · have h106 := cond_ff c107 h106
                                    have h106 := Option.some.inj h106
                                    subst h106
                                    have c114 : false = false := rfl
                                    have h113 := cond_ff c114 h113
                                    obtain ⟨b115, h116, h113⟩ := bind_some h113
                                    refine bool_cases (decide (x48.Court = x99.Court)) (fun c117 => ?_) (fun c117 => ?_)
                                    · have h116 := cond_tt c117 h116
                                      obtain ⟨x118, h119, h116⟩ := bind_some h116
                                      obtain ⟨x120, h121, h116⟩ := bind_some h116
                                      have h116 := Option.some.inj h116
                                      subst h116
                                      have h113 := Option.some.inj h113
                                      subst h113
                                      refine ⟨[(228, 0, .agg (encApiProgram p_0)), (229, 1, .d (.lit (.int .i64 x48.Job))), (230, 2, .bp b101 0 0), (231, 3, .d (.lit (.int .i64 x99.Job))), (232, 4, .d (.lit (.bool r103))), (233, 5, .d (.lit (.bool r103))), (234, 6, .tup []), (235, 7, .tup []), (236, 8, .tup []), (237, 9, .tup []), (238, 10, .tup []), (239, 11, .tup []), (240, 12, .tup []), (241, 13, .tup []), (242, 14, .tup []), (243, 15, .tup []), (244, 16, .tup []), (245, 17, .tup []), (246, 18, .tup []), (247, 19, .d (.lit (.bool false))), (248, 20, .d (.lit (.bool (false)))), (249, 21, .bp b50 0 2), (250, 22, .d (.lit (.int .i64 x48.Court))), (251, 23, .bp b101 0 2), (252, 24, .d (.lit (.int .i64 x99.Court))), (253, 25, .d (.lit (.bool ((decide (x48.Court = x99.Court)))))), (254, 26, .d (.lit (.bool ((decide (x48.Court = x99.Court)))))), (255, 27, .d (.sl 1 (r43.1.map encI))), (256, 28, .d (.lit (.int .i64 x48.Job))), (257, 29, .cp [.lit (.int .i64 x118)]), (258, 30, .d (.lit (.int .i64 x118))), (259, 31, .d (.sl 1 (r43.2.map encI))), (260, 32, .bp b101 0 0), (261, 33, .d (.lit (.int .i64 x99.Job))), (262, 34, .cp [.lit (.int .i64 x120)]), (263, 35, .d (.lit (.int .i64 x120))), (264, 36, .d (.lit (.bool ((decide (x118 < x120)))))), (265, 37, .d (.lit (.bool ((decide (x118 < x120)))))), (266, 38, .d (.lit (.bool (decide (x118 < x120)))))], ?_, ?_⟩
                                      · exact ⟨by kernel_rfl, by kernel_rfl, by kernel_rfl, by kernel_rfl, by kernel_rfl, [([], []), ([], []), ([], []), ([2], []), ([0, 1, 3], []), ([4], []), ([5], []), ([5], []), ([5, 6, 7], []), ([5, 8], []), ([5], []), ([5], []), ([5, 11], []), ([5, 10, 12], []), ([5, 13], []), ([5], []), ([5, 15], []), ([5, 14, 16], []), ([5, 9, 17], []), ([5, 18], []), ([19], []), ([20], []), ([20, 21], []), ([20], []), ([20, 23], []), ([20, 22, 24], []), ([20, 25], []), ([26], []), ([26], []), ([26, 27, 28], []), ([26, 29], []), ([26], []), ([26], []), ([26, 32], []), ([26, 31, 33], []), ([26, 34], []), ([26, 30, 35], []), ([20, 26, 36], []), ([20, 37], [])], by kernel_rfl, ⟨fun S hS => g_fin rfl (g_op rfl (s_loada_bp (lt_of rfl) (ov_ev hS rfl) (i := 0) rfl agg_25 (es := (encApiProgram p_0)) rfl rfl)),
      fun S hS => g_fin rfl (g_op rfl (s_move (v := .d (.lit (.int .i64 x48.Job))) (lt_of rfl) (ov_ev hS rfl) rfl)),
      fun S hS => g_fin rfl (g_op rfl (s_field_bp (lt_of rfl) (ov_ev hS rfl) fld_45_0)),
      fun S hS => g_fin rfl (g_op rfl (s_load_bp (lt_of rfl) (ov_ev hS rfl) (i := 2) rfl rfl one_3)),
      fun S hS => g_fin rfl (g_op rfl (s_call (lt_of rfl) (.func _ _ Try.call20) (ev2 (ov_ev hS rfl) (ev2 (ov_ev hS rfl) (ev2 (ov_ev hS rfl) evn))) rfl (BVs.refl _ _) (deuceref08_Share_c _ _ _ h104) rfl)),
      fun S hS => g_fin rfl (g_op rfl (s_move (v := .d (.lit (.bool r103))) (lt_of rfl) (ov_ev hS rfl) rfl)),
      fun S hS => g_fin rfl (g_pass rfl rfl (lt_of rfl) rfl (lt_of rfl) (ov_en hS rfl) c107),
      fun S hS => g_fin rfl (g_pass rfl rfl (lt_of rfl) rfl (lt_of rfl) (ov_en hS rfl) c107),
      fun S hS => g_fin rfl (g_pass rfl rfl (lt_of rfl) rfl (lt_of rfl) (ov_en hS rfl) c107),
      fun S hS => g_fin rfl (g_pass rfl rfl (lt_of rfl) rfl (lt_of rfl) (ov_en hS rfl) c107),
      fun S hS => g_fin rfl (g_pass rfl rfl (lt_of rfl) rfl (lt_of rfl) (ov_en hS rfl) c107),
      fun S hS => g_fin rfl (g_pass rfl rfl (lt_of rfl) rfl (lt_of rfl) (ov_en hS rfl) c107),
      fun S hS => g_fin rfl (g_pass rfl rfl (lt_of rfl) rfl (lt_of rfl) (ov_en hS rfl) c107),
      fun S hS => g_fin rfl (g_pass rfl rfl (lt_of rfl) rfl (lt_of rfl) (ov_en hS rfl) c107),
      fun S hS => g_fin rfl (g_pass rfl rfl (lt_of rfl) rfl (lt_of rfl) (ov_en hS rfl) c107),
      fun S hS => g_fin rfl (g_pass rfl rfl (lt_of rfl) rfl (lt_of rfl) (ov_en hS rfl) c107),
      fun S hS => g_fin rfl (g_pass rfl rfl (lt_of rfl) rfl (lt_of rfl) (ov_en hS rfl) c107),
      fun S hS => g_fin rfl (g_pass rfl rfl (lt_of rfl) rfl (lt_of rfl) (ov_en hS rfl) c107),
      fun S hS => g_fin rfl (g_pass rfl rfl (lt_of rfl) rfl (lt_of rfl) (ov_en hS rfl) c107),
      fun S hS => g_fin rfl (g_op rfl (s_pick_f (v := .d (.lit (.bool false))) (lt_of rfl) (ov_ev hS rfl) c107 rfl rfl)),
      fun S hS => g_fin rfl (g_op rfl (s_move (v := .d (.lit (.bool (false)))) (lt_of rfl) (ov_ev hS rfl) rfl)),
      fun S hS => g_fin rfl (g_take rfl rfl (lt_of rfl) (ov_en hS rfl) c114 (s_field_bp (lt_of rfl) (ov_ev hS rfl) fld_45_2)),
      fun S hS => g_fin rfl (g_take rfl rfl (lt_of rfl) (ov_en hS rfl) c114 (s_load_bp (lt_of rfl) (ov_ev hS rfl) (i := 1) rfl rfl one_3)),
      fun S hS => g_fin rfl (g_take rfl rfl (lt_of rfl) (ov_en hS rfl) c114 (s_field_bp (lt_of rfl) (ov_ev hS rfl) fld_45_2)),
      fun S hS => g_fin rfl (g_take rfl rfl (lt_of rfl) (ov_en hS rfl) c114 (s_load_bp (lt_of rfl) (ov_ev hS rfl) (i := 2) rfl rfl one_3)),
      fun S hS => g_fin rfl (g_take rfl rfl (lt_of rfl) (ov_en hS rfl) c114 (s_cmp (lt_of rfl) (ov_ev hS rfl) (ov_ev hS rfl) rfl)),
      fun S hS => g_fin rfl (g_take rfl rfl (lt_of rfl) (ov_en hS rfl) c114 (s_move (v := .d (.lit (.bool ((decide (x48.Court = x99.Court)))))) (lt_of rfl) (ov_ev hS rfl) rfl)),
      fun S hS => g_fin rfl (g_take rfl rfl (lt_of rfl) (ov_en hS rfl) c117 (s_move (v := .d (.sl 1 (r43.1.map encI))) (lt_of rfl) (ov_ev hS rfl) rfl)),
      fun S hS => g_fin rfl (g_take rfl rfl (lt_of rfl) (ov_en hS rfl) c117 (s_move (v := .d (.lit (.int .i64 x48.Job))) (lt_of rfl) (ov_ev hS rfl) rfl)),
      fun S hS => g_fin rfl (g_take rfl rfl (lt_of rfl) (ov_en hS rfl) c117 (s_index_sl (lt_of rfl) (ov_ev hS rfl) (ov_ev hS rfl) sl_27.of (idx_map encI h119))),
      fun S hS => g_fin rfl (g_take rfl rfl (lt_of rfl) (ov_en hS rfl) c117 (s_load_cp (lt_of rfl) (ov_ev hS rfl) one_3)),
      fun S hS => g_fin rfl (g_take rfl rfl (lt_of rfl) (ov_en hS rfl) c117 (s_move (v := .d (.sl 1 (r43.2.map encI))) (lt_of rfl) (ov_ev hS rfl) rfl)),
      fun S hS => g_fin rfl (g_take rfl rfl (lt_of rfl) (ov_en hS rfl) c117 (s_field_bp (lt_of rfl) (ov_ev hS rfl) fld_45_0)),
      fun S hS => g_fin rfl (g_take rfl rfl (lt_of rfl) (ov_en hS rfl) c117 (s_load_bp (lt_of rfl) (ov_ev hS rfl) (i := 2) rfl rfl one_3)),
      fun S hS => g_fin rfl (g_take rfl rfl (lt_of rfl) (ov_en hS rfl) c117 (s_index_sl (lt_of rfl) (ov_ev hS rfl) (ov_ev hS rfl) sl_27.of (idx_map encI h121))),
      fun S hS => g_fin rfl (g_take rfl rfl (lt_of rfl) (ov_en hS rfl) c117 (s_load_cp (lt_of rfl) (ov_ev hS rfl) one_3)),
      fun S hS => g_fin rfl (g_take rfl rfl (lt_of rfl) (ov_en hS rfl) c117 (s_cmp (lt_of rfl) (ov_ev hS rfl) (ov_ev hS rfl) rfl)),
      fun S hS => g_fin rfl (g_take rfl rfl (lt_of rfl) (ov_en hS rfl) c114 (s_pick_t (v := .d (.lit (.bool ((decide (x118 < x120)))))) (lt_of rfl) (ov_ev hS rfl) c117 (ov_ev hS rfl) rfl)),
      fun S hS => g_fin rfl (g_op rfl (s_pick_f (v := .d (.lit (.bool (decide (x118 < x120))))) (lt_of rfl) (ov_ev hS rfl) c114 (ov_ev hS rfl) rfl)), trivial⟩⟩
                                      · exact ent_le (le_upd rfl (le_keep ⟨rfl, rfl, rfl, rfl, rfl, rfl, rfl, rfl, rfl, rfl, rfl, trivial⟩))
                                    · have h116 := cond_ff c117 h116
                                      have h116 := Option.some.inj h116
                                      subst h116
                                      have h113 := Option.some.inj h113
                                      subst h113
                                      refine ⟨[(228, 0, .agg (encApiProgram p_0)), (229, 1, .d (.lit (.int .i64 x48.Job))), (230, 2, .bp b101 0 0), (231, 3, .d (.lit (.int .i64 x99.Job))), (232, 4, .d (.lit (.bool r103))), (233, 5, .d (.lit (.bool r103))), (234, 6, .tup []), (235, 7, .tup []), (236, 8, .tup []), (237, 9, .tup []), (238, 10, .tup []), (239, 11, .tup []), (240, 12, .tup []), (241, 13, .tup []), (242, 14, .tup []), (243, 15, .tup []), (244, 16, .tup []), (245, 17, .tup []), (246, 18, .tup []), (247, 19, .d (.lit (.bool false))), (248, 20, .d (.lit (.bool (false)))), (249, 21, .bp b50 0 2), (250, 22, .d (.lit (.int .i64 x48.Court))), (251, 23, .bp b101 0 2), (252, 24, .d (.lit (.int .i64 x99.Court))), (253, 25, .d (.lit (.bool ((decide (x48.Court = x99.Court)))))), (254, 26, .d (.lit (.bool ((decide (x48.Court = x99.Court)))))), (255, 27, .tup []), (256, 28, .tup []), (257, 29, .tup []), (258, 30, .tup []), (259, 31, .tup []), (260, 32, .tup []), (261, 33, .tup []), (262, 34, .tup []), (263, 35, .tup []), (264, 36, .tup []), (265, 37, .d (.lit (.bool false))), (266, 38, .d (.lit (.bool (false))))], ?_, ?_⟩
                                      · exact ⟨by kernel_rfl, by kernel_rfl, by kernel_rfl, by kernel_rfl, by kernel_rfl, [([], []), ([], []), ([], []), ([2], []), ([0, 1, 3], []), ([4], []), ([5], []), ([5], []), ([5, 6, 7], []), ([5, 8], []), ([5], []), ([5], []), ([5, 11], []), ([5, 10, 12], []), ([5, 13], []), ([5], []), ([5, 15], []), ([5, 14, 16], []), ([5, 9, 17], []), ([5, 18], []), ([19], []), ([20], []), ([20, 21], []), ([20], []), ([20, 23], []), ([20, 22, 24], []), ([20, 25], []), ([26], []), ([26], []), ([26, 27, 28], []), ([26, 29], []), ([26], []), ([26], []), ([26, 32], []), ([26, 31, 33], []), ([26, 34], []), ([26, 30, 35], []), ([20, 26, 36], []), ([20, 37], [])], by kernel_rfl, ⟨fun S hS => g_fin rfl (g_op rfl (s_loada_bp (lt_of rfl) (ov_ev hS rfl) (i := 0) rfl agg_25 (es := (encApiProgram p_0)) rfl rfl)),
      fun S hS => g_fin rfl (g_op rfl (s_move (v := .d (.lit (.int .i64 x48.Job))) (lt_of rfl) (ov_ev hS rfl) rfl)),
      fun S hS => g_fin rfl (g_op rfl (s_field_bp (lt_of rfl) (ov_ev hS rfl) fld_45_0)),
      fun S hS => g_fin rfl (g_op rfl (s_load_bp (lt_of rfl) (ov_ev hS rfl) (i := 2) rfl rfl one_3)),
      fun S hS => g_fin rfl (g_op rfl (s_call (lt_of rfl) (.func _ _ Try.call20) (ev2 (ov_ev hS rfl) (ev2 (ov_ev hS rfl) (ev2 (ov_ev hS rfl) evn))) rfl (BVs.refl _ _) (deuceref08_Share_c _ _ _ h104) rfl)),
      fun S hS => g_fin rfl (g_op rfl (s_move (v := .d (.lit (.bool r103))) (lt_of rfl) (ov_ev hS rfl) rfl)),
      fun S hS => g_fin rfl (g_pass rfl rfl (lt_of rfl) rfl (lt_of rfl) (ov_en hS rfl) c107),
      fun S hS => g_fin rfl (g_pass rfl rfl (lt_of rfl) rfl (lt_of rfl) (ov_en hS rfl) c107),
      fun S hS => g_fin rfl (g_pass rfl rfl (lt_of rfl) rfl (lt_of rfl) (ov_en hS rfl) c107),
      fun S hS => g_fin rfl (g_pass rfl rfl (lt_of rfl) rfl (lt_of rfl) (ov_en hS rfl) c107),
      fun S hS => g_fin rfl (g_pass rfl rfl (lt_of rfl) rfl (lt_of rfl) (ov_en hS rfl) c107),
      fun S hS => g_fin rfl (g_pass rfl rfl (lt_of rfl) rfl (lt_of rfl) (ov_en hS rfl) c107),
      fun S hS => g_fin rfl (g_pass rfl rfl (lt_of rfl) rfl (lt_of rfl) (ov_en hS rfl) c107),
      fun S hS => g_fin rfl (g_pass rfl rfl (lt_of rfl) rfl (lt_of rfl) (ov_en hS rfl) c107),
      fun S hS => g_fin rfl (g_pass rfl rfl (lt_of rfl) rfl (lt_of rfl) (ov_en hS rfl) c107),
      fun S hS => g_fin rfl (g_pass rfl rfl (lt_of rfl) rfl (lt_of rfl) (ov_en hS rfl) c107),
      fun S hS => g_fin rfl (g_pass rfl rfl (lt_of rfl) rfl (lt_of rfl) (ov_en hS rfl) c107),
      fun S hS => g_fin rfl (g_pass rfl rfl (lt_of rfl) rfl (lt_of rfl) (ov_en hS rfl) c107),
      fun S hS => g_fin rfl (g_pass rfl rfl (lt_of rfl) rfl (lt_of rfl) (ov_en hS rfl) c107),
      fun S hS => g_fin rfl (g_op rfl (s_pick_f (v := .d (.lit (.bool false))) (lt_of rfl) (ov_ev hS rfl) c107 rfl rfl)),
      fun S hS => g_fin rfl (g_op rfl (s_move (v := .d (.lit (.bool (false)))) (lt_of rfl) (ov_ev hS rfl) rfl)),
      fun S hS => g_fin rfl (g_take rfl rfl (lt_of rfl) (ov_en hS rfl) c114 (s_field_bp (lt_of rfl) (ov_ev hS rfl) fld_45_2)),
      fun S hS => g_fin rfl (g_take rfl rfl (lt_of rfl) (ov_en hS rfl) c114 (s_load_bp (lt_of rfl) (ov_ev hS rfl) (i := 1) rfl rfl one_3)),
      fun S hS => g_fin rfl (g_take rfl rfl (lt_of rfl) (ov_en hS rfl) c114 (s_field_bp (lt_of rfl) (ov_ev hS rfl) fld_45_2)),
      fun S hS => g_fin rfl (g_take rfl rfl (lt_of rfl) (ov_en hS rfl) c114 (s_load_bp (lt_of rfl) (ov_ev hS rfl) (i := 2) rfl rfl one_3)),
      fun S hS => g_fin rfl (g_take rfl rfl (lt_of rfl) (ov_en hS rfl) c114 (s_cmp (lt_of rfl) (ov_ev hS rfl) (ov_ev hS rfl) rfl)),
      fun S hS => g_fin rfl (g_take rfl rfl (lt_of rfl) (ov_en hS rfl) c114 (s_move (v := .d (.lit (.bool ((decide (x48.Court = x99.Court)))))) (lt_of rfl) (ov_ev hS rfl) rfl)),
      fun S hS => g_fin rfl (g_pass rfl rfl (lt_of rfl) rfl (lt_of rfl) (ov_en hS rfl) c117),
      fun S hS => g_fin rfl (g_pass rfl rfl (lt_of rfl) rfl (lt_of rfl) (ov_en hS rfl) c117),
      fun S hS => g_fin rfl (g_pass rfl rfl (lt_of rfl) rfl (lt_of rfl) (ov_en hS rfl) c117),
      fun S hS => g_fin rfl (g_pass rfl rfl (lt_of rfl) rfl (lt_of rfl) (ov_en hS rfl) c117),
      fun S hS => g_fin rfl (g_pass rfl rfl (lt_of rfl) rfl (lt_of rfl) (ov_en hS rfl) c117),
      fun S hS => g_fin rfl (g_pass rfl rfl (lt_of rfl) rfl (lt_of rfl) (ov_en hS rfl) c117),
      fun S hS => g_fin rfl (g_pass rfl rfl (lt_of rfl) rfl (lt_of rfl) (ov_en hS rfl) c117),
      fun S hS => g_fin rfl (g_pass rfl rfl (lt_of rfl) rfl (lt_of rfl) (ov_en hS rfl) c117),
      fun S hS => g_fin rfl (g_pass rfl rfl (lt_of rfl) rfl (lt_of rfl) (ov_en hS rfl) c117),
      fun S hS => g_fin rfl (g_pass rfl rfl (lt_of rfl) rfl (lt_of rfl) (ov_en hS rfl) c117),
      fun S hS => g_fin rfl (g_take rfl rfl (lt_of rfl) (ov_en hS rfl) c114 (s_pick_f (v := .d (.lit (.bool false))) (lt_of rfl) (ov_ev hS rfl) c117 rfl rfl)),
      fun S hS => g_fin rfl (g_op rfl (s_pick_f (v := .d (.lit (.bool (false)))) (lt_of rfl) (ov_ev hS rfl) c114 (ov_ev hS rfl) rfl)), trivial⟩⟩
                                      · exact ent_le (le_upd rfl (le_keep ⟨rfl, rfl, rfl, rfl, rfl, rfl, rfl, rfl, rfl, rfl, rfl, trivial⟩))
                                · refine tr_nil ?_
                                  refine tr_if rfl (fun c122 => ?_) (fun c122 => ?_)
                                  · have h := cond_tt c122 h
                                    refine tr_seq ?_
                                    refine tr_region ?_
                                    refine tr1 rfl (s_assign (v := .d (.lit (.bool false))) (lt_of rfl) rfl rfl) ?_
                                    refine tr_nil ?_
                                    have h := Option.some.inj h
                                    subst h
                                    refine tr_ent (ent_free (ble_keep (l := [6]) ⟨rfl, trivial⟩)) ?_
                                    exact tr_ret ⟨rfl, _, .one _, rfl, rfl⟩
                                  · have h := cond_ff c122 h
                                    refine tr_skipb ?_
                                    refine tr_region ?_
                                    refine tr1 rfl (s_move (v := .d (.lit (.int .i64 k_4_96))) (lt_of rfl) rfl rfl) ?_
                                    refine tr1 rfl (s_arith (lt_of rfl) rfl rfl rfl) ?_
                                    refine tr1 rfl (s_assign (v := .d (.lit (.int .i64 ((w64 (k_4_96 + 1)))))) (lt_of rfl) rfl rfl) ?_
                                    refine tr_nil ?_
                                    exact ⟨(w64 (k_4_96 + 1)), h, ent_pick [0, 1] rfl rfl (le_upd rfl (le_keep ⟨rfl, rfl, rfl, rfl, rfl, rfl, rfl, rfl, rfl, rfl, trivial⟩))⟩
                            · have h := cond_ff c98 h
                              refine tr_exit ?_
                              refine .inl ⟨rfl, ?_⟩
                              simp only [deucelaw08_PlayReal_K4] at h
                              simp only [deucelaw08_PlayReal_K3] at h
                              refine tr_region ?_
                              refine tr1 rfl (s_move (v := .d (.lit (.int .i64 i_2_45))) (lt_of rfl) rfl rfl) ?_
                              refine tr1 rfl (s_arith (lt_of rfl) rfl rfl rfl) ?_
                              refine tr1 rfl (s_assign (v := .d (.lit (.int .i64 ((w64 (i_2_45 + 1)))))) (lt_of rfl) rfl rfl) ?_
                              refine tr_nil ?_
                              exact ⟨(w64 (i_2_45 + 1)), h, ent_pick [0] rfl rfl (le_upd rfl (le_keep ⟨rfl, rfl, rfl, rfl, rfl, rfl, rfl, trivial⟩))⟩
                      · have h := cond_ff c47 h
                        refine tr_exit ?_
                        refine .inl ⟨rfl, ?_⟩
                        simp only [deucelaw08_PlayReal_K2] at h
                        refine tr_seq ?_
                        refine tr_region ?_
                        obtain ⟨r123, h124, h⟩ := bind_some h
                        refine tr1 rfl (s_call (lt_of rfl) (.func _ _ Try.call16) rfl rfl (BVs.refl _ _) (deucelaw08_works_c h124) rfl) ?_
                        refine tr1 rfl (s_assign (v := .d (.lit (.bool r123))) (lt_of rfl) rfl rfl) ?_
                        refine tr_nil ?_
                        have h := Option.some.inj h
                        subst h
                        refine tr_ent (ent_free (ble_keep (l := [6]) ⟨rfl, trivial⟩)) ?_
                        exact tr_ret ⟨rfl, _, .one _, rfl, rfl⟩

end Go.Am
