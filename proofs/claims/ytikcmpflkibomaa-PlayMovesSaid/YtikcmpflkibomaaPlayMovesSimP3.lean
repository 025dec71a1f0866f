/- The functions compute what the shallow ones say: printed by program. -/
import Derived.Test.YtikcmpflkibomaaPlayMovesSimP2
namespace Go.Am
open Go.Proofs
set_option maxRecDepth 100000
set_option maxHeartbeats 4000000

theorem deuceref08_moved_c (order_0 : List ApiSeat) (old_1 : List ApiSeat) {r : Int} (h : deuceref08_moved order_0 old_1 = some r) : Fn Try.prog 69 [.d (.sl 3 (order_0.map encApiSeat)), .d (.sl 3 (old_1.map encApiSeat))] (.d (.lit (.int .i64 r))) := by
  unfold deuceref08_moved at h
  refine Fn.of_tr Try.func69 rfl (rs := [.tmp 4]) Try.results69 Try.ntmps69 (Nat.le_of_ble_eq_true rfl) ?_
  refine tr_seq ?_
  refine tr_region ?_
  refine tr1 rfl (s_assign (v := .d (.lit (.int .i64 0))) (lt_of rfl) rfl rfl) ?_
  refine tr_nil ?_
  refine tr_seq ?_
  refine tr_region ?_
  refine tr1 rfl (s_assign (v := .d (.lit (.int .i64 0))) (lt_of rfl) rfl rfl) ?_
  refine tr_nil ?_
  refine tr_seq ?_
  refine tr_seq ?_
  refine tr_region ?_
  refine tr1 rfl (s_assign (v := .d (.lit (.int .i64 0))) (lt_of rfl) rfl rfl) ?_
  refine tr_nil ?_
  refine tr_blk ?_
  refine tr_loopk [0, 1] (fun (s1 : Int × Int) => [(5, .d (.lit (.int .i64 s1.1))), (6, .d (.lit (.int .i64 s1.2)))]) (fun (s1 : Int × Int) => []) (fun (k : Nat) (s1 : Int × Int) => deuceref08_moved_L0 order_0 old_1 k s1.1 s1.2) (fun _ => rfl) (0, 0) h (ent_pick [] rfl rfl (le_upd rfl (le_upd rfl (le_keep ⟨rfl, rfl, trivial⟩)))) ?_
  rintro k2 ⟨n_0_1, i_0_1⟩ h
  simp only [deuceref08_moved_L0] at h
  refine tr_seq ?_
  refine tr_seq ?_
  refine tr_region ?_
  refine tr1 rfl (s_move (v := .d (.lit (.int .i64 i_0_1))) (lt_of rfl) rfl rfl) ?_
  refine tr1 rfl (s_move (v := .d (.sl 3 (order_0.map encApiSeat))) (lt_of rfl) rfl rfl) ?_
  refine tr1 rfl (s_lenm (lt_of rfl) rfl sl_26.of) ?_
  refine tr1 rfl (s_cmp (lt_of rfl) rfl rfl rfl) ?_
  refine tr_nil ?_
  refine tr_if rfl (fun c3 => ?_) (fun c3 => ?_)
  · have h := cond_tt c3 h
    refine tr_skip ?_
    refine tr_seq ?_
    refine tr_blk ?_
    refine tr_seq ?_
    refine tr_region ?_
    refine tr1 rfl (s_assign (v := .d (.lit (.int .i64 0))) (lt_of rfl) rfl rfl) ?_
    refine tr_nil ?_
    refine tr_blkb ?_
    refine tr_loopk [0, 1, 6] (fun (s4 : Int × Int) => [(5, .d (.lit (.int .i64 s4.1))), (7, .d (.lit (.int .i64 s4.2)))]) (fun (s4 : Int × Int) => []) (fun (k : Nat) (s4 : Int × Int) => deuceref08_moved_L2 (deuceref08_moved_L0 order_0 old_1 k2) order_0 old_1 i_0_1 k s4.1 s4.2) (fun _ => rfl) (n_0_1, 0) h (ent_pick [] rfl rfl (le_upd rfl (le_upd rfl (le_keep ⟨rfl, rfl, rfl, trivial⟩)))) ?_
    rintro k5 ⟨n_2_4, k_2_4⟩ h
    simp only [deuceref08_moved_L2] at h
    refine tr_seq ?_
    refine tr_seq ?_
    refine tr_region ?_
    refine tr1 rfl (s_move (v := .d (.lit (.int .i64 k_2_4))) (lt_of rfl) rfl rfl) ?_
    refine tr1 rfl (s_move (v := .d (.sl 3 (old_1.map encApiSeat))) (lt_of rfl) rfl rfl) ?_
    refine tr1 rfl (s_lenm (lt_of rfl) rfl sl_26.of) ?_
    refine tr1 rfl (s_cmp (lt_of rfl) rfl rfl rfl) ?_
    refine tr_nil ?_
    refine tr_if rfl (fun c6 => ?_) (fun c6 => ?_)
    · have h := cond_tt c6 h
      refine tr_skip ?_
      refine tr_seq ?_
      refine tr_blk ?_
      refine tr_seq ?_
      obtain ⟨x7, h8, h⟩ := bind_some h
      obtain ⟨x9, h10, h⟩ := bind_some h
      obtain ⟨b11, h12, h⟩ := bind_some h
      refine tr_drawk mix 37 [0, 1, 5, 6, 7] [(56, .d (.lit (.bool b11)))] ?_ ?_
      · refine bool_cases (decide (x7.Job = x9.Job)) (fun c13 => ?_) (fun c13 => ?_)
        · have h12 := cond_tt c13 h12
          obtain ⟨x14, h15, h12⟩ := bind_some h12
          obtain ⟨x16, h17, h12⟩ := bind_some h12
          obtain ⟨b18, h19, h12⟩ := bind_some h12
          refine bool_cases (!decide (x14.Day = x16.Day)) (fun c20 => ?_) (fun c20 => ?_)
          · have h19 := cond_tt c20 h19
            have h19 := Option.some.inj h19
            subst h19
            have h12 := Option.some.inj h12
            subst h12
            refine ⟨[(20, 0, .d (.sl 3 (old_1.map encApiSeat))), (21, 1, .d (.lit (.int .i64 k_2_4))), (22, 2, .cp [.lit (.int .i64 x7.Job), .lit (.int .i64 x7.Day), .lit (.int .i64 x7.Court)]), (23, 3, .cp [.lit (.int .i64 x7.Job)]), (24, 4, .d (.lit (.int .i64 x7.Job))), (25, 5, .d (.sl 3 (order_0.map encApiSeat))), (26, 6, .d (.lit (.int .i64 i_0_1))), (27, 7, .cp [.lit (.int .i64 x9.Job), .lit (.int .i64 x9.Day), .lit (.int .i64 x9.Court)]), (28, 8, .cp [.lit (.int .i64 x9.Job)]), (29, 9, .d (.lit (.int .i64 x9.Job))), (30, 10, .d (.lit (.bool ((decide (x7.Job = x9.Job)))))), (31, 11, .d (.lit (.bool ((decide (x7.Job = x9.Job)))))), (32, 12, .d (.sl 3 (old_1.map encApiSeat))), (33, 13, .d (.lit (.int .i64 k_2_4))), (34, 14, .cp [.lit (.int .i64 x14.Job), .lit (.int .i64 x14.Day), .lit (.int .i64 x14.Court)]), (35, 15, .cp [.lit (.int .i64 x14.Day)]), (36, 16, .d (.lit (.int .i64 x14.Day))), (37, 17, .d (.sl 3 (order_0.map encApiSeat))), (38, 18, .d (.lit (.int .i64 i_0_1))), (39, 19, .cp [.lit (.int .i64 x16.Job), .lit (.int .i64 x16.Day), .lit (.int .i64 x16.Court)]), (40, 20, .cp [.lit (.int .i64 x16.Day)]), (41, 21, .d (.lit (.int .i64 x16.Day))), (42, 22, .d (.lit (.bool ((!decide (x14.Day = x16.Day)))))), (43, 23, .d (.lit (.bool ((!decide (x14.Day = x16.Day)))))), (44, 24, .tup []), (45, 25, .tup []), (46, 26, .tup []), (47, 27, .tup []), (48, 28, .tup []), (49, 29, .tup []), (50, 30, .tup []), (51, 31, .tup []), (52, 32, .tup []), (53, 33, .tup []), (54, 34, .tup []), (55, 35, .d (.lit (.bool true))), (56, 36, .d (.lit (.bool (true))))], ?_, ?_⟩
            · exact ⟨by kernel_rfl, by kernel_rfl, by kernel_rfl, by kernel_rfl, by kernel_rfl, [([], []), ([], []), ([0, 1], []), ([2], []), ([3], []), ([], []), ([], []), ([5, 6], []), ([7], []), ([8], []), ([4, 9], []), ([10], []), ([11], []), ([11], []), ([11, 12, 13], []), ([11, 14], []), ([11, 15], []), ([11], []), ([11], []), ([11, 17, 18], []), ([11, 19], []), ([11, 20], []), ([11, 16, 21], []), ([11, 22], []), ([23], []), ([23], []), ([23, 24, 25], []), ([23, 26], []), ([23, 27], []), ([23], []), ([23], []), ([23, 29, 30], []), ([23, 31], []), ([23, 32], []), ([23, 28, 33], []), ([11, 23, 34], []), ([11, 35], [])], by kernel_rfl, ⟨fun S hS => g_fin rfl (g_op rfl (s_move (v := .d (.sl 3 (old_1.map encApiSeat))) (lt_of rfl) (ov_ev hS rfl) rfl)),
      fun S hS => g_fin rfl (g_op rfl (s_move (v := .d (.lit (.int .i64 k_2_4))) (lt_of rfl) (ov_ev hS rfl) rfl)),
      fun S hS => g_fin rfl (g_op rfl (s_index_sl (lt_of rfl) (ov_ev hS rfl) (ov_ev hS rfl) sl_26.of (idx_map encApiSeat h8))),
      fun S hS => g_fin rfl (g_op rfl (s_field_cp (lt_of rfl) (ov_ev hS rfl) fld_45_0 (es := [.lit (.int .i64 x7.Job)]) rfl)),
      fun S hS => g_fin rfl (g_op rfl (s_load_cp (lt_of rfl) (ov_ev hS rfl) one_3)),
      fun S hS => g_fin rfl (g_op rfl (s_move (v := .d (.sl 3 (order_0.map encApiSeat))) (lt_of rfl) (ov_ev hS rfl) rfl)),
      fun S hS => g_fin rfl (g_op rfl (s_move (v := .d (.lit (.int .i64 i_0_1))) (lt_of rfl) (ov_ev hS rfl) rfl)),
      fun S hS => g_fin rfl (g_op rfl (s_index_sl (lt_of rfl) (ov_ev hS rfl) (ov_ev hS rfl) sl_26.of (idx_map encApiSeat h10))),
      fun S hS => g_fin rfl (g_op rfl (s_field_cp (lt_of rfl) (ov_ev hS rfl) fld_45_0 (es := [.lit (.int .i64 x9.Job)]) rfl)),
      fun S hS => g_fin rfl (g_op rfl (s_load_cp (lt_of rfl) (ov_ev hS rfl) one_3)),
      fun S hS => g_fin rfl (g_op rfl (s_cmp (lt_of rfl) (ov_ev hS rfl) (ov_ev hS rfl) rfl)),
      fun S hS => g_fin rfl (g_op rfl (s_move (v := .d (.lit (.bool ((decide (x7.Job = x9.Job)))))) (lt_of rfl) (ov_ev hS rfl) rfl)),
      fun S hS => g_fin rfl (g_take rfl rfl (lt_of rfl) (ov_en hS rfl) c13 (s_move (v := .d (.sl 3 (old_1.map encApiSeat))) (lt_of rfl) (ov_ev hS rfl) rfl)),
      fun S hS => g_fin rfl (g_take rfl rfl (lt_of rfl) (ov_en hS rfl) c13 (s_move (v := .d (.lit (.int .i64 k_2_4))) (lt_of rfl) (ov_ev hS rfl) rfl)),
      fun S hS => g_fin rfl (g_take rfl rfl (lt_of rfl) (ov_en hS rfl) c13 (s_index_sl (lt_of rfl) (ov_ev hS rfl) (ov_ev hS rfl) sl_26.of (idx_map encApiSeat h15))),
      fun S hS => g_fin rfl (g_take rfl rfl (lt_of rfl) (ov_en hS rfl) c13 (s_field_cp (lt_of rfl) (ov_ev hS rfl) fld_45_1 (es := [.lit (.int .i64 x14.Day)]) rfl)),
      fun S hS => g_fin rfl (g_take rfl rfl (lt_of rfl) (ov_en hS rfl) c13 (s_load_cp (lt_of rfl) (ov_ev hS rfl) one_3)),
      fun S hS => g_fin rfl (g_take rfl rfl (lt_of rfl) (ov_en hS rfl) c13 (s_move (v := .d (.sl 3 (order_0.map encApiSeat))) (lt_of rfl) (ov_ev hS rfl) rfl)),
      fun S hS => g_fin rfl (g_take rfl rfl (lt_of rfl) (ov_en hS rfl) c13 (s_move (v := .d (.lit (.int .i64 i_0_1))) (lt_of rfl) (ov_ev hS rfl) rfl)),
      fun S hS => g_fin rfl (g_take rfl rfl (lt_of rfl) (ov_en hS rfl) c13 (s_index_sl (lt_of rfl) (ov_ev hS rfl) (ov_ev hS rfl) sl_26.of (idx_map encApiSeat h17))),
      fun S hS => g_fin rfl (g_take rfl rfl (lt_of rfl) (ov_en hS rfl) c13 (s_field_cp (lt_of rfl) (ov_ev hS rfl) fld_45_1 (es := [.lit (.int .i64 x16.Day)]) rfl)),
      fun S hS => g_fin rfl (g_take rfl rfl (lt_of rfl) (ov_en hS rfl) c13 (s_load_cp (lt_of rfl) (ov_ev hS rfl) one_3)),
      fun S hS => g_fin rfl (g_take rfl rfl (lt_of rfl) (ov_en hS rfl) c13 (s_cmp (lt_of rfl) (ov_ev hS rfl) (ov_ev hS rfl) rfl)),
      fun S hS => g_fin rfl (g_take rfl rfl (lt_of rfl) (ov_en hS rfl) c13 (s_move (v := .d (.lit (.bool ((!decide (x14.Day = x16.Day)))))) (lt_of rfl) (ov_ev hS rfl) rfl)),
      fun S hS => g_fin rfl (g_pass rfl rfl (lt_of rfl) rfl (lt_of rfl) (ov_en hS rfl) c20),
      fun S hS => g_fin rfl (g_pass rfl rfl (lt_of rfl) rfl (lt_of rfl) (ov_en hS rfl) c20),
      fun S hS => g_fin rfl (g_pass rfl rfl (lt_of rfl) rfl (lt_of rfl) (ov_en hS rfl) c20),
      fun S hS => g_fin rfl (g_pass rfl rfl (lt_of rfl) rfl (lt_of rfl) (ov_en hS rfl) c20),
      fun S hS => g_fin rfl (g_pass rfl rfl (lt_of rfl) rfl (lt_of rfl) (ov_en hS rfl) c20),
      fun S hS => g_fin rfl (g_pass rfl rfl (lt_of rfl) rfl (lt_of rfl) (ov_en hS rfl) c20),
      fun S hS => g_fin rfl (g_pass rfl rfl (lt_of rfl) rfl (lt_of rfl) (ov_en hS rfl) c20),
      fun S hS => g_fin rfl (g_pass rfl rfl (lt_of rfl) rfl (lt_of rfl) (ov_en hS rfl) c20),
      fun S hS => g_fin rfl (g_pass rfl rfl (lt_of rfl) rfl (lt_of rfl) (ov_en hS rfl) c20),
      fun S hS => g_fin rfl (g_pass rfl rfl (lt_of rfl) rfl (lt_of rfl) (ov_en hS rfl) c20),
      fun S hS => g_fin rfl (g_pass rfl rfl (lt_of rfl) rfl (lt_of rfl) (ov_en hS rfl) c20),
      fun S hS => g_fin rfl (g_take rfl rfl (lt_of rfl) (ov_en hS rfl) c13 (s_pick_t (v := .d (.lit (.bool true))) (lt_of rfl) (ov_ev hS rfl) c20 rfl rfl)),
      fun S hS => g_fin rfl (g_op rfl (s_pick_t (v := .d (.lit (.bool (true)))) (lt_of rfl) (ov_ev hS rfl) c13 (ov_ev hS rfl) rfl)), trivial⟩⟩
            · exact ent_le (le_upd rfl (le_keep ⟨rfl, rfl, rfl, rfl, rfl, trivial⟩))
          · have h19 := cond_ff c20 h19
            obtain ⟨x21, h22, h19⟩ := bind_some h19
            obtain ⟨x23, h24, h19⟩ := bind_some h19
            have h19 := Option.some.inj h19
            subst h19
            have h12 := Option.some.inj h12
            subst h12
            refine ⟨[(20, 0, .d (.sl 3 (old_1.map encApiSeat))), (21, 1, .d (.lit (.int .i64 k_2_4))), (22, 2, .cp [.lit (.int .i64 x7.Job), .lit (.int .i64 x7.Day), .lit (.int .i64 x7.Court)]), (23, 3, .cp [.lit (.int .i64 x7.Job)]), (24, 4, .d (.lit (.int .i64 x7.Job))), (25, 5, .d (.sl 3 (order_0.map encApiSeat))), (26, 6, .d (.lit (.int .i64 i_0_1))), (27, 7, .cp [.lit (.int .i64 x9.Job), .lit (.int .i64 x9.Day), .lit (.int .i64 x9.Court)]), (28, 8, .cp [.lit (.int .i64 x9.Job)]), (29, 9, .d (.lit (.int .i64 x9.Job))), (30, 10, .d (.lit (.bool ((decide (x7.Job = x9.Job)))))), (31, 11, .d (.lit (.bool ((decide (x7.Job = x9.Job)))))), (32, 12, .d (.sl 3 (old_1.map encApiSeat))), (33, 13, .d (.lit (.int .i64 k_2_4))), (34, 14, .cp [.lit (.int .i64 x14.Job), .lit (.int .i64 x14.Day), .lit (.int .i64 x14.Court)]), (35, 15, .cp [.lit (.int .i64 x14.Day)]), (36, 16, .d (.lit (.int .i64 x14.Day))), (37, 17, .d (.sl 3 (order_0.map encApiSeat))), (38, 18, .d (.lit (.int .i64 i_0_1))), (39, 19, .cp [.lit (.int .i64 x16.Job), .lit (.int .i64 x16.Day), .lit (.int .i64 x16.Court)]), (40, 20, .cp [.lit (.int .i64 x16.Day)]), (41, 21, .d (.lit (.int .i64 x16.Day))), (42, 22, .d (.lit (.bool ((!decide (x14.Day = x16.Day)))))), (43, 23, .d (.lit (.bool ((!decide (x14.Day = x16.Day)))))), (44, 24, .d (.sl 3 (old_1.map encApiSeat))), (45, 25, .d (.lit (.int .i64 k_2_4))), (46, 26, .cp [.lit (.int .i64 x21.Job), .lit (.int .i64 x21.Day), .lit (.int .i64 x21.Court)]), (47, 27, .cp [.lit (.int .i64 x21.Court)]), (48, 28, .d (.lit (.int .i64 x21.Court))), (49, 29, .d (.sl 3 (order_0.map encApiSeat))), (50, 30, .d (.lit (.int .i64 i_0_1))), (51, 31, .cp [.lit (.int .i64 x23.Job), .lit (.int .i64 x23.Day), .lit (.int .i64 x23.Court)]), (52, 32, .cp [.lit (.int .i64 x23.Court)]), (53, 33, .d (.lit (.int .i64 x23.Court))), (54, 34, .d (.lit (.bool ((!decide (x21.Court = x23.Court)))))), (55, 35, .d (.lit (.bool ((!decide (x21.Court = x23.Court)))))), (56, 36, .d (.lit (.bool (!decide (x21.Court = x23.Court)))))], ?_, ?_⟩
            · exact ⟨by kernel_rfl, by kernel_rfl, by kernel_rfl, by kernel_rfl, by kernel_rfl, [([], []), ([], []), ([0, 1], []), ([2], []), ([3], []), ([], []), ([], []), ([5, 6], []), ([7], []), ([8], []), ([4, 9], []), ([10], []), ([11], []), ([11], []), ([11, 12, 13], []), ([11, 14], []), ([11, 15], []), ([11], []), ([11], []), ([11, 17, 18], []), ([11, 19], []), ([11, 20], []), ([11, 16, 21], []), ([11, 22], []), ([23], []), ([23], []), ([23, 24, 25], []), ([23, 26], []), ([23, 27], []), ([23], []), ([23], []), ([23, 29, 30], []), ([23, 31], []), ([23, 32], []), ([23, 28, 33], []), ([11, 23, 34], []), ([11, 35], [])], by kernel_rfl, ⟨fun S hS => g_fin rfl (g_op rfl (s_move (v := .d (.sl 3 (old_1.map encApiSeat))) (lt_of rfl) (ov_ev hS rfl) rfl)),
      fun S hS => g_fin rfl (g_op rfl (s_move (v := .d (.lit (.int .i64 k_2_4))) (lt_of rfl) (ov_ev hS rfl) rfl)),
      fun S hS => g_fin rfl (g_op rfl (s_index_sl (lt_of rfl) (ov_ev hS rfl) (ov_ev hS rfl) sl_26.of (idx_map encApiSeat h8))),
      fun S hS => g_fin rfl (g_op rfl (s_field_cp (lt_of rfl) (ov_ev hS rfl) fld_45_0 (es := [.lit (.int .i64 x7.Job)]) rfl)),
      fun S hS => g_fin rfl (g_op rfl (s_load_cp (lt_of rfl) (ov_ev hS rfl) one_3)),
      fun S hS => g_fin rfl (g_op rfl (s_move (v := .d (.sl 3 (order_0.map encApiSeat))) (lt_of rfl) (ov_ev hS rfl) rfl)),
      fun S hS => g_fin rfl (g_op rfl (s_move (v := .d (.lit (.int .i64 i_0_1))) (lt_of rfl) (ov_ev hS rfl) rfl)),
      fun S hS => g_fin rfl (g_op rfl (s_index_sl (lt_of rfl) (ov_ev hS rfl) (ov_ev hS rfl) sl_26.of (idx_map encApiSeat h10))),
      fun S hS => g_fin rfl (g_op rfl (s_field_cp (lt_of rfl) (ov_ev hS rfl) fld_45_0 (es := [.lit (.int .i64 x9.Job)]) rfl)),
      fun S hS => g_fin rfl (g_op rfl (s_load_cp (lt_of rfl) (ov_ev hS rfl) one_3)),
      fun S hS => g_fin rfl (g_op rfl (s_cmp (lt_of rfl) (ov_ev hS rfl) (ov_ev hS rfl) rfl)),
      fun S hS => g_fin rfl (g_op rfl (s_move (v := .d (.lit (.bool ((decide (x7.Job = x9.Job)))))) (lt_of rfl) (ov_ev hS rfl) rfl)),
      fun S hS => g_fin rfl (g_take rfl rfl (lt_of rfl) (ov_en hS rfl) c13 (s_move (v := .d (.sl 3 (old_1.map encApiSeat))) (lt_of rfl) (ov_ev hS rfl) rfl)),
      fun S hS => g_fin rfl (g_take rfl rfl (lt_of rfl) (ov_en hS rfl) c13 (s_move (v := .d (.lit (.int .i64 k_2_4))) (lt_of rfl) (ov_ev hS rfl) rfl)),
      fun S hS => g_fin rfl (g_take rfl rfl (lt_of rfl) (ov_en hS rfl) c13 (s_index_sl (lt_of rfl) (ov_ev hS rfl) (ov_ev hS rfl) sl_26.of (idx_map encApiSeat h15))),
      fun S hS => g_fin rfl (g_take rfl rfl (lt_of rfl) (ov_en hS rfl) c13 (s_field_cp (lt_of rfl) (ov_ev hS rfl) fld_45_1 (es := [.lit (.int .i64 x14.Day)]) rfl)),
      fun S hS => g_fin rfl (g_take rfl rfl (lt_of rfl) (ov_en hS rfl) c13 (s_load_cp (lt_of rfl) (ov_ev hS rfl) one_3)),
      fun S hS => g_fin rfl (g_take rfl rfl (lt_of rfl) (ov_en hS rfl) c13 (s_move (v := .d (.sl 3 (order_0.map encApiSeat))) (lt_of rfl) (ov_ev hS rfl) rfl)),
      fun S hS => g_fin rfl (g_take rfl rfl (lt_of rfl) (ov_en hS rfl) c13 (s_move (v := .d (.lit (.int .i64 i_0_1))) (lt_of rfl) (ov_ev hS rfl) rfl)),
      fun S hS => g_fin rfl (g_take rfl rfl (lt_of rfl) (ov_en hS rfl) c13 (s_index_sl (lt_of rfl) (ov_ev hS rfl) (ov_ev hS rfl) sl_26.of (idx_map encApiSeat h17))),
      fun S hS => g_fin rfl (g_take rfl rfl (lt_of rfl) (ov_en hS rfl) c13 (s_field_cp (lt_of rfl) (ov_ev hS rfl) fld_45_1 (es := [.lit (.int .i64 x16.Day)]) rfl)),
      fun S hS => g_fin rfl (g_take rfl rfl (lt_of rfl) (ov_en hS rfl) c13 (s_load_cp (lt_of rfl) (ov_ev hS rfl) one_3)),
      fun S hS => g_fin rfl (g_take rfl rfl (lt_of rfl) (ov_en hS rfl) c13 (s_cmp (lt_of rfl) (ov_ev hS rfl) (ov_ev hS rfl) rfl)),
      fun S hS => g_fin rfl (g_take rfl rfl (lt_of rfl) (ov_en hS rfl) c13 (s_move (v := .d (.lit (.bool ((!decide (x14.Day = x16.Day)))))) (lt_of rfl) (ov_ev hS rfl) rfl)),
      fun S hS => g_fin rfl (g_take rfl rfl (lt_of rfl) (ov_en hS rfl) c20 (s_move (v := .d (.sl 3 (old_1.map encApiSeat))) (lt_of rfl) (ov_ev hS rfl) rfl)),
      fun S hS => g_fin rfl (g_take rfl rfl (lt_of rfl) (ov_en hS rfl) c20 (s_move (v := .d (.lit (.int .i64 k_2_4))) (lt_of rfl) (ov_ev hS rfl) rfl)),
      fun S hS => g_fin rfl (g_take rfl rfl (lt_of rfl) (ov_en hS rfl) c20 (s_index_sl (lt_of rfl) (ov_ev hS rfl) (ov_ev hS rfl) sl_26.of (idx_map encApiSeat h22))),
      fun S hS => g_fin rfl (g_take rfl rfl (lt_of rfl) (ov_en hS rfl) c20 (s_field_cp (lt_of rfl) (ov_ev hS rfl) fld_45_2 (es := [.lit (.int .i64 x21.Court)]) rfl)),
      fun S hS => g_fin rfl (g_take rfl rfl (lt_of rfl) (ov_en hS rfl) c20 (s_load_cp (lt_of rfl) (ov_ev hS rfl) one_3)),
      fun S hS => g_fin rfl (g_take rfl rfl (lt_of rfl) (ov_en hS rfl) c20 (s_move (v := .d (.sl 3 (order_0.map encApiSeat))) (lt_of rfl) (ov_ev hS rfl) rfl)),
      fun S hS => g_fin rfl (g_take rfl rfl (lt_of rfl) (ov_en hS rfl) c20 (s_move (v := .d (.lit (.int .i64 i_0_1))) (lt_of rfl) (ov_ev hS rfl) rfl)),
      fun S hS => g_fin rfl (g_take rfl rfl (lt_of rfl) (ov_en hS rfl) c20 (s_index_sl (lt_of rfl) (ov_ev hS rfl) (ov_ev hS rfl) sl_26.of (idx_map encApiSeat h24))),
      fun S hS => g_fin rfl (g_take rfl rfl (lt_of rfl) (ov_en hS rfl) c20 (s_field_cp (lt_of rfl) (ov_ev hS rfl) fld_45_2 (es := [.lit (.int .i64 x23.Court)]) rfl)),
      fun S hS => g_fin rfl (g_take rfl rfl (lt_of rfl) (ov_en hS rfl) c20 (s_load_cp (lt_of rfl) (ov_ev hS rfl) one_3)),
      fun S hS => g_fin rfl (g_take rfl rfl (lt_of rfl) (ov_en hS rfl) c20 (s_cmp (lt_of rfl) (ov_ev hS rfl) (ov_ev hS rfl) rfl)),
      fun S hS => g_fin rfl (g_take rfl rfl (lt_of rfl) (ov_en hS rfl) c13 (s_pick_f (v := .d (.lit (.bool ((!decide (x21.Court = x23.Court)))))) (lt_of rfl) (ov_ev hS rfl) c20 (ov_ev hS rfl) rfl)),
      fun S hS => g_fin rfl (g_op rfl (s_pick_t (v := .d (.lit (.bool (!decide (x21.Court = x23.Court))))) (lt_of rfl) (ov_ev hS rfl) c13 (ov_ev hS rfl) rfl)), trivial⟩⟩
            · exact ent_le (le_upd rfl (le_keep ⟨rfl, rfl, rfl, rfl, rfl, trivial⟩))
        · have h12 := cond_ff c13 h12
          have h12 := Option.some.inj h12
          subst h12
          refine ⟨[(20, 0, .d (.sl 3 (old_1.map encApiSeat))), (21, 1, .d (.lit (.int .i64 k_2_4))), (22, 2, .cp [.lit (.int .i64 x7.Job), .lit (.int .i64 x7.Day), .lit (.int .i64 x7.Court)]), (23, 3, .cp [.lit (.int .i64 x7.Job)]), (24, 4, .d (.lit (.int .i64 x7.Job))), (25, 5, .d (.sl 3 (order_0.map encApiSeat))), (26, 6, .d (.lit (.int .i64 i_0_1))), (27, 7, .cp [.lit (.int .i64 x9.Job), .lit (.int .i64 x9.Day), .lit (.int .i64 x9.Court)]), (28, 8, .cp [.lit (.int .i64 x9.Job)]), (29, 9, .d (.lit (.int .i64 x9.Job))), (30, 10, .d (.lit (.bool ((decide (x7.Job = x9.Job)))))), (31, 11, .d (.lit (.bool ((decide (x7.Job = x9.Job)))))), (32, 12, .tup []), (33, 13, .tup []), (34, 14, .tup []), (35, 15, .tup []), (36, 16, .tup []), (37, 17, .tup []), (38, 18, .tup []), (39, 19, .tup []), (40, 20, .tup []), (41, 21, .tup []), (42, 22, .tup []), (43, 23, .tup []), (44, 24, .tup []), (45, 25, .tup []), (46, 26, .tup []), (47, 27, .tup []), (48, 28, .tup []), (49, 29, .tup []), (50, 30, .tup []), (51, 31, .tup []), (52, 32, .tup []), (53, 33, .tup []), (54, 34, .tup []), (55, 35, .tup []), (56, 36, .d (.lit (.bool false)))], ?_, ?_⟩
          · exact ⟨by kernel_rfl, by kernel_rfl, by kernel_rfl, by kernel_rfl, by kernel_rfl, [([], []), ([], []), ([0, 1], []), ([2], []), ([3], []), ([], []), ([], []), ([5, 6], []), ([7], []), ([8], []), ([4, 9], []), ([10], []), ([11], []), ([11], []), ([11, 12, 13], []), ([11, 14], []), ([11, 15], []), ([11], []), ([11], []), ([11, 17, 18], []), ([11, 19], []), ([11, 20], []), ([11, 16, 21], []), ([11, 22], []), ([23], []), ([23], []), ([23, 24, 25], []), ([23, 26], []), ([23, 27], []), ([23], []), ([23], []), ([23, 29, 30], []), ([23, 31], []), ([23, 32], []), ([23, 28, 33], []), ([11, 23, 34], []), ([11, 35], [])], by kernel_rfl, ⟨fun S hS => g_fin rfl (g_op rfl (s_move (v := .d (.sl 3 (old_1.map encApiSeat))) (lt_of rfl) (ov_ev hS rfl) rfl)),
      fun S hS => g_fin rfl (g_op rfl (s_move (v := .d (.lit (.int .i64 k_2_4))) (lt_of rfl) (ov_ev hS rfl) rfl)),
      fun S hS => g_fin rfl (g_op rfl (s_index_sl (lt_of rfl) (ov_ev hS rfl) (ov_ev hS rfl) sl_26.of (idx_map encApiSeat h8))),
      fun S hS => g_fin rfl (g_op rfl (s_field_cp (lt_of rfl) (ov_ev hS rfl) fld_45_0 (es := [.lit (.int .i64 x7.Job)]) rfl)),
      fun S hS => g_fin rfl (g_op rfl (s_load_cp (lt_of rfl) (ov_ev hS rfl) one_3)),
      fun S hS => g_fin rfl (g_op rfl (s_move (v := .d (.sl 3 (order_0.map encApiSeat))) (lt_of rfl) (ov_ev hS rfl) rfl)),
      fun S hS => g_fin rfl (g_op rfl (s_move (v := .d (.lit (.int .i64 i_0_1))) (lt_of rfl) (ov_ev hS rfl) rfl)),
      fun S hS => g_fin rfl (g_op rfl (s_index_sl (lt_of rfl) (ov_ev hS rfl) (ov_ev hS rfl) sl_26.of (idx_map encApiSeat h10))),
      fun S hS => g_fin rfl (g_op rfl (s_field_cp (lt_of rfl) (ov_ev hS rfl) fld_45_0 (es := [.lit (.int .i64 x9.Job)]) rfl)),
      fun S hS => g_fin rfl (g_op rfl (s_load_cp (lt_of rfl) (ov_ev hS rfl) one_3)),
      fun S hS => g_fin rfl (g_op rfl (s_cmp (lt_of rfl) (ov_ev hS rfl) (ov_ev hS rfl) rfl)),
      fun S hS => g_fin rfl (g_op rfl (s_move (v := .d (.lit (.bool ((decide (x7.Job = x9.Job)))))) (lt_of rfl) (ov_ev hS rfl) rfl)),
      fun S hS => g_fin rfl (g_pass rfl rfl (lt_of rfl) rfl (lt_of rfl) (ov_en hS rfl) c13),
      fun S hS => g_fin rfl (g_pass rfl rfl (lt_of rfl) rfl (lt_of rfl) (ov_en hS rfl) c13),
      fun S hS => g_fin rfl (g_pass rfl rfl (lt_of rfl) rfl (lt_of rfl) (ov_en hS rfl) c13),
      fun S hS => g_fin rfl (g_pass rfl rfl (lt_of rfl) rfl (lt_of rfl) (ov_en hS rfl) c13),
      fun S hS => g_fin rfl (g_pass rfl rfl (lt_of rfl) rfl (lt_of rfl) (ov_en hS rfl) c13),
      fun S hS => g_fin rfl (g_pass rfl rfl (lt_of rfl) rfl (lt_of rfl) (ov_en hS rfl) c13),
      fun S hS => g_fin rfl (g_pass rfl rfl (lt_of rfl) rfl (lt_of rfl) (ov_en hS rfl) c13),
      fun S hS => g_fin rfl (g_pass rfl rfl (lt_of rfl) rfl (lt_of rfl) (ov_en hS rfl) c13),
      fun S hS => g_fin rfl (g_pass rfl rfl (lt_of rfl) rfl (lt_of rfl) (ov_en hS rfl) c13),
      fun S hS => g_fin rfl (g_pass rfl rfl (lt_of rfl) rfl (lt_of rfl) (ov_en hS rfl) c13),
      fun S hS => g_fin rfl (g_pass rfl rfl (lt_of rfl) rfl (lt_of rfl) (ov_en hS rfl) c13),
      fun S hS => g_fin rfl (g_pass rfl rfl (lt_of rfl) rfl (lt_of rfl) (ov_en hS rfl) c13),
      fun S hS => g_fin rfl (g_pass' rfl rfl (lt_of rfl) rfl (lt_of rfl) (ov_en hS rfl)),
      fun S hS => g_fin rfl (g_pass' rfl rfl (lt_of rfl) rfl (lt_of rfl) (ov_en hS rfl)),
      fun S hS => g_fin rfl (g_pass' rfl rfl (lt_of rfl) rfl (lt_of rfl) (ov_en hS rfl)),
      fun S hS => g_fin rfl (g_pass' rfl rfl (lt_of rfl) rfl (lt_of rfl) (ov_en hS rfl)),
      fun S hS => g_fin rfl (g_pass' rfl rfl (lt_of rfl) rfl (lt_of rfl) (ov_en hS rfl)),
      fun S hS => g_fin rfl (g_pass' rfl rfl (lt_of rfl) rfl (lt_of rfl) (ov_en hS rfl)),
      fun S hS => g_fin rfl (g_pass' rfl rfl (lt_of rfl) rfl (lt_of rfl) (ov_en hS rfl)),
      fun S hS => g_fin rfl (g_pass' rfl rfl (lt_of rfl) rfl (lt_of rfl) (ov_en hS rfl)),
      fun S hS => g_fin rfl (g_pass' rfl rfl (lt_of rfl) rfl (lt_of rfl) (ov_en hS rfl)),
      fun S hS => g_fin rfl (g_pass' rfl rfl (lt_of rfl) rfl (lt_of rfl) (ov_en hS rfl)),
      fun S hS => g_fin rfl (g_pass' rfl rfl (lt_of rfl) rfl (lt_of rfl) (ov_en hS rfl)),
      fun S hS => g_fin rfl (g_pass rfl rfl (lt_of rfl) rfl (lt_of rfl) (ov_en hS rfl) c13),
      fun S hS => g_fin rfl (g_op rfl (s_pick_f (v := .d (.lit (.bool false))) (lt_of rfl) (ov_ev hS rfl) c13 rfl rfl)), trivial⟩⟩
          · exact ent_le (le_upd rfl (le_keep ⟨rfl, rfl, rfl, rfl, rfl, trivial⟩))
      · refine tr_nil ?_
        refine tr_if rfl (fun c25 => ?_) (fun c25 => ?_)
        · have h := cond_tt c25 h
          refine tr_region ?_
          refine tr1 rfl (s_move (v := .d (.lit (.int .i64 n_2_4))) (lt_of rfl) rfl rfl) ?_
          refine tr1 rfl (s_arith (lt_of rfl) rfl rfl rfl) ?_
          refine tr1 rfl (s_assign (v := .d (.lit (.int .i64 ((w64 (n_2_4 + 1)))))) (lt_of rfl) rfl rfl) ?_
          refine tr_nilb ?_
          refine tr_region ?_
          refine tr1 rfl (s_move (v := .d (.lit (.int .i64 k_2_4))) (lt_of rfl) rfl rfl) ?_
          refine tr1 rfl (s_arith (lt_of rfl) rfl rfl rfl) ?_
          refine tr1 rfl (s_assign (v := .d (.lit (.int .i64 ((w64 (k_2_4 + 1)))))) (lt_of rfl) rfl rfl) ?_
          refine tr_nil ?_
          exact ⟨(w64 (n_2_4 + 1), w64 (k_2_4 + 1)), h, ent_pick [] rfl rfl (le_upd rfl (le_upd rfl (le_keep ⟨rfl, rfl, rfl, trivial⟩)))⟩
        · have h := cond_ff c25 h
          refine tr_skipb ?_
          refine tr_region ?_
          refine tr1 rfl (s_move (v := .d (.lit (.int .i64 k_2_4))) (lt_of rfl) rfl rfl) ?_
          refine tr1 rfl (s_arith (lt_of rfl) rfl rfl rfl) ?_
          refine tr1 rfl (s_assign (v := .d (.lit (.int .i64 ((w64 (k_2_4 + 1)))))) (lt_of rfl) rfl rfl) ?_
          refine tr_nil ?_
          exact ⟨(n_2_4, w64 (k_2_4 + 1)), h, ent_pick [] rfl rfl (le_upd rfl (le_upd rfl (le_keep ⟨rfl, rfl, rfl, trivial⟩)))⟩
    · have h := cond_ff c6 h
      refine tr_exit ?_
      refine .inl ⟨rfl, ?_⟩
      simp only [deuceref08_moved_K2] at h
      simp only [deuceref08_moved_K1] at h
      refine tr_region ?_
      refine tr1 rfl (s_move (v := .d (.lit (.int .i64 i_0_1))) (lt_of rfl) rfl rfl) ?_
      refine tr1 rfl (s_arith (lt_of rfl) rfl rfl rfl) ?_
      refine tr1 rfl (s_assign (v := .d (.lit (.int .i64 ((w64 (i_0_1 + 1)))))) (lt_of rfl) rfl rfl) ?_
      refine tr_nil ?_
      exact ⟨(n_2_4, w64 (i_0_1 + 1)), h, ent_pick [] rfl rfl (le_upd rfl (le_upd rfl (le_keep ⟨rfl, rfl, trivial⟩)))⟩
  · have h := cond_ff c3 h
    refine tr_exit ?_
    refine .inl ⟨rfl, ?_⟩
    simp only [deuceref08_moved_K0] at h
    refine tr_seq ?_
    refine tr_region ?_
    refine tr1 rfl (s_move (v := .d (.lit (.int .i64 n_0_1))) (lt_of rfl) rfl rfl) ?_
    refine tr1 rfl (s_assign (v := .d (.lit (.int .i64 n_0_1))) (lt_of rfl) rfl rfl) ?_
    refine tr_nil ?_
    have h := Option.some.inj h
    subst h
    exact tr_ret ⟨rfl, _, .one _, rfl, rfl⟩

theorem deuceref08_Moved_c (order_0 : List ApiSeat) (old_1 : List ApiSeat) {r : Int} (h : deuceref08_Moved order_0 old_1 = some r) : Fn Try.prog 34 [.d (.sl 3 (order_0.map encApiSeat)), .d (.sl 3 (old_1.map encApiSeat))] (.d (.lit (.int .i64 r))) := by
  unfold deuceref08_Moved at h
  refine Fn.of_tr Try.func34 rfl (rs := [.tmp 4]) Try.results34 Try.ntmps34 (Nat.le_of_ble_eq_true rfl) ?_
  refine tr_seq ?_
  refine tr_region ?_
  refine tr1 rfl (s_assign (v := .d (.lit (.int .i64 0))) (lt_of rfl) rfl rfl) ?_
  refine tr_nil ?_
  refine tr_seq ?_
  refine tr_region ?_
  refine tr1 rfl (s_move (v := .d (.sl 3 (order_0.map encApiSeat))) (lt_of rfl) rfl rfl) ?_
  refine tr1 rfl (s_move (v := .d (.sl 3 (old_1.map encApiSeat))) (lt_of rfl) rfl rfl) ?_
  obtain ⟨r1, h2, h⟩ := bind_some h
  refine tr1 rfl (s_call (lt_of rfl) (.func _ _ Try.call69) rfl rfl (BVs.refl _ _) (deuceref08_moved_c _ _ h2) rfl) ?_
  refine tr1 rfl (s_assign (v := .d (.lit (.int .i64 r1))) (lt_of rfl) rfl rfl) ?_
  refine tr_nil ?_
  have h := Option.some.inj h
  subst h
  exact tr_ret ⟨rfl, _, .one _, rfl, rfl⟩

theorem deucelaw08_PlayMoves_c (p_0 : ApiProgram) (old_1 : List ApiSeat) (other_2 : List ApiSeat) {r : Bool} (h : deucelaw08_PlayMoves p_0 old_1 other_2 = some r) : Fn Try.prog 7 [.agg (encApiProgram p_0), .d (.sl 3 (old_1.map encApiSeat)), .d (.sl 3 (other_2.map encApiSeat))] (.d (.lit (.bool r))) := by
  unfold deucelaw08_PlayMoves at h
  refine Fn.of_tr Try.func7 rfl (rs := [.tmp 6]) Try.results7 Try.ntmps7 (Nat.le_of_ble_eq_true rfl) ?_
  refine tr_seq ?_
  refine tr_region ?_
  refine tr_op rfl (s_box (v := .agg (encApiProgram p_0)) (lt_of rfl) rfl rfl rfl) ?_
  rintro _ ⟨b1, rfl⟩
  refine tr1 rfl (s_assign (v := .d (.lit (.bool false))) (lt_of rfl) rfl rfl) ?_
  refine tr_nil ?_
  refine tr_seq ?_
  refine tr_seq ?_
  refine tr_region ?_
  refine tr1 rfl (s_loada_bp (lt_of rfl) rfl (i := 0) rfl agg_25 (es := (encApiProgram p_0)) rfl rfl) ?_
  obtain ⟨r2, h3, h⟩ := bind_some h
  refine tr1 rfl (s_call (lt_of rfl) (.func _ _ Try.call21) rfl rfl (BVs.refl _ _) (deucelaw08_ready_c _ h3) rfl) ?_
  refine tr1 rfl (s_not (lt_of rfl) rfl) ?_
  refine tr1 rfl (s_move (v := .d (.lit (.bool (!r2)))) (lt_of rfl) rfl rfl) ?_
  obtain ⟨b4, h5, h⟩ := bind_some h
  refine tr_guard 5 [1, 2, 3] 29 b4 ?_ ?_
  · refine bool_cases (!r2) (fun c120 => ?_) (fun c120 => ?_)
    · have h5 := cond_tt c120 h5
      refine tr_pass rfl rfl (lt_of rfl) rfl (lt_of rfl) rfl c120 ?_
      refine tr_pass rfl rfl (lt_of rfl) rfl (lt_of rfl) rfl c120 ?_
      refine tr_pass rfl rfl (lt_of rfl) rfl (lt_of rfl) rfl c120 ?_
      refine tr_pass rfl rfl (lt_of rfl) rfl (lt_of rfl) rfl c120 ?_
      refine tr1 rfl (s_pick_t (v := .d (.lit (.bool true))) (lt_of rfl) rfl c120 rfl rfl) ?_
      have h5 := Option.some.inj h5
      subst h5
      refine tr_nil (ent_keep rfl ⟨rfl, rfl, rfl, trivial⟩ rfl)
    · have h5 := cond_ff c120 h5
      refine tr_take1 rfl rfl (lt_of rfl) rfl c120 (s_loada_bp (lt_of rfl) rfl (i := 0) rfl agg_25 (es := (encApiProgram p_0)) rfl rfl) ?_
      refine tr_take1 rfl rfl (lt_of rfl) rfl c120 (s_move (v := .d (.sl 3 (old_1.map encApiSeat))) (lt_of rfl) rfl rfl) ?_
      obtain ⟨r121, h122, h5⟩ := bind_some h5
      refine tr_take1 rfl rfl (lt_of rfl) rfl c120 (s_call (lt_of rfl) (.func _ _ Try.call31) rfl rfl (BVs.refl _ _) (deuceref08_IsOld_c _ _ h122) rfl) ?_
      refine tr_take1 rfl rfl (lt_of rfl) rfl c120 (s_not (lt_of rfl) rfl) ?_
      refine tr1 rfl (s_pick_f (v := .d (.lit (.bool (!r121)))) (lt_of rfl) rfl c120 rfl rfl) ?_
      have h5 := Option.some.inj h5
      subst h5
      refine tr_nil (ent_keep rfl ⟨rfl, rfl, rfl, trivial⟩ rfl)
  · refine tr1 rfl (s_move (v := .d (.lit (.bool b4))) (lt_of rfl) rfl rfl) ?_
    obtain ⟨b6, h7, h⟩ := bind_some h
    refine tr_guard 4 [1, 2, 3] 34 b6 ?_ ?_
    · refine bool_cases (b4) (fun c119 => ?_) (fun c119 => ?_)
      · have h7 := cond_tt c119 h7
        refine tr_pass rfl rfl (lt_of rfl) rfl (lt_of rfl) rfl c119 ?_
        refine tr_pass rfl rfl (lt_of rfl) rfl (lt_of rfl) rfl c119 ?_
        refine tr_pass rfl rfl (lt_of rfl) rfl (lt_of rfl) rfl c119 ?_
        refine tr1 rfl (s_pick_t (v := .d (.lit (.bool true))) (lt_of rfl) rfl c119 rfl rfl) ?_
        have h7 := Option.some.inj h7
        subst h7
        refine tr_nil (ent_keep rfl ⟨rfl, rfl, rfl, trivial⟩ rfl)
      · have h7 := cond_ff c119 h7
        refine tr_take1 rfl rfl (lt_of rfl) rfl c119 (s_move (v := .d (.sl 3 (other_2.map encApiSeat))) (lt_of rfl) rfl rfl) ?_
        refine tr_take1 rfl rfl (lt_of rfl) rfl c119 (s_lenm (lt_of rfl) rfl sl_26.of) ?_
        refine tr_take1 rfl rfl (lt_of rfl) rfl c119 (s_cmp (lt_of rfl) rfl rfl rfl) ?_
        refine tr1 rfl (s_pick_f (v := .d (.lit (.bool ((decide (20 < (other_2.length : Int))))))) (lt_of rfl) rfl c119 rfl rfl) ?_
        have h7 := Option.some.inj h7
        subst h7
        refine tr_nil (ent_keep rfl ⟨rfl, rfl, rfl, trivial⟩ rfl)
    · refine tr_nil ?_
      refine tr_if rfl (fun c8 => ?_) (fun c8 => ?_)
      · have h := cond_tt c8 h
        refine tr_seq ?_
        refine tr_region ?_
        obtain ⟨r9, h10, h⟩ := bind_some h
        refine tr1 rfl (s_call (lt_of rfl) (.func _ _ Try.call16) rfl rfl (BVs.refl _ _) (deucelaw08_works_c h10) rfl) ?_
        refine tr1 rfl (s_assign (v := .d (.lit (.bool r9))) (lt_of rfl) rfl rfl) ?_
        refine tr_nil ?_
        have h := Option.some.inj h
        subst h
        refine tr_ent (ent_free (ble_keep (l := [6]) ⟨rfl, trivial⟩)) ?_
        exact tr_ret ⟨rfl, _, .one _, rfl, rfl⟩
      · have h := cond_ff c8 h
        refine tr_skip ?_
        refine tr_seq ?_
        refine tr_region ?_
        refine tr1 rfl (s_loada_bp (lt_of rfl) rfl (i := 0) rfl agg_25 (es := (encApiProgram p_0)) rfl rfl) ?_
        refine tr1 rfl (s_move (v := .d (.sl 3 (old_1.map encApiSeat))) (lt_of rfl) rfl rfl) ?_
        obtain ⟨r11, h12, h⟩ := bind_some h
        refine tr1 rfl (s_call (lt_of rfl) (.func _ _ Try.call32) rfl rfl (BVs.refl _ _) (play_Fewest_c _ _ h12) rfl) ?_
        refine tr1 rfl (s_move (v := .tup [.d (.lit (.int .i64 r11.1)), .d (.lit (.int .i64 r11.2))]) (lt_of rfl) rfl rfl) ?_
        refine tr1 rfl (s_extract (lt_of rfl) rfl rfl) ?_
        refine tr1 rfl (s_extract (lt_of rfl) rfl rfl) ?_
        refine tr1 rfl (s_assign (v := .d (.lit (.int .i64 r11.1))) (lt_of rfl) rfl rfl) ?_
        refine tr1 rfl (s_assign (v := .d (.lit (.int .i64 r11.2))) (lt_of rfl) rfl rfl) ?_
        refine tr_nil ?_
        refine tr_seq ?_
        refine tr_region ?_
        refine tr1 rfl (s_loada_bp (lt_of rfl) rfl (i := 0) rfl agg_25 (es := (encApiProgram p_0)) rfl rfl) ?_
        refine tr1 rfl (s_move (v := .d (.sl 3 (old_1.map encApiSeat))) (lt_of rfl) rfl rfl) ?_
        obtain ⟨r13, h14, h⟩ := bind_some h
        refine tr1 rfl (s_callf (lt_of rfl) (.func _ _ Try.call33) rfl rfl (play_Repair_c _ _ h14)) ?_
        refine tr1 rfl (s_move (v := .tup [.d (.sl 3 (r13.1.map encApiSeat)), .d (.lit (.int .i64 r13.2))]) (lt_of rfl) rfl rfl) ?_
        refine tr1 rfl (s_extract (lt_of rfl) rfl rfl) ?_
        refine tr1 rfl (s_extract (lt_of rfl) rfl rfl) ?_
        refine tr1 rfl (s_assign (v := .d (.sl 3 (r13.1.map encApiSeat))) (lt_of rfl) rfl rfl) ?_
        refine tr1 rfl (s_assign (v := .d (.lit (.int .i64 r13.2))) (lt_of rfl) rfl rfl) ?_
        refine tr_nil ?_
        refine tr_seq ?_
        refine tr_seq ?_
        refine tr_region ?_
        refine tr1 rfl (s_move (v := .d (.lit (.int .i64 r11.2))) (lt_of rfl) rfl rfl) ?_
        refine tr1 rfl (s_move (v := .d (.lit (.int .i64 r13.2))) (lt_of rfl) rfl rfl) ?_
        refine tr1 rfl (s_cmp (lt_of rfl) rfl rfl rfl) ?_
        refine tr1 rfl (s_move (v := .d (.lit (.bool ((!decide (r11.2 = r13.2)))))) (lt_of rfl) rfl rfl) ?_
        obtain ⟨b15, h16, h⟩ := bind_some h
        refine tr_guard 7 [1, 2, 3, 7, 8, 9] 58 b15 ?_ ?_
        · refine bool_cases (!decide (r11.2 = r13.2)) (fun c115 => ?_) (fun c115 => ?_)
          · have h16 := cond_tt c115 h16
            refine tr_pass rfl rfl (lt_of rfl) rfl (lt_of rfl) rfl c115 ?_
            refine tr_pass rfl rfl (lt_of rfl) rfl (lt_of rfl) rfl c115 ?_
            refine tr_pass rfl rfl (lt_of rfl) rfl (lt_of rfl) rfl c115 ?_
            refine tr_pass' rfl rfl (lt_of rfl) rfl (lt_of rfl) rfl ?_
            refine tr_pass' rfl rfl (lt_of rfl) rfl (lt_of rfl) rfl ?_
            refine tr_pass rfl rfl (lt_of rfl) rfl (lt_of rfl) rfl c115 ?_
            refine tr1 rfl (s_pick_t (v := .d (.lit (.bool true))) (lt_of rfl) rfl c115 rfl rfl) ?_
            have h16 := Option.some.inj h16
            subst h16
            refine tr_nil (ent_keep rfl ⟨rfl, rfl, rfl, rfl, rfl, rfl, trivial⟩ rfl)
          · have h16 := cond_ff c115 h16
            refine tr_take1 rfl rfl (lt_of rfl) rfl c115 (s_move (v := .d (.lit (.int .i64 r11.2))) (lt_of rfl) rfl rfl) ?_
            refine tr_take1 rfl rfl (lt_of rfl) rfl c115 (s_cmp (lt_of rfl) rfl rfl rfl) ?_
            refine tr_take1 rfl rfl (lt_of rfl) rfl c115 (s_move (v := .d (.lit (.bool ((!decide (r11.2 = 0)))))) (lt_of rfl) rfl rfl) ?_
            obtain ⟨b116, h117, h16⟩ := bind_some h16
            refine tr_guard 3 [1, 2, 3, 7, 8, 9, 51] 57 b116 ?_ ?_
            · refine bool_cases (!decide (r11.2 = 0)) (fun c118 => ?_) (fun c118 => ?_)
              · have h117 := cond_tt c118 h117
                refine tr_take1 rfl rfl (lt_of rfl) rfl c118 (s_move (v := .d (.lit (.int .i64 r11.2))) (lt_of rfl) rfl rfl) ?_
                refine tr_take1 rfl rfl (lt_of rfl) rfl c118 (s_cmp (lt_of rfl) rfl rfl rfl) ?_
                refine tr_take1 rfl rfl (lt_of rfl) rfl c115 (s_pick_t (v := .d (.lit (.bool ((!decide (r11.2 = 3)))))) (lt_of rfl) rfl c118 rfl rfl) ?_
                have h117 := Option.some.inj h117
                subst h117
                refine tr_nil (ent_keep rfl ⟨rfl, rfl, rfl, rfl, rfl, rfl, rfl, trivial⟩ rfl)
              · have h117 := cond_ff c118 h117
                refine tr_pass rfl rfl (lt_of rfl) rfl (lt_of rfl) rfl c118 ?_
                refine tr_pass rfl rfl (lt_of rfl) rfl (lt_of rfl) rfl c118 ?_
                refine tr_take1 rfl rfl (lt_of rfl) rfl c115 (s_pick_f (v := .d (.lit (.bool false))) (lt_of rfl) rfl c118 rfl rfl) ?_
                have h117 := Option.some.inj h117
                subst h117
                refine tr_nil (ent_keep rfl ⟨rfl, rfl, rfl, rfl, rfl, rfl, rfl, trivial⟩ rfl)
            · refine tr1 rfl (s_pick_f (v := .d (.lit (.bool b116))) (lt_of rfl) rfl c115 rfl rfl) ?_
              have h16 := Option.some.inj h16
              subst h16
              refine tr_nil (ent_keep rfl ⟨rfl, rfl, rfl, rfl, rfl, rfl, trivial⟩ rfl)
        · refine tr1 rfl (s_move (v := .d (.lit (.bool b15))) (lt_of rfl) rfl rfl) ?_
          obtain ⟨b17, h18, h⟩ := bind_some h
          refine tr_guard 4 [1, 2, 3, 7, 8, 9] 63 b17 ?_ ?_
          · refine bool_cases (b15) (fun c114 => ?_) (fun c114 => ?_)
            · have h18 := cond_tt c114 h18
              refine tr_pass rfl rfl (lt_of rfl) rfl (lt_of rfl) rfl c114 ?_
              refine tr_pass rfl rfl (lt_of rfl) rfl (lt_of rfl) rfl c114 ?_
              refine tr_pass rfl rfl (lt_of rfl) rfl (lt_of rfl) rfl c114 ?_
              refine tr1 rfl (s_pick_t (v := .d (.lit (.bool true))) (lt_of rfl) rfl c114 rfl rfl) ?_
              have h18 := Option.some.inj h18
              subst h18
              refine tr_nil (ent_keep rfl ⟨rfl, rfl, rfl, rfl, rfl, rfl, trivial⟩ rfl)
            · have h18 := cond_ff c114 h18
              refine tr_take1 rfl rfl (lt_of rfl) rfl c114 (s_move (v := .d (.sl 3 (r13.1.map encApiSeat))) (lt_of rfl) rfl rfl) ?_
              refine tr_take1 rfl rfl (lt_of rfl) rfl c114 (s_lenm (lt_of rfl) rfl sl_26.of) ?_
              refine tr_take1 rfl rfl (lt_of rfl) rfl c114 (s_cmp (lt_of rfl) rfl rfl rfl) ?_
              refine tr1 rfl (s_pick_f (v := .d (.lit (.bool ((decide (20 < (r13.1.length : Int))))))) (lt_of rfl) rfl c114 rfl rfl) ?_
              have h18 := Option.some.inj h18
              subst h18
              refine tr_nil (ent_keep rfl ⟨rfl, rfl, rfl, rfl, rfl, rfl, trivial⟩ rfl)
          · refine tr_nil ?_
            refine tr_if rfl (fun c19 => ?_) (fun c19 => ?_)
            · have h := cond_tt c19 h
              refine tr_seq ?_
              refine tr_region ?_
              refine tr1 rfl (s_assign (v := .d (.lit (.bool false))) (lt_of rfl) rfl rfl) ?_
              refine tr_nil ?_
              have h := Option.some.inj h
              subst h
              refine tr_ent (ent_free (ble_keep (l := [6]) ⟨rfl, trivial⟩)) ?_
              exact tr_ret ⟨rfl, _, .one _, rfl, rfl⟩
            · have h := cond_ff c19 h
              refine tr_skip ?_
              refine tr_seq ?_
              refine tr_region ?_
              refine tr1 rfl (s_assign (v := .d (.lit (.bool false))) (lt_of rfl) rfl rfl) ?_
              refine tr_nil ?_
              refine tr_seq ?_
              refine tr_seq ?_
              refine tr_region ?_
              refine tr1 rfl (s_loada_bp (lt_of rfl) rfl (i := 0) rfl agg_25 (es := (encApiProgram p_0)) rfl rfl) ?_
              refine tr1 rfl (s_move (v := .d (.sl 3 (other_2.map encApiSeat))) (lt_of rfl) rfl rfl) ?_
              obtain ⟨r20, h21, h⟩ := bind_some h
              refine tr1 rfl (s_call (lt_of rfl) (.func _ _ Try.call15) rfl rfl (BVs.refl _ _) (deuceref08_IsOrder_c _ _ h21) rfl) ?_
              refine tr_nil ?_
              refine tr_if rfl (fun c22 => ?_) (fun c22 => ?_)
              · have h := cond_tt c22 h
                refine tr_seq ?_
                refine tr_region ?_
                refine tr1 rfl (s_loada_bp (lt_of rfl) rfl (i := 0) rfl agg_25 (es := (encApiProgram p_0)) rfl rfl) ?_
                refine tr1 rfl (s_move (v := .d (.sl 3 (other_2.map encApiSeat))) (lt_of rfl) rfl rfl) ?_
                obtain ⟨r23, h24, h⟩ := bind_some h
                refine tr1 rfl (s_call (lt_of rfl) (.func _ _ Try.call18) rfl rfl (BVs.refl _ _) (play_Fits_c _ _ h24) rfl) ?_
                refine tr1 rfl (s_move (v := .tup [.d (.lit (.bool r23.1)), .d (.lit (.int .i64 r23.2.1)), .d (.lit (.int .i64 r23.2.2))]) (lt_of rfl) rfl rfl) ?_
                refine tr1 rfl (s_extract (lt_of rfl) rfl rfl) ?_
                refine tr1 rfl (s_extract (lt_of rfl) rfl rfl) ?_
                refine tr1 rfl (s_extract (lt_of rfl) rfl rfl) ?_
                refine tr1 rfl (s_assign (v := .d (.lit (.bool r23.1))) (lt_of rfl) rfl rfl) ?_
                refine tr1 rfl (s_assign (v := .d (.lit (.int .i64 r23.2.1))) (lt_of rfl) rfl rfl) ?_
                refine tr1 rfl (s_assign (v := .d (.lit (.int .i64 r23.2.2))) (lt_of rfl) rfl rfl) ?_
                refine tr_nil ?_
                refine tr_seq ?_
                refine tr_seq ?_
                refine tr_region ?_
                refine tr1 rfl (s_move (v := .d (.lit (.int .i64 r23.2.2))) (lt_of rfl) rfl rfl) ?_
                refine tr1 rfl (s_cmp (lt_of rfl) rfl rfl rfl) ?_
                refine tr_nil ?_
                refine tr_if rfl (fun c25 => ?_) (fun c25 => ?_)
                · have h := cond_tt c25 h
                  refine tr_seq ?_
                  refine tr_region ?_
                  refine tr1 rfl (s_assign (v := .d (.lit (.bool false))) (lt_of rfl) rfl rfl) ?_
                  refine tr_nil ?_
                  have h := Option.some.inj h
                  subst h
                  refine tr_ent (ent_free (ble_keep (l := [6]) ⟨rfl, trivial⟩)) ?_
                  exact tr_ret ⟨rfl, _, .one _, rfl, rfl⟩
                · have h := cond_ff c25 h
                  refine tr_skip ?_
                  refine tr_region ?_
                  refine tr1 rfl (s_move (v := .d (.lit (.bool r23.1))) (lt_of rfl) rfl rfl) ?_
                  refine tr1 rfl (s_assign (v := .d (.lit (.bool r23.1))) (lt_of rfl) rfl rfl) ?_
                  refine tr_nil ?_
                  refine tr_seq ?_
                  refine tr_seq ?_
                  refine tr_region ?_
                  refine tr1 rfl (s_move (v := .d (.lit (.int .i64 r11.2))) (lt_of rfl) rfl rfl) ?_
                  refine tr1 rfl (s_cmp (lt_of rfl) rfl rfl rfl) ?_
                  refine tr_nil ?_
                  refine tr_if rfl (fun c26 => ?_) (fun c26 => ?_)
                  · have h := cond_tt c26 h
                    refine tr_seq ?_
                    refine tr_region ?_
                    refine tr1 rfl (s_move (v := .d (.lit (.bool r23.1))) (lt_of rfl) rfl rfl) ?_
                    refine tr1 rfl (s_not (lt_of rfl) rfl) ?_
                    refine tr1 rfl (s_move (v := .d (.lit (.bool (!r23.1)))) (lt_of rfl) rfl rfl) ?_
                    obtain ⟨b27, h28, h⟩ := bind_some h
                    refine tr_guard 2 [] 83 b27 ?_ ?_
                    · refine bool_cases (!r23.1) (fun c29 => ?_) (fun c29 => ?_)
                      · have h28 := cond_tt c29 h28
                        obtain ⟨r30, h31, h28⟩ := bind_some h28
                        refine tr_take1 rfl rfl (lt_of rfl) rfl c29 (s_call (lt_of rfl) (.func _ _ Try.call16) rfl rfl (BVs.refl _ _) (deucelaw08_works_c h31) rfl) ?_
                        refine tr1 rfl (s_pick_t (v := .d (.lit (.bool r30))) (lt_of rfl) rfl c29 rfl rfl) ?_
                        have h28 := Option.some.inj h28
                        subst h28
                        refine tr_nil (ent_keep rfl trivial rfl)
                      · have h28 := cond_ff c29 h28
                        refine tr_pass rfl rfl (lt_of rfl) rfl (lt_of rfl) rfl c29 ?_
                        refine tr1 rfl (s_pick_f (v := .d (.lit (.bool false))) (lt_of rfl) rfl c29 rfl rfl) ?_
                        have h28 := Option.some.inj h28
                        subst h28
                        refine tr_nil (ent_keep rfl trivial rfl)
                    · refine tr1 rfl (s_assign (v := .d (.lit (.bool b27))) (lt_of rfl) rfl rfl) ?_
                      refine tr_nil ?_
                      have h := Option.some.inj h
                      subst h
                      refine tr_ent (ent_free (ble_keep (l := [6]) ⟨rfl, trivial⟩)) ?_
                      exact tr_ret ⟨rfl, _, .one _, rfl, rfl⟩
                  · have h := cond_ff c26 h
                    refine tr_skip ?_
                    refine tr_seq ?_
                    refine tr_seq ?_
                    refine tr_region ?_
                    refine tr1 rfl (s_loada_bp (lt_of rfl) rfl (i := 0) rfl agg_25 (es := (encApiProgram p_0)) rfl rfl) ?_
                    refine tr1 rfl (s_move (v := .d (.sl 3 (r13.1.map encApiSeat))) (lt_of rfl) rfl rfl) ?_
                    obtain ⟨r32, h33, h⟩ := bind_some h
                    refine tr1 rfl (s_call (lt_of rfl) (.func _ _ Try.call15) rfl rfl (BVs.refl _ _) (deuceref08_IsOrder_c _ _ h33) rfl) ?_
                    refine tr1 rfl (s_not (lt_of rfl) rfl) ?_
                    refine tr1 rfl (s_move (v := .d (.lit (.bool (!r32)))) (lt_of rfl) rfl rfl) ?_
                    obtain ⟨b34, h35, h⟩ := bind_some h
                    refine tr_guard 6 [1, 2, 3, 7, 9, 11] 94 b34 ?_ ?_
                    · refine bool_cases (!r32) (fun c67 => ?_) (fun c67 => ?_)
                      · have h35 := cond_tt c67 h35
                        refine tr_pass rfl rfl (lt_of rfl) rfl (lt_of rfl) rfl c67 ?_
                        refine tr_pass rfl rfl (lt_of rfl) rfl (lt_of rfl) rfl c67 ?_
                        refine tr_pass rfl rfl (lt_of rfl) rfl (lt_of rfl) rfl c67 ?_
                        refine tr_pass rfl rfl (lt_of rfl) rfl (lt_of rfl) rfl c67 ?_
                        refine tr_pass rfl rfl (lt_of rfl) rfl (lt_of rfl) rfl c67 ?_
                        refine tr1 rfl (s_pick_t (v := .d (.lit (.bool true))) (lt_of rfl) rfl c67 rfl rfl) ?_
                        have h35 := Option.some.inj h35
                        subst h35
                        refine tr_nil (ent_keep rfl ⟨rfl, rfl, rfl, rfl, rfl, rfl, trivial⟩ rfl)
                      · have h35 := cond_ff c67 h35
                        refine tr_take1 rfl rfl (lt_of rfl) rfl c67 (s_move (v := .d (.sl 3 (r13.1.map encApiSeat))) (lt_of rfl) rfl rfl) ?_
                        refine tr_take1 rfl rfl (lt_of rfl) rfl c67 (s_move (v := .d (.sl 3 (old_1.map encApiSeat))) (lt_of rfl) rfl rfl) ?_
                        obtain ⟨r68, h69, h35⟩ := bind_some h35
                        refine tr_take1 rfl rfl (lt_of rfl) rfl c67 (s_call (lt_of rfl) (.func _ _ Try.call34) rfl rfl (BVs.refl _ _) (deuceref08_Moved_c _ _ h69) rfl) ?_
                        refine tr_take1 rfl rfl (lt_of rfl) rfl c67 (s_move (v := .d (.lit (.int .i64 r11.1))) (lt_of rfl) rfl rfl) ?_
                        refine tr_take1 rfl rfl (lt_of rfl) rfl c67 (s_cmp (lt_of rfl) rfl rfl rfl) ?_
                        refine tr1 rfl (s_pick_f (v := .d (.lit (.bool ((!decide (r68 = r11.1)))))) (lt_of rfl) rfl c67 rfl rfl) ?_
                        have h35 := Option.some.inj h35
                        subst h35
                        refine tr_nil (ent_keep rfl ⟨rfl, rfl, rfl, rfl, rfl, rfl, trivial⟩ rfl)
                    · refine tr1 rfl (s_move (v := .d (.lit (.bool b34))) (lt_of rfl) rfl rfl) ?_
                      obtain ⟨b36, h37, h⟩ := bind_some h
                      refine tr_guard 9 [1, 3, 7, 9] 104 b36 ?_ ?_
                      · refine bool_cases (b34) (fun c61 => ?_) (fun c61 => ?_)
                        · have h37 := cond_tt c61 h37
                          refine tr_pass rfl rfl (lt_of rfl) rfl (lt_of rfl) rfl c61 ?_
                          refine tr_pass rfl rfl (lt_of rfl) rfl (lt_of rfl) rfl c61 ?_
                          refine tr_pass' rfl rfl (lt_of rfl) rfl (lt_of rfl) rfl ?_
                          refine tr_pass' rfl rfl (lt_of rfl) rfl (lt_of rfl) rfl ?_
                          refine tr_pass' rfl rfl (lt_of rfl) rfl (lt_of rfl) rfl ?_
                          refine tr_pass' rfl rfl (lt_of rfl) rfl (lt_of rfl) rfl ?_
                          refine tr_pass' rfl rfl (lt_of rfl) rfl (lt_of rfl) rfl ?_
                          refine tr_pass rfl rfl (lt_of rfl) rfl (lt_of rfl) rfl c61 ?_
                          refine tr1 rfl (s_pick_t (v := .d (.lit (.bool true))) (lt_of rfl) rfl c61 rfl rfl) ?_
                          have h37 := Option.some.inj h37
                          subst h37
                          refine tr_nil (ent_keep rfl ⟨rfl, rfl, rfl, rfl, trivial⟩ rfl)
                        · have h37 := cond_ff c61 h37
                          refine tr_take1 rfl rfl (lt_of rfl) rfl c61 (s_move (v := .d (.lit (.bool r23.1))) (lt_of rfl) rfl rfl) ?_
                          refine tr_take1 rfl rfl (lt_of rfl) rfl c61 (s_move (v := .d (.lit (.bool r23.1))) (lt_of rfl) rfl rfl) ?_
                          obtain ⟨b62, h63, h37⟩ := bind_some h37
                          refine tr_guard 6 [1, 3, 7, 9, 95] 103 b62 ?_ ?_
                          · refine bool_cases (r23.1) (fun c64 => ?_) (fun c64 => ?_)
                            · have h63 := cond_tt c64 h63
                              refine tr_take1 rfl rfl (lt_of rfl) rfl c64 (s_move (v := .d (.sl 3 (other_2.map encApiSeat))) (lt_of rfl) rfl rfl) ?_
                              refine tr_take1 rfl rfl (lt_of rfl) rfl c64 (s_move (v := .d (.sl 3 (old_1.map encApiSeat))) (lt_of rfl) rfl rfl) ?_
                              obtain ⟨r65, h66, h63⟩ := bind_some h63
                              refine tr_take1 rfl rfl (lt_of rfl) rfl c64 (s_call (lt_of rfl) (.func _ _ Try.call34) rfl rfl (BVs.refl _ _) (deuceref08_Moved_c _ _ h66) rfl) ?_
                              refine tr_take1 rfl rfl (lt_of rfl) rfl c64 (s_move (v := .d (.lit (.int .i64 r11.1))) (lt_of rfl) rfl rfl) ?_
                              refine tr_take1 rfl rfl (lt_of rfl) rfl c64 (s_cmp (lt_of rfl) rfl rfl rfl) ?_
                              refine tr_take1 rfl rfl (lt_of rfl) rfl c61 (s_pick_t (v := .d (.lit (.bool ((decide (r65 < r11.1)))))) (lt_of rfl) rfl c64 rfl rfl) ?_
                              have h63 := Option.some.inj h63
                              subst h63
                              refine tr_nil (ent_keep rfl ⟨rfl, rfl, rfl, rfl, rfl, trivial⟩ rfl)
                            · have h63 := cond_ff c64 h63
                              refine tr_pass rfl rfl (lt_of rfl) rfl (lt_of rfl) rfl c64 ?_
                              refine tr_pass rfl rfl (lt_of rfl) rfl (lt_of rfl) rfl c64 ?_
                              refine tr_pass rfl rfl (lt_of rfl) rfl (lt_of rfl) rfl c64 ?_
                              refine tr_pass rfl rfl (lt_of rfl) rfl (lt_of rfl) rfl c64 ?_
                              refine tr_pass rfl rfl (lt_of rfl) rfl (lt_of rfl) rfl c64 ?_
                              refine tr_take1 rfl rfl (lt_of rfl) rfl c61 (s_pick_f (v := .d (.lit (.bool false))) (lt_of rfl) rfl c64 rfl rfl) ?_
                              have h63 := Option.some.inj h63
                              subst h63
                              refine tr_nil (ent_keep rfl ⟨rfl, rfl, rfl, rfl, rfl, trivial⟩ rfl)
                          · refine tr1 rfl (s_pick_f (v := .d (.lit (.bool b62))) (lt_of rfl) rfl c61 rfl rfl) ?_
                            have h37 := Option.some.inj h37
                            subst h37
                            refine tr_nil (ent_keep rfl ⟨rfl, rfl, rfl, rfl, trivial⟩ rfl)
                      · refine tr_nil ?_
                        refine tr_if rfl (fun c38 => ?_) (fun c38 => ?_)
                        · have h := cond_tt c38 h
                          refine tr_seq ?_
                          refine tr_region ?_
                          refine tr1 rfl (s_assign (v := .d (.lit (.bool false))) (lt_of rfl) rfl rfl) ?_
                          refine tr_nil ?_
                          have h := Option.some.inj h
                          subst h
                          refine tr_ent (ent_free (ble_keep (l := [6]) ⟨rfl, trivial⟩)) ?_
                          exact tr_ret ⟨rfl, _, .one _, rfl, rfl⟩
                        · have h := cond_ff c38 h
                          refine tr_skip ?_
                          refine tr_seq ?_
                          refine tr_region ?_
                          refine tr1 rfl (s_loada_bp (lt_of rfl) rfl (i := 0) rfl agg_25 (es := (encApiProgram p_0)) rfl rfl) ?_
                          refine tr1 rfl (s_move (v := .d (.sl 3 (r13.1.map encApiSeat))) (lt_of rfl) rfl rfl) ?_
                          obtain ⟨r39, h40, h⟩ := bind_some h
                          refine tr1 rfl (s_call (lt_of rfl) (.func _ _ Try.call18) rfl rfl (BVs.refl _ _) (play_Fits_c _ _ h40) rfl) ?_
                          refine tr1 rfl (s_move (v := .tup [.d (.lit (.bool r39.1)), .d (.lit (.int .i64 r39.2.1)), .d (.lit (.int .i64 r39.2.2))]) (lt_of rfl) rfl rfl) ?_
                          refine tr1 rfl (s_extract (lt_of rfl) rfl rfl) ?_
                          refine tr1 rfl (s_extract (lt_of rfl) rfl rfl) ?_
                          refine tr1 rfl (s_extract (lt_of rfl) rfl rfl) ?_
                          refine tr1 rfl (s_assign (v := .d (.lit (.bool r39.1))) (lt_of rfl) rfl rfl) ?_
                          refine tr1 rfl (s_assign (v := .d (.lit (.int .i64 r39.2.1))) (lt_of rfl) rfl rfl) ?_
                          refine tr1 rfl (s_assign (v := .d (.lit (.int .i64 r39.2.2))) (lt_of rfl) rfl rfl) ?_
                          refine tr_nil ?_
                          refine tr_seq ?_
                          refine tr_seq ?_
                          refine tr_region ?_
                          refine tr1 rfl (s_move (v := .d (.lit (.int .i64 r39.2.2))) (lt_of rfl) rfl rfl) ?_
                          refine tr1 rfl (s_cmp (lt_of rfl) rfl rfl rfl) ?_
                          refine tr1 rfl (s_move (v := .d (.lit (.bool ((!decide (r39.2.2 = 0)))))) (lt_of rfl) rfl rfl) ?_
                          obtain ⟨b41, h42, h⟩ := bind_some h
                          refine tr_guard 3 [1, 3, 7] 117 b41 ?_ ?_
                          · refine bool_cases (!decide (r39.2.2 = 0)) (fun c60 => ?_) (fun c60 => ?_)
                            · have h42 := cond_tt c60 h42
                              refine tr_pass rfl rfl (lt_of rfl) rfl (lt_of rfl) rfl c60 ?_
                              refine tr_pass rfl rfl (lt_of rfl) rfl (lt_of rfl) rfl c60 ?_
                              refine tr1 rfl (s_pick_t (v := .d (.lit (.bool true))) (lt_of rfl) rfl c60 rfl rfl) ?_
                              have h42 := Option.some.inj h42
                              subst h42
                              refine tr_nil (ent_keep rfl ⟨rfl, rfl, rfl, trivial⟩ rfl)
                            · have h42 := cond_ff c60 h42
                              refine tr_take1 rfl rfl (lt_of rfl) rfl c60 (s_move (v := .d (.lit (.bool r39.1))) (lt_of rfl) rfl rfl) ?_
                              refine tr_take1 rfl rfl (lt_of rfl) rfl c60 (s_not (lt_of rfl) rfl) ?_
                              refine tr1 rfl (s_pick_f (v := .d (.lit (.bool (!r39.1)))) (lt_of rfl) rfl c60 rfl rfl) ?_
                              have h42 := Option.some.inj h42
                              subst h42
                              refine tr_nil (ent_keep rfl ⟨rfl, rfl, rfl, trivial⟩ rfl)
                          · refine tr_nil ?_
                            refine tr_if rfl (fun c43 => ?_) (fun c43 => ?_)
                            · have h := cond_tt c43 h
                              refine tr_seq ?_
                              refine tr_region ?_
                              refine tr1 rfl (s_assign (v := .d (.lit (.bool false))) (lt_of rfl) rfl rfl) ?_
                              refine tr_nil ?_
                              have h := Option.some.inj h
                              subst h
                              refine tr_ent (ent_free (ble_keep (l := [6]) ⟨rfl, trivial⟩)) ?_
                              exact tr_ret ⟨rfl, _, .one _, rfl, rfl⟩
                            · have h := cond_ff c43 h
                              refine tr_skip ?_
                              refine tr_seq ?_
                              refine tr_seq ?_
                              refine tr_region ?_
                              refine tr1 rfl (s_loada_bp (lt_of rfl) rfl (i := 0) rfl agg_25 (es := (encApiProgram p_0)) rfl rfl) ?_
                              refine tr1 rfl (s_move (v := .d (.sl 3 (old_1.map encApiSeat))) (lt_of rfl) rfl rfl) ?_
                              obtain ⟨r44, h45, h⟩ := bind_some h
                              refine tr1 rfl (s_call (lt_of rfl) (.func _ _ Try.call15) rfl rfl (BVs.refl _ _) (deuceref08_IsOrder_c _ _ h45) rfl) ?_
                              refine tr_nil ?_
                              refine tr_if rfl (fun c46 => ?_) (fun c46 => ?_)
                              · have h := cond_tt c46 h
                                refine tr_seq ?_
                                refine tr_region ?_
                                refine tr1 rfl (s_loada_bp (lt_of rfl) rfl (i := 0) rfl agg_25 (es := (encApiProgram p_0)) rfl rfl) ?_
                                refine tr1 rfl (s_move (v := .d (.sl 3 (old_1.map encApiSeat))) (lt_of rfl) rfl rfl) ?_
                                obtain ⟨r47, h48, h⟩ := bind_some h
                                refine tr1 rfl (s_call (lt_of rfl) (.func _ _ Try.call18) rfl rfl (BVs.refl _ _) (play_Fits_c _ _ h48) rfl) ?_
                                refine tr1 rfl (s_move (v := .tup [.d (.lit (.bool r47.1)), .d (.lit (.int .i64 r47.2.1)), .d (.lit (.int .i64 r47.2.2))]) (lt_of rfl) rfl rfl) ?_
                                refine tr1 rfl (s_extract (lt_of rfl) rfl rfl) ?_
                                refine tr1 rfl (s_extract (lt_of rfl) rfl rfl) ?_
                                refine tr1 rfl (s_extract (lt_of rfl) rfl rfl) ?_
                                refine tr1 rfl (s_assign (v := .d (.lit (.bool r47.1))) (lt_of rfl) rfl rfl) ?_
                                refine tr1 rfl (s_assign (v := .d (.lit (.int .i64 r47.2.1))) (lt_of rfl) rfl rfl) ?_
                                refine tr1 rfl (s_assign (v := .d (.lit (.int .i64 r47.2.2))) (lt_of rfl) rfl rfl) ?_
                                refine tr_nil ?_
                                refine tr_seq ?_
                                refine tr_region ?_
                                refine tr1 rfl (s_move (v := .d (.lit (.int .i64 r47.2.2))) (lt_of rfl) rfl rfl) ?_
                                refine tr1 rfl (s_cmp (lt_of rfl) rfl rfl rfl) ?_
                                refine tr1 rfl (s_move (v := .d (.lit (.bool ((!decide (r47.2.2 = 0)))))) (lt_of rfl) rfl rfl) ?_
                                obtain ⟨b49, h50, h⟩ := bind_some h
                                refine tr_guard 6 [] 136 b49 ?_ ?_
                                · refine bool_cases (!decide (r47.2.2 = 0)) (fun c54 => ?_) (fun c54 => ?_)
                                  · have h50 := cond_tt c54 h50
                                    refine tr_pass rfl rfl (lt_of rfl) rfl (lt_of rfl) rfl c54 ?_
                                    refine tr_pass rfl rfl (lt_of rfl) rfl (lt_of rfl) rfl c54 ?_
                                    refine tr_pass' rfl rfl (lt_of rfl) rfl (lt_of rfl) rfl ?_
                                    refine tr_pass' rfl rfl (lt_of rfl) rfl (lt_of rfl) rfl ?_
                                    refine tr_pass rfl rfl (lt_of rfl) rfl (lt_of rfl) rfl c54 ?_
                                    refine tr1 rfl (s_pick_t (v := .d (.lit (.bool true))) (lt_of rfl) rfl c54 rfl rfl) ?_
                                    have h50 := Option.some.inj h50
                                    subst h50
                                    refine tr_nil (ent_keep rfl trivial rfl)
                                  · have h50 := cond_ff c54 h50
                                    refine tr_take1 rfl rfl (lt_of rfl) rfl c54 (s_move (v := .d (.lit (.bool r47.1))) (lt_of rfl) rfl rfl) ?_
                                    refine tr_take1 rfl rfl (lt_of rfl) rfl c54 (s_move (v := .d (.lit (.bool r47.1))) (lt_of rfl) rfl rfl) ?_
                                    obtain ⟨b55, h56, h50⟩ := bind_some h50
                                    refine tr_guard 3 [130] 135 b55 ?_ ?_
                                    · refine bool_cases (r47.1) (fun c57 => ?_) (fun c57 => ?_)
                                      · have h56 := cond_tt c57 h56
                                        refine tr_take1 rfl rfl (lt_of rfl) rfl c57 (s_move (v := .d (.lit (.int .i64 r11.1))) (lt_of rfl) rfl rfl) ?_
                                        refine tr_take1 rfl rfl (lt_of rfl) rfl c57 (s_cmp (lt_of rfl) rfl rfl rfl) ?_
                                        refine tr_take1 rfl rfl (lt_of rfl) rfl c54 (s_pick_t (v := .d (.lit (.bool ((!decide (r11.1 = 0)))))) (lt_of rfl) rfl c57 rfl rfl) ?_
                                        have h56 := Option.some.inj h56
                                        subst h56
                                        refine tr_nil (ent_keep rfl ⟨rfl, trivial⟩ rfl)
                                      · have h56 := cond_ff c57 h56
                                        refine tr_pass rfl rfl (lt_of rfl) rfl (lt_of rfl) rfl c57 ?_
                                        refine tr_pass rfl rfl (lt_of rfl) rfl (lt_of rfl) rfl c57 ?_
                                        refine tr_take1 rfl rfl (lt_of rfl) rfl c54 (s_pick_f (v := .d (.lit (.bool false))) (lt_of rfl) rfl c57 rfl rfl) ?_
                                        have h56 := Option.some.inj h56
                                        subst h56
                                        refine tr_nil (ent_keep rfl ⟨rfl, trivial⟩ rfl)
                                    · refine tr1 rfl (s_pick_f (v := .d (.lit (.bool b55))) (lt_of rfl) rfl c54 rfl rfl) ?_
                                      have h50 := Option.some.inj h50
                                      subst h50
                                      refine tr_nil (ent_keep rfl trivial rfl)
                                · refine tr_nil ?_
                                  refine tr_if rfl (fun c51 => ?_) (fun c51 => ?_)
                                  · have h := cond_tt c51 h
                                    refine tr_seq ?_
                                    refine tr_region ?_
                                    refine tr1 rfl (s_assign (v := .d (.lit (.bool false))) (lt_of rfl) rfl rfl) ?_
                                    refine tr_nil ?_
                                    have h := Option.some.inj h
                                    subst h
                                    refine tr_ent (ent_free (ble_keep (l := [6]) ⟨rfl, trivial⟩)) ?_
                                    exact tr_ret ⟨rfl, _, .one _, rfl, rfl⟩
                                  · have h := cond_ff c51 h
                                    refine tr_skip ?_
                                    refine tr_seq ?_
                                    refine tr_region ?_
                                    obtain ⟨r52, h53, h⟩ := bind_some h
                                    refine tr1 rfl (s_call (lt_of rfl) (.func _ _ Try.call16) rfl rfl (BVs.refl _ _) (deucelaw08_works_c h53) rfl) ?_
                                    refine tr1 rfl (s_assign (v := .d (.lit (.bool r52))) (lt_of rfl) rfl rfl) ?_
                                    refine tr_nil ?_
                                    have h := Option.some.inj h
                                    subst h
                                    refine tr_ent (ent_free (ble_keep (l := [6]) ⟨rfl, trivial⟩)) ?_
                                    exact tr_ret ⟨rfl, _, .one _, rfl, rfl⟩
                              · have h := cond_ff c46 h
                                refine tr_skip ?_
                                refine tr_seq ?_
                                refine tr_region ?_
                                obtain ⟨r58, h59, h⟩ := bind_some h
                                refine tr1 rfl (s_call (lt_of rfl) (.func _ _ Try.call16) rfl rfl (BVs.refl _ _) (deucelaw08_works_c h59) rfl) ?_
                                refine tr1 rfl (s_assign (v := .d (.lit (.bool r58))) (lt_of rfl) rfl rfl) ?_
                                refine tr_nil ?_
                                have h := Option.some.inj h
                                subst h
                                refine tr_ent (ent_free (ble_keep (l := [6]) ⟨rfl, trivial⟩)) ?_
                                exact tr_ret ⟨rfl, _, .one _, rfl, rfl⟩
              · have h := cond_ff c22 h
                refine tr_skip ?_
                refine tr_seq ?_
                refine tr_seq ?_
                refine tr_region ?_
                refine tr1 rfl (s_move (v := .d (.lit (.int .i64 r11.2))) (lt_of rfl) rfl rfl) ?_
                refine tr1 rfl (s_cmp (lt_of rfl) rfl rfl rfl) ?_
                refine tr_nil ?_
                refine tr_if rfl (fun c70 => ?_) (fun c70 => ?_)
                · have h := cond_tt c70 h
                  refine tr_seq ?_
                  refine tr_region ?_
                  refine tr1 rfl (s_move (v := .d (.lit (.bool false))) (lt_of rfl) rfl rfl) ?_
                  refine tr1 rfl (s_not (lt_of rfl) rfl) ?_
                  refine tr1 rfl (s_move (v := .d (.lit (.bool (!false)))) (lt_of rfl) rfl rfl) ?_
                  obtain ⟨b71, h72, h⟩ := bind_some h
                  refine tr_guard 2 [] 83 b71 ?_ ?_
                  · refine bool_cases (!false) (fun c73 => ?_) (fun c73 => ?_)
                    · have h72 := cond_tt c73 h72
                      obtain ⟨r74, h75, h72⟩ := bind_some h72
                      refine tr_take1 rfl rfl (lt_of rfl) rfl c73 (s_call (lt_of rfl) (.func _ _ Try.call16) rfl rfl (BVs.refl _ _) (deucelaw08_works_c h75) rfl) ?_
                      refine tr1 rfl (s_pick_t (v := .d (.lit (.bool r74))) (lt_of rfl) rfl c73 rfl rfl) ?_
                      have h72 := Option.some.inj h72
                      subst h72
                      refine tr_nil (ent_keep rfl trivial rfl)
                    · have h72 := cond_ff c73 h72
                      refine tr_pass rfl rfl (lt_of rfl) rfl (lt_of rfl) rfl c73 ?_
                      refine tr1 rfl (s_pick_f (v := .d (.lit (.bool false))) (lt_of rfl) rfl c73 rfl rfl) ?_
                      have h72 := Option.some.inj h72
                      subst h72
                      refine tr_nil (ent_keep rfl trivial rfl)
                  · refine tr1 rfl (s_assign (v := .d (.lit (.bool b71))) (lt_of rfl) rfl rfl) ?_
                    refine tr_nil ?_
                    have h := Option.some.inj h
                    subst h
                    refine tr_ent (ent_free (ble_keep (l := [6]) ⟨rfl, trivial⟩)) ?_
                    exact tr_ret ⟨rfl, _, .one _, rfl, rfl⟩
                · have h := cond_ff c70 h
                  refine tr_skip ?_
                  refine tr_seq ?_
                  refine tr_seq ?_
                  refine tr_region ?_
                  refine tr1 rfl (s_loada_bp (lt_of rfl) rfl (i := 0) rfl agg_25 (es := (encApiProgram p_0)) rfl rfl) ?_
                  refine tr1 rfl (s_move (v := .d (.sl 3 (r13.1.map encApiSeat))) (lt_of rfl) rfl rfl) ?_
                  obtain ⟨r76, h77, h⟩ := bind_some h
                  refine tr1 rfl (s_call (lt_of rfl) (.func _ _ Try.call15) rfl rfl (BVs.refl _ _) (deuceref08_IsOrder_c _ _ h77) rfl) ?_
                  refine tr1 rfl (s_not (lt_of rfl) rfl) ?_
                  refine tr1 rfl (s_move (v := .d (.lit (.bool (!r76)))) (lt_of rfl) rfl rfl) ?_
                  obtain ⟨b78, h79, h⟩ := bind_some h
                  refine tr_guard 6 [1, 2, 3, 7, 9, 11] 94 b78 ?_ ?_
                  · refine bool_cases (!r76) (fun c111 => ?_) (fun c111 => ?_)
                    · have h79 := cond_tt c111 h79
                      refine tr_pass rfl rfl (lt_of rfl) rfl (lt_of rfl) rfl c111 ?_
                      refine tr_pass rfl rfl (lt_of rfl) rfl (lt_of rfl) rfl c111 ?_
                      refine tr_pass rfl rfl (lt_of rfl) rfl (lt_of rfl) rfl c111 ?_
                      refine tr_pass rfl rfl (lt_of rfl) rfl (lt_of rfl) rfl c111 ?_
                      refine tr_pass rfl rfl (lt_of rfl) rfl (lt_of rfl) rfl c111 ?_
                      refine tr1 rfl (s_pick_t (v := .d (.lit (.bool true))) (lt_of rfl) rfl c111 rfl rfl) ?_
                      have h79 := Option.some.inj h79
                      subst h79
                      refine tr_nil (ent_keep rfl ⟨rfl, rfl, rfl, rfl, rfl, rfl, trivial⟩ rfl)
                    · have h79 := cond_ff c111 h79
                      refine tr_take1 rfl rfl (lt_of rfl) rfl c111 (s_move (v := .d (.sl 3 (r13.1.map encApiSeat))) (lt_of rfl) rfl rfl) ?_
                      refine tr_take1 rfl rfl (lt_of rfl) rfl c111 (s_move (v := .d (.sl 3 (old_1.map encApiSeat))) (lt_of rfl) rfl rfl) ?_
                      obtain ⟨r112, h113, h79⟩ := bind_some h79
                      refine tr_take1 rfl rfl (lt_of rfl) rfl c111 (s_call (lt_of rfl) (.func _ _ Try.call34) rfl rfl (BVs.refl _ _) (deuceref08_Moved_c _ _ h113) rfl) ?_
                      refine tr_take1 rfl rfl (lt_of rfl) rfl c111 (s_move (v := .d (.lit (.int .i64 r11.1))) (lt_of rfl) rfl rfl) ?_
                      refine tr_take1 rfl rfl (lt_of rfl) rfl c111 (s_cmp (lt_of rfl) rfl rfl rfl) ?_
                      refine tr1 rfl (s_pick_f (v := .d (.lit (.bool ((!decide (r112 = r11.1)))))) (lt_of rfl) rfl c111 rfl rfl) ?_
                      have h79 := Option.some.inj h79
                      subst h79
                      refine tr_nil (ent_keep rfl ⟨rfl, rfl, rfl, rfl, rfl, rfl, trivial⟩ rfl)
                  · refine tr1 rfl (s_move (v := .d (.lit (.bool b78))) (lt_of rfl) rfl rfl) ?_
                    obtain ⟨b80, h81, h⟩ := bind_some h
                    refine tr_guard 9 [1, 3, 7, 9] 104 b80 ?_ ?_
                    · refine bool_cases (b78) (fun c105 => ?_) (fun c105 => ?_)
                      · have h81 := cond_tt c105 h81
                        refine tr_pass rfl rfl (lt_of rfl) rfl (lt_of rfl) rfl c105 ?_
                        refine tr_pass rfl rfl (lt_of rfl) rfl (lt_of rfl) rfl c105 ?_
                        refine tr_pass' rfl rfl (lt_of rfl) rfl (lt_of rfl) rfl ?_
                        refine tr_pass' rfl rfl (lt_of rfl) rfl (lt_of rfl) rfl ?_
                        refine tr_pass' rfl rfl (lt_of rfl) rfl (lt_of rfl) rfl ?_
                        refine tr_pass' rfl rfl (lt_of rfl) rfl (lt_of rfl) rfl ?_
                        refine tr_pass' rfl rfl (lt_of rfl) rfl (lt_of rfl) rfl ?_
                        refine tr_pass rfl rfl (lt_of rfl) rfl (lt_of rfl) rfl c105 ?_
                        refine tr1 rfl (s_pick_t (v := .d (.lit (.bool true))) (lt_of rfl) rfl c105 rfl rfl) ?_
                        have h81 := Option.some.inj h81
                        subst h81
                        refine tr_nil (ent_keep rfl ⟨rfl, rfl, rfl, rfl, trivial⟩ rfl)
                      · have h81 := cond_ff c105 h81
                        refine tr_take1 rfl rfl (lt_of rfl) rfl c105 (s_move (v := .d (.lit (.bool false))) (lt_of rfl) rfl rfl) ?_
                        refine tr_take1 rfl rfl (lt_of rfl) rfl c105 (s_move (v := .d (.lit (.bool false))) (lt_of rfl) rfl rfl) ?_
                        obtain ⟨b106, h107, h81⟩ := bind_some h81
                        refine tr_guard 6 [1, 3, 7, 9, 95] 103 b106 ?_ ?_
                        · refine bool_cases (false) (fun c108 => ?_) (fun c108 => ?_)
                          · have h107 := cond_tt c108 h107
                            refine tr_take1 rfl rfl (lt_of rfl) rfl c108 (s_move (v := .d (.sl 3 (other_2.map encApiSeat))) (lt_of rfl) rfl rfl) ?_
                            refine tr_take1 rfl rfl (lt_of rfl) rfl c108 (s_move (v := .d (.sl 3 (old_1.map encApiSeat))) (lt_of rfl) rfl rfl) ?_
                            obtain ⟨r109, h110, h107⟩ := bind_some h107
                            refine tr_take1 rfl rfl (lt_of rfl) rfl c108 (s_call (lt_of rfl) (.func _ _ Try.call34) rfl rfl (BVs.refl _ _) (deuceref08_Moved_c _ _ h110) rfl) ?_
                            refine tr_take1 rfl rfl (lt_of rfl) rfl c108 (s_move (v := .d (.lit (.int .i64 r11.1))) (lt_of rfl) rfl rfl) ?_
                            refine tr_take1 rfl rfl (lt_of rfl) rfl c108 (s_cmp (lt_of rfl) rfl rfl rfl) ?_
                            refine tr_take1 rfl rfl (lt_of rfl) rfl c105 (s_pick_t (v := .d (.lit (.bool ((decide (r109 < r11.1)))))) (lt_of rfl) rfl c108 rfl rfl) ?_
                            have h107 := Option.some.inj h107
                            subst h107
                            refine tr_nil (ent_keep rfl ⟨rfl, rfl, rfl, rfl, rfl, trivial⟩ rfl)
                          · have h107 := cond_ff c108 h107
                            refine tr_pass rfl rfl (lt_of rfl) rfl (lt_of rfl) rfl c108 ?_
                            refine tr_pass rfl rfl (lt_of rfl) rfl (lt_of rfl) rfl c108 ?_
                            refine tr_pass rfl rfl (lt_of rfl) rfl (lt_of rfl) rfl c108 ?_
                            refine tr_pass rfl rfl (lt_of rfl) rfl (lt_of rfl) rfl c108 ?_
                            refine tr_pass rfl rfl (lt_of rfl) rfl (lt_of rfl) rfl c108 ?_
                            refine tr_take1 rfl rfl (lt_of rfl) rfl c105 (s_pick_f (v := .d (.lit (.bool false))) (lt_of rfl) rfl c108 rfl rfl) ?_
                            have h107 := Option.some.inj h107
                            subst h107
                            refine tr_nil (ent_keep rfl ⟨rfl, rfl, rfl, rfl, rfl, trivial⟩ rfl)
                        · refine tr1 rfl (s_pick_f (v := .d (.lit (.bool b106))) (lt_of rfl) rfl c105 rfl rfl) ?_
                          have h81 := Option.some.inj h81
                          subst h81
                          refine tr_nil (ent_keep rfl ⟨rfl, rfl, rfl, rfl, trivial⟩ rfl)
                    · refine tr_nil ?_
                      refine tr_if rfl (fun c82 => ?_) (fun c82 => ?_)
                      · have h := cond_tt c82 h
                        refine tr_seq ?_
                        refine tr_region ?_
                        refine tr1 rfl (s_assign (v := .d (.lit (.bool false))) (lt_of rfl) rfl rfl) ?_
                        refine tr_nil ?_
                        have h := Option.some.inj h
                        subst h
                        refine tr_ent (ent_free (ble_keep (l := [6]) ⟨rfl, trivial⟩)) ?_
                        exact tr_ret ⟨rfl, _, .one _, rfl, rfl⟩
                      · have h := cond_ff c82 h
                        refine tr_skip ?_
                        refine tr_seq ?_
                        refine tr_region ?_
                        refine tr1 rfl (s_loada_bp (lt_of rfl) rfl (i := 0) rfl agg_25 (es := (encApiProgram p_0)) rfl rfl) ?_
                        refine tr1 rfl (s_move (v := .d (.sl 3 (r13.1.map encApiSeat))) (lt_of rfl) rfl rfl) ?_
                        obtain ⟨r83, h84, h⟩ := bind_some h
                        refine tr1 rfl (s_call (lt_of rfl) (.func _ _ Try.call18) rfl rfl (BVs.refl _ _) (play_Fits_c _ _ h84) rfl) ?_
                        refine tr1 rfl (s_move (v := .tup [.d (.lit (.bool r83.1)), .d (.lit (.int .i64 r83.2.1)), .d (.lit (.int .i64 r83.2.2))]) (lt_of rfl) rfl rfl) ?_
                        refine tr1 rfl (s_extract (lt_of rfl) rfl rfl) ?_
                        refine tr1 rfl (s_extract (lt_of rfl) rfl rfl) ?_
                        refine tr1 rfl (s_extract (lt_of rfl) rfl rfl) ?_
                        refine tr1 rfl (s_assign (v := .d (.lit (.bool r83.1))) (lt_of rfl) rfl rfl) ?_
                        refine tr1 rfl (s_assign (v := .d (.lit (.int .i64 r83.2.1))) (lt_of rfl) rfl rfl) ?_
                        refine tr1 rfl (s_assign (v := .d (.lit (.int .i64 r83.2.2))) (lt_of rfl) rfl rfl) ?_
                        refine tr_nil ?_
                        refine tr_seq ?_
                        refine tr_seq ?_
                        refine tr_region ?_
                        refine tr1 rfl (s_move (v := .d (.lit (.int .i64 r83.2.2))) (lt_of rfl) rfl rfl) ?_
                        refine tr1 rfl (s_cmp (lt_of rfl) rfl rfl rfl) ?_
                        refine tr1 rfl (s_move (v := .d (.lit (.bool ((!decide (r83.2.2 = 0)))))) (lt_of rfl) rfl rfl) ?_
                        obtain ⟨b85, h86, h⟩ := bind_some h
                        refine tr_guard 3 [1, 3, 7] 117 b85 ?_ ?_
                        · refine bool_cases (!decide (r83.2.2 = 0)) (fun c104 => ?_) (fun c104 => ?_)
                          · have h86 := cond_tt c104 h86
                            refine tr_pass rfl rfl (lt_of rfl) rfl (lt_of rfl) rfl c104 ?_
                            refine tr_pass rfl rfl (lt_of rfl) rfl (lt_of rfl) rfl c104 ?_
                            refine tr1 rfl (s_pick_t (v := .d (.lit (.bool true))) (lt_of rfl) rfl c104 rfl rfl) ?_
                            have h86 := Option.some.inj h86
                            subst h86
                            refine tr_nil (ent_keep rfl ⟨rfl, rfl, rfl, trivial⟩ rfl)
                          · have h86 := cond_ff c104 h86
                            refine tr_take1 rfl rfl (lt_of rfl) rfl c104 (s_move (v := .d (.lit (.bool r83.1))) (lt_of rfl) rfl rfl) ?_
                            refine tr_take1 rfl rfl (lt_of rfl) rfl c104 (s_not (lt_of rfl) rfl) ?_
                            refine tr1 rfl (s_pick_f (v := .d (.lit (.bool (!r83.1)))) (lt_of rfl) rfl c104 rfl rfl) ?_
                            have h86 := Option.some.inj h86
                            subst h86
                            refine tr_nil (ent_keep rfl ⟨rfl, rfl, rfl, trivial⟩ rfl)
                        · refine tr_nil ?_
                          refine tr_if rfl (fun c87 => ?_) (fun c87 => ?_)
                          · have h := cond_tt c87 h
                            refine tr_seq ?_
                            refine tr_region ?_
                            refine tr1 rfl (s_assign (v := .d (.lit (.bool false))) (lt_of rfl) rfl rfl) ?_
                            refine tr_nil ?_
                            have h := Option.some.inj h
                            subst h
                            refine tr_ent (ent_free (ble_keep (l := [6]) ⟨rfl, trivial⟩)) ?_
                            exact tr_ret ⟨rfl, _, .one _, rfl, rfl⟩
                          · have h := cond_ff c87 h
                            refine tr_skip ?_
                            refine tr_seq ?_
                            refine tr_seq ?_
                            refine tr_region ?_
                            refine tr1 rfl (s_loada_bp (lt_of rfl) rfl (i := 0) rfl agg_25 (es := (encApiProgram p_0)) rfl rfl) ?_
                            refine tr1 rfl (s_move (v := .d (.sl 3 (old_1.map encApiSeat))) (lt_of rfl) rfl rfl) ?_
                            obtain ⟨r88, h89, h⟩ := bind_some h
                            refine tr1 rfl (s_call (lt_of rfl) (.func _ _ Try.call15) rfl rfl (BVs.refl _ _) (deuceref08_IsOrder_c _ _ h89) rfl) ?_
                            refine tr_nil ?_
                            refine tr_if rfl (fun c90 => ?_) (fun c90 => ?_)
                            · have h := cond_tt c90 h
                              refine tr_seq ?_
                              refine tr_region ?_
                              refine tr1 rfl (s_loada_bp (lt_of rfl) rfl (i := 0) rfl agg_25 (es := (encApiProgram p_0)) rfl rfl) ?_
                              refine tr1 rfl (s_move (v := .d (.sl 3 (old_1.map encApiSeat))) (lt_of rfl) rfl rfl) ?_
                              obtain ⟨r91, h92, h⟩ := bind_some h
                              refine tr1 rfl (s_call (lt_of rfl) (.func _ _ Try.call18) rfl rfl (BVs.refl _ _) (play_Fits_c _ _ h92) rfl) ?_
                              refine tr1 rfl (s_move (v := .tup [.d (.lit (.bool r91.1)), .d (.lit (.int .i64 r91.2.1)), .d (.lit (.int .i64 r91.2.2))]) (lt_of rfl) rfl rfl) ?_
                              refine tr1 rfl (s_extract (lt_of rfl) rfl rfl) ?_
                              refine tr1 rfl (s_extract (lt_of rfl) rfl rfl) ?_
                              refine tr1 rfl (s_extract (lt_of rfl) rfl rfl) ?_
                              refine tr1 rfl (s_assign (v := .d (.lit (.bool r91.1))) (lt_of rfl) rfl rfl) ?_
                              refine tr1 rfl (s_assign (v := .d (.lit (.int .i64 r91.2.1))) (lt_of rfl) rfl rfl) ?_
                              refine tr1 rfl (s_assign (v := .d (.lit (.int .i64 r91.2.2))) (lt_of rfl) rfl rfl) ?_
                              refine tr_nil ?_
                              refine tr_seq ?_
                              refine tr_region ?_
                              refine tr1 rfl (s_move (v := .d (.lit (.int .i64 r91.2.2))) (lt_of rfl) rfl rfl) ?_
                              refine tr1 rfl (s_cmp (lt_of rfl) rfl rfl rfl) ?_
                              refine tr1 rfl (s_move (v := .d (.lit (.bool ((!decide (r91.2.2 = 0)))))) (lt_of rfl) rfl rfl) ?_
                              obtain ⟨b93, h94, h⟩ := bind_some h
                              refine tr_guard 6 [] 136 b93 ?_ ?_
                              · refine bool_cases (!decide (r91.2.2 = 0)) (fun c98 => ?_) (fun c98 => ?_)
                                · have h94 := cond_tt c98 h94
                                  refine tr_pass rfl rfl (lt_of rfl) rfl (lt_of rfl) rfl c98 ?_
                                  refine tr_pass rfl rfl (lt_of rfl) rfl (lt_of rfl) rfl c98 ?_
                                  refine tr_pass' rfl rfl (lt_of rfl) rfl (lt_of rfl) rfl ?_
                                  refine tr_pass' rfl rfl (lt_of rfl) rfl (lt_of rfl) rfl ?_
                                  refine tr_pass rfl rfl (lt_of rfl) rfl (lt_of rfl) rfl c98 ?_
                                  refine tr1 rfl (s_pick_t (v := .d (.lit (.bool true))) (lt_of rfl) rfl c98 rfl rfl) ?_
                                  have h94 := Option.some.inj h94
                                  subst h94
                                  refine tr_nil (ent_keep rfl trivial rfl)
                                · have h94 := cond_ff c98 h94
                                  refine tr_take1 rfl rfl (lt_of rfl) rfl c98 (s_move (v := .d (.lit (.bool r91.1))) (lt_of rfl) rfl rfl) ?_
                                  refine tr_take1 rfl rfl (lt_of rfl) rfl c98 (s_move (v := .d (.lit (.bool r91.1))) (lt_of rfl) rfl rfl) ?_
                                  obtain ⟨b99, h100, h94⟩ := bind_some h94
                                  refine tr_guard 3 [130] 135 b99 ?_ ?_
                                  · refine bool_cases (r91.1) (fun c101 => ?_) (fun c101 => ?_)
                                    · have h100 := cond_tt c101 h100
                                      refine tr_take1 rfl rfl (lt_of rfl) rfl c101 (s_move (v := .d (.lit (.int .i64 r11.1))) (lt_of rfl) rfl rfl) ?_
                                      refine tr_take1 rfl rfl (lt_of rfl) rfl c101 (s_cmp (lt_of rfl) rfl rfl rfl) ?_
                                      refine tr_take1 rfl rfl (lt_of rfl) rfl c98 (s_pick_t (v := .d (.lit (.bool ((!decide (r11.1 = 0)))))) (lt_of rfl) rfl c101 rfl rfl) ?_
                                      have h100 := Option.some.inj h100
                                      subst h100
                                      refine tr_nil (ent_keep rfl ⟨rfl, trivial⟩ rfl)
                                    · have h100 := cond_ff c101 h100
                                      refine tr_pass rfl rfl (lt_of rfl) rfl (lt_of rfl) rfl c101 ?_
                                      refine tr_pass rfl rfl (lt_of rfl) rfl (lt_of rfl) rfl c101 ?_
                                      refine tr_take1 rfl rfl (lt_of rfl) rfl c98 (s_pick_f (v := .d (.lit (.bool false))) (lt_of rfl) rfl c101 rfl rfl) ?_
                                      have h100 := Option.some.inj h100
                                      subst h100
                                      refine tr_nil (ent_keep rfl ⟨rfl, trivial⟩ rfl)
                                  · refine tr1 rfl (s_pick_f (v := .d (.lit (.bool b99))) (lt_of rfl) rfl c98 rfl rfl) ?_
                                    have h94 := Option.some.inj h94
                                    subst h94
                                    refine tr_nil (ent_keep rfl trivial rfl)
                              · refine tr_nil ?_
                                refine tr_if rfl (fun c95 => ?_) (fun c95 => ?_)
                                · have h := cond_tt c95 h
                                  refine tr_seq ?_
                                  refine tr_region ?_
                                  refine tr1 rfl (s_assign (v := .d (.lit (.bool false))) (lt_of rfl) rfl rfl) ?_
                                  refine tr_nil ?_
                                  have h := Option.some.inj h
                                  subst h
                                  refine tr_ent (ent_free (ble_keep (l := [6]) ⟨rfl, trivial⟩)) ?_
                                  exact tr_ret ⟨rfl, _, .one _, rfl, rfl⟩
                                · have h := cond_ff c95 h
                                  refine tr_skip ?_
                                  refine tr_seq ?_
                                  refine tr_region ?_
                                  obtain ⟨r96, h97, h⟩ := bind_some h
                                  refine tr1 rfl (s_call (lt_of rfl) (.func _ _ Try.call16) rfl rfl (BVs.refl _ _) (deucelaw08_works_c h97) rfl) ?_
                                  refine tr1 rfl (s_assign (v := .d (.lit (.bool r96))) (lt_of rfl) rfl rfl) ?_
                                  refine tr_nil ?_
                                  have h := Option.some.inj h
                                  subst h
                                  refine tr_ent (ent_free (ble_keep (l := [6]) ⟨rfl, trivial⟩)) ?_
                                  exact tr_ret ⟨rfl, _, .one _, rfl, rfl⟩
                            · have h := cond_ff c90 h
                              refine tr_skip ?_
                              refine tr_seq ?_
                              refine tr_region ?_
                              obtain ⟨r102, h103, h⟩ := bind_some h
                              refine tr1 rfl (s_call (lt_of rfl) (.func _ _ Try.call16) rfl rfl (BVs.refl _ _) (deucelaw08_works_c h103) rfl) ?_
                              refine tr1 rfl (s_assign (v := .d (.lit (.bool r102))) (lt_of rfl) rfl rfl) ?_
                              refine tr_nil ?_
                              have h := Option.some.inj h
                              subst h
                              refine tr_ent (ent_free (ble_keep (l := [6]) ⟨rfl, trivial⟩)) ?_
                              exact tr_ret ⟨rfl, _, .one _, rfl, rfl⟩

end Go.Am
