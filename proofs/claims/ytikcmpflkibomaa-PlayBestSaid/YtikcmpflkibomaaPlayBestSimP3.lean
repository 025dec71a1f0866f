/- The functions compute what the shallow ones say: printed by program. -/
import Derived.Test.YtikcmpflkibomaaPlayBestSimP2
namespace Go.Am
open Go.Proofs
set_option maxRecDepth 100000
set_option maxHeartbeats 4000000

theorem deuceref08_late_c (p_0 : ApiProgram) (order_1 : List ApiSeat) {r : Int} (h : deuceref08_late p_0 order_1 = some r) : Fn Try.prog 65 [.agg (encApiProgram p_0), .d (.sl 3 (order_1.map encApiSeat))] (.d (.lit (.int .i64 r))) := by
  unfold deuceref08_late at h
  refine Fn.of_tr Try.func65 rfl (rs := [.tmp 4]) Try.results65 Try.ntmps65 (Nat.le_of_ble_eq_true rfl) ?_
  refine tr_seq ?_
  refine tr_region ?_
  refine tr_op rfl (s_box (v := .agg (encApiProgram p_0)) (lt_of rfl) rfl rfl rfl) ?_
  rintro _ ⟨b1, rfl⟩
  refine tr1 rfl (s_assign (v := .d (.lit (.int .i64 0))) (lt_of rfl) rfl rfl) ?_
  refine tr_nil ?_
  refine tr_seq ?_
  obtain ⟨r2, h3, h⟩ := bind_some h
  obtain ⟨r4, h5, h⟩ := bind_some h
  refine tr_drawk mix 9 [1, 2] [(16, .d (.sl 1 (r4.2.map encI)))] ?_ ?_
  · refine ⟨[(10, 0, .agg (encApiProgram p_0)), (11, 1, .d (.sl 3 (order_1.map encApiSeat))), (12, 2, .agg (encApiProgram p_0)), (13, 3, .d (.sl 1 (r2.map encI))), (14, 4, .tup [.d (.sl 1 (r4.1.map encI)), .d (.sl 1 (r4.2.map encI))]), (9, 5, .tup [.d (.sl 1 (r4.1.map encI)), .d (.sl 1 (r4.2.map encI))]), (15, 6, .d (.sl 1 (r4.1.map encI))), (16, 7, .d (.sl 1 (r4.2.map encI))), (5, 8, .d (.sl 1 (r4.1.map encI)))], ?_, ?_⟩
    · exact ⟨by kernel_rfl, by kernel_rfl, by kernel_rfl, by kernel_rfl, by kernel_rfl, [([], []), ([], []), ([], []), ([2], []), ([0, 1, 3], []), ([4], []), ([5], []), ([5], []), ([6], [])], by kernel_rfl, ⟨fun S hS => g_fin rfl (g_op rfl (s_loada_bp (lt_of rfl) (ov_ev hS rfl) (i := 0) rfl agg_25 (es := (encApiProgram p_0)) rfl rfl)),
      fun S hS => g_fin rfl (g_op rfl (s_move (v := .d (.sl 3 (order_1.map encApiSeat))) (lt_of rfl) (ov_ev hS rfl) rfl)),
      fun S hS => g_fin rfl (g_op rfl (s_loada_bp (lt_of rfl) (ov_ev hS rfl) (i := 0) rfl agg_25 (es := (encApiProgram p_0)) rfl rfl)),
      fun S hS => g_fin rfl (g_op rfl (s_callf (lt_of rfl) (.func _ _ Try.call64) (ev2 (ov_ev hS rfl) (ev2 rfl evn)) rfl (deuceref08_lengths_c _ _ h3))),
      fun S hS => g_fin rfl (g_op rfl (s_callf (lt_of rfl) (.func _ _ Try.call19) (ev2 (ov_ev hS rfl) (ev2 (ov_ev hS rfl) (ev2 (ov_ev hS rfl) evn))) rfl (deuceref08_Run_c _ _ _ h5))),
      fun S hS => g_fin rfl (g_op rfl (s_move (v := .tup [.d (.sl 1 (r4.1.map encI)), .d (.sl 1 (r4.2.map encI))]) (lt_of rfl) (ov_ev hS rfl) rfl)),
      fun S hS => g_fin rfl (g_op rfl (s_extract (lt_of rfl) (ov_ev hS rfl) rfl)),
      fun S hS => g_fin rfl (g_op rfl (s_extract (lt_of rfl) (ov_ev hS rfl) rfl)),
      fun S hS => g_fin rfl (g_op rfl (s_assign (v := .d (.sl 1 (r4.1.map encI))) (lt_of rfl) (ov_ev hS rfl) rfl)), trivial⟩⟩
    · exact ent_le (le_upd rfl (le_keep ⟨rfl, rfl, trivial⟩))
  · refine tr1 rfl (s_assign (v := .d (.sl 1 (r4.2.map encI))) (lt_of rfl) rfl rfl) ?_
    refine tr_nil ?_
    refine tr_seq ?_
    refine tr_seq ?_
    refine tr_region ?_
    refine tr1 rfl (s_assign (v := .d (.lit (.int .i64 0))) (lt_of rfl) rfl rfl) ?_
    refine tr_nil ?_
    refine tr_blk ?_
    refine tr_loopk [1, 2, 6] (fun (s6 : Int) => [(7, .d (.lit (.int .i64 s6)))]) (fun (s6 : Int) => [.box b1 0 (encApiProgram p_0)]) (fun (k : Nat) (s6 : Int) => deuceref08_late_L0 order_1 r4.2 p_0 k s6) (fun _ => rfl) (0) h (ent_pick [0] rfl rfl (le_upd rfl (le_keep ⟨rfl, rfl, rfl, trivial⟩))) ?_
    rintro k7 i_0_6 h
    simp only [deuceref08_late_L0] at h
    refine tr_seq ?_
    refine tr_seq ?_
    refine tr_region ?_
    refine tr1 rfl (s_move (v := .d (.lit (.int .i64 i_0_6))) (lt_of rfl) rfl rfl) ?_
    refine tr1 rfl (s_move (v := .d (.sl 3 (order_1.map encApiSeat))) (lt_of rfl) rfl rfl) ?_
    refine tr1 rfl (s_lenm (lt_of rfl) rfl sl_26.of) ?_
    refine tr1 rfl (s_cmp (lt_of rfl) rfl rfl rfl) ?_
    refine tr_nil ?_
    refine tr_if rfl (fun c8 => ?_) (fun c8 => ?_)
    · have h := cond_tt c8 h
      refine tr_skip ?_
      refine tr_seq ?_
      refine tr_blk ?_
      refine tr_seq ?_
      refine tr_region ?_
      refine tr1 rfl (s_move (v := .d (.sl 3 (order_1.map encApiSeat))) (lt_of rfl) rfl rfl) ?_
      refine tr1 rfl (s_move (v := .d (.lit (.int .i64 i_0_6))) (lt_of rfl) rfl rfl) ?_
      obtain ⟨x9, h10, h⟩ := bind_some h
      refine tr1 rfl (s_index_sl (lt_of rfl) rfl rfl sl_26.of (idx_map encApiSeat h10)) ?_
      refine tr1 rfl (s_loada_cp (lt_of rfl) rfl agg_45 (es := (encApiSeat x9)) rfl rfl) ?_
      refine tr_op rfl (s_alloc (zs := [.lit (.int .i64 0), .lit (.int .i64 0), .lit (.int .i64 0)]) (lt_of rfl) Try.zeroValue45 rfl rfl) ?_
      rintro _ ⟨b11, rfl⟩
      refine tr1 rfl (s_store_bp (i := 1) rfl rfl rfl rfl rfl Try.sizeOf45 rfl (lt_of rfl) (Nat.le_of_ble_eq_true rfl) (ds' := (encApiSeat x9)) rfl) ?_
      refine tr_nil ?_
      refine tr_seq ?_
      obtain ⟨x12, h13, h⟩ := bind_some h
      obtain ⟨x14, h15, h⟩ := bind_some h
      obtain ⟨x16, h17, h⟩ := bind_some h
      refine tr_drawk mix 16 [1, 2, 6, 7, 8] [(31, .d (.lit (.int .i64 x12))), (42, .d (.lit (.int .i64 x16.High)))] ?_ ?_
      · refine ⟨[(27, 0, .d (.sl 1 (r4.2.map encI))), (28, 1, .bp b11 0 0), (29, 2, .d (.lit (.int .i64 x9.Job))), (30, 3, .cp [.lit (.int .i64 x12)]), (31, 4, .d (.lit (.int .i64 x12))), (32, 5, .bp b1 0 0), (33, 6, .d (.sl 1 (p_0.Days.map encSl_ApiSpan))), (34, 7, .bp b11 0 1), (35, 8, .d (.lit (.int .i64 x9.Day))), (36, 9, .cp [.sl 2 (x14.map encApiSpan)]), (37, 10, .d (.sl 2 (x14.map encApiSpan))), (38, 11, .bp b11 0 2), (39, 12, .d (.lit (.int .i64 x9.Court))), (40, 13, .cp [.lit (.int .i64 x16.Low), .lit (.int .i64 x16.High)]), (41, 14, .cp [.lit (.int .i64 x16.High)]), (42, 15, .d (.lit (.int .i64 x16.High)))], ?_, ?_⟩
        · exact ⟨by kernel_rfl, by kernel_rfl, by kernel_rfl, by kernel_rfl, by kernel_rfl, [([], []), ([], []), ([1], []), ([0, 2], []), ([3], []), ([], []), ([5], []), ([], []), ([7], []), ([6, 8], []), ([9], []), ([], []), ([11], []), ([10, 12], []), ([13], []), ([14], [])], by kernel_rfl, ⟨fun S hS => g_fin rfl (g_op rfl (s_move (v := .d (.sl 1 (r4.2.map encI))) (lt_of rfl) (ov_ev hS rfl) rfl)),
      fun S hS => g_fin rfl (g_op rfl (s_field_bp (lt_of rfl) (ov_ev hS rfl) fld_45_0)),
      fun S hS => g_fin rfl (g_op rfl (s_load_bp (lt_of rfl) (ov_ev hS rfl) (i := 1) rfl rfl one_3)),
      fun S hS => g_fin rfl (g_op rfl (s_index_sl (lt_of rfl) (ov_ev hS rfl) (ov_ev hS rfl) sl_27.of (idx_map encI h13))),
      fun S hS => g_fin rfl (g_op rfl (s_load_cp (lt_of rfl) (ov_ev hS rfl) one_3)),
      fun S hS => g_fin rfl (g_op rfl (s_field_bp (lt_of rfl) (ov_ev hS rfl) fld_25_0)),
      fun S hS => g_fin rfl (g_op rfl (s_load_bp (lt_of rfl) (ov_ev hS rfl) (i := 0) rfl rfl one_22)),
      fun S hS => g_fin rfl (g_op rfl (s_field_bp (lt_of rfl) (ov_ev hS rfl) fld_45_1)),
      fun S hS => g_fin rfl (g_op rfl (s_load_bp (lt_of rfl) (ov_ev hS rfl) (i := 1) rfl rfl one_3)),
      fun S hS => g_fin rfl (g_op rfl (s_index_sl (lt_of rfl) (ov_ev hS rfl) (ov_ev hS rfl) sl_22.of (idx_map encSl_ApiSpan h15))),
      fun S hS => g_fin rfl (g_op rfl (s_load_cp (lt_of rfl) (ov_ev hS rfl) one_37)),
      fun S hS => g_fin rfl (g_op rfl (s_field_bp (lt_of rfl) (ov_ev hS rfl) fld_45_2)),
      fun S hS => g_fin rfl (g_op rfl (s_load_bp (lt_of rfl) (ov_ev hS rfl) (i := 1) rfl rfl one_3)),
      fun S hS => g_fin rfl (g_op rfl (s_index_sl (lt_of rfl) (ov_ev hS rfl) (ov_ev hS rfl) sl_37.of (idx_map encApiSpan h17))),
      fun S hS => g_fin rfl (g_op rfl (s_field_cp (lt_of rfl) (ov_ev hS rfl) fld_34_1 (es := [.lit (.int .i64 x16.High)]) rfl)),
      fun S hS => g_fin rfl (g_op rfl (s_load_cp (lt_of rfl) (ov_ev hS rfl) one_3)), trivial⟩⟩
        · exact ent_le (le_upd rfl (le_upd rfl (le_keep ⟨rfl, rfl, rfl, rfl, rfl, trivial⟩)))
      · refine tr1 rfl (s_cmp (lt_of rfl) rfl rfl rfl) ?_
        refine tr_nil ?_
        refine tr_if rfl (fun c18 => ?_) (fun c18 => ?_)
        · have h := cond_tt c18 h
          refine tr_seq ?_
          refine tr_region ?_
          refine tr1 rfl (s_field_bp (lt_of rfl) rfl fld_45_0) ?_
          refine tr1 rfl (s_load_bp (lt_of rfl) rfl (i := 1) rfl rfl one_3) ?_
          refine tr1 rfl (s_assign (v := .d (.lit (.int .i64 x9.Job))) (lt_of rfl) rfl rfl) ?_
          refine tr_nil ?_
          have h := Option.some.inj h
          subst h
          refine tr_ent (ent_free (ble_keep (l := [4]) ⟨rfl, trivial⟩)) ?_
          exact tr_ret ⟨rfl, _, .one _, rfl, rfl⟩
        · have h := cond_ff c18 h
          refine tr_skipb ?_
          refine tr_region ?_
          refine tr1 rfl (s_move (v := .d (.lit (.int .i64 i_0_6))) (lt_of rfl) rfl rfl) ?_
          refine tr1 rfl (s_arith (lt_of rfl) rfl rfl rfl) ?_
          refine tr1 rfl (s_assign (v := .d (.lit (.int .i64 ((w64 (i_0_6 + 1)))))) (lt_of rfl) rfl rfl) ?_
          refine tr_nil ?_
          exact ⟨(w64 (i_0_6 + 1)), h, ent_pick [0] rfl rfl (le_upd rfl (le_keep ⟨rfl, rfl, rfl, trivial⟩))⟩
    · have h := cond_ff c8 h
      refine tr_exit ?_
      refine .inl ⟨rfl, ?_⟩
      simp only [deuceref08_late_K0] at h
      refine tr_seq ?_
      refine tr_region ?_
      refine tr1 rfl (s_assign (v := .d (.lit (.int .i64 (-1)))) (lt_of rfl) rfl rfl) ?_
      refine tr_nil ?_
      have h := Option.some.inj h
      subst h
      refine tr_ent (ent_free (ble_keep (l := [4]) ⟨rfl, trivial⟩)) ?_
      exact tr_ret ⟨rfl, _, .one _, rfl, rfl⟩

theorem deuceref08_Fits_c (p_0 : ApiProgram) (order_1 : List ApiSeat) {r : Bool × Int × Int} (h : deuceref08_Fits p_0 order_1 = some r) : Fn Try.prog 27 [.agg (encApiProgram p_0), .d (.sl 3 (order_1.map encApiSeat))] (.tup [.d (.lit (.bool r.1)), .d (.lit (.int .i64 r.2.1)), .d (.lit (.int .i64 r.2.2))]) := by
  unfold deuceref08_Fits at h
  refine Fn.of_tr Try.func27 rfl (rs := [.tmp 4, .tmp 5, .tmp 6]) Try.results27 Try.ntmps27 (Nat.le_of_ble_eq_true rfl) ?_
  refine tr_seq ?_
  refine tr_region ?_
  refine tr_op rfl (s_box (v := .agg (encApiProgram p_0)) (lt_of rfl) rfl rfl rfl) ?_
  rintro _ ⟨b1, rfl⟩
  refine tr1 rfl (s_assign (v := .d (.lit (.bool false))) (lt_of rfl) rfl rfl) ?_
  refine tr1 rfl (s_assign (v := .d (.lit (.int .i64 0))) (lt_of rfl) rfl rfl) ?_
  refine tr1 rfl (s_assign (v := .d (.lit (.int .i64 0))) (lt_of rfl) rfl rfl) ?_
  refine tr_nil ?_
  refine tr_seq ?_
  refine tr_seq ?_
  refine tr_region ?_
  refine tr1 rfl (s_loada_bp (lt_of rfl) rfl (i := 0) rfl agg_25 (es := (encApiProgram p_0)) rfl rfl) ?_
  obtain ⟨r2, h3, h⟩ := bind_some h
  refine tr1 rfl (s_call (lt_of rfl) (.func _ _ Try.call14) rfl rfl (BVs.refl _ _) (deuceref08_Check_c _ h3) rfl) ?_
  refine tr1 rfl (s_cmp (lt_of rfl) rfl rfl rfl) ?_
  refine tr_nil ?_
  refine tr_if rfl (fun c4 => ?_) (fun c4 => ?_)
  · have h := cond_tt c4 h
    refine tr_seq ?_
    refine tr_region ?_
    refine tr1 rfl (s_assign (v := .d (.lit (.bool false))) (lt_of rfl) rfl rfl) ?_
    refine tr1 rfl (s_assign (v := .d (.lit (.int .i64 0))) (lt_of rfl) rfl rfl) ?_
    refine tr1 rfl (s_assign (v := .d (.lit (.int .i64 80))) (lt_of rfl) rfl rfl) ?_
    refine tr_nil ?_
    have h := Option.some.inj h
    subst h
    refine tr_ent (ent_free (ble_keep (l := [4, 5, 6]) ⟨rfl, rfl, rfl, trivial⟩)) ?_
    exact tr_ret ⟨rfl, _, .three _ _ _, rfl, rfl⟩
  · have h := cond_ff c4 h
    refine tr_skip ?_
    refine tr_seq ?_
    refine tr_seq ?_
    refine tr_region ?_
    refine tr1 rfl (s_loada_bp (lt_of rfl) rfl (i := 0) rfl agg_25 (es := (encApiProgram p_0)) rfl rfl) ?_
    refine tr1 rfl (s_move (v := .d (.sl 3 (order_1.map encApiSeat))) (lt_of rfl) rfl rfl) ?_
    obtain ⟨r5, h6, h⟩ := bind_some h
    refine tr1 rfl (s_call (lt_of rfl) (.func _ _ Try.call15) rfl rfl (BVs.refl _ _) (deuceref08_IsOrder_c _ _ h6) rfl) ?_
    refine tr1 rfl (s_not (lt_of rfl) rfl) ?_
    refine tr_nil ?_
    refine tr_if rfl (fun c7 => ?_) (fun c7 => ?_)
    · have h := cond_tt c7 h
      refine tr_seq ?_
      refine tr_region ?_
      refine tr1 rfl (s_assign (v := .d (.lit (.bool false))) (lt_of rfl) rfl rfl) ?_
      refine tr1 rfl (s_assign (v := .d (.lit (.int .i64 0))) (lt_of rfl) rfl rfl) ?_
      refine tr1 rfl (s_assign (v := .d (.lit (.int .i64 81))) (lt_of rfl) rfl rfl) ?_
      refine tr_nil ?_
      have h := Option.some.inj h
      subst h
      refine tr_ent (ent_free (ble_keep (l := [4, 5, 6]) ⟨rfl, rfl, rfl, trivial⟩)) ?_
      exact tr_ret ⟨rfl, _, .three _ _ _, rfl, rfl⟩
    · have h := cond_ff c7 h
      refine tr_skip ?_
      refine tr_seq ?_
      refine tr_region ?_
      refine tr1 rfl (s_loada_bp (lt_of rfl) rfl (i := 0) rfl agg_25 (es := (encApiProgram p_0)) rfl rfl) ?_
      refine tr1 rfl (s_move (v := .d (.sl 3 (order_1.map encApiSeat))) (lt_of rfl) rfl rfl) ?_
      obtain ⟨r8, h9, h⟩ := bind_some h
      refine tr1 rfl (s_call (lt_of rfl) (.func _ _ Try.call65) rfl rfl (BVs.refl _ _) (deuceref08_late_c _ _ h9) rfl) ?_
      refine tr1 rfl (s_assign (v := .d (.lit (.int .i64 r8))) (lt_of rfl) rfl rfl) ?_
      refine tr_nil ?_
      refine tr_seq ?_
      refine tr_region ?_
      refine tr1 rfl (s_move (v := .d (.lit (.int .i64 r8))) (lt_of rfl) rfl rfl) ?_
      refine tr1 rfl (s_cmp (lt_of rfl) rfl rfl rfl) ?_
      refine tr1 rfl (s_move (v := .d (.lit (.int .i64 r8))) (lt_of rfl) rfl rfl) ?_
      refine tr1 rfl (s_assign (v := .d (.lit (.bool ((decide (r8 < 0)))))) (lt_of rfl) rfl rfl) ?_
      refine tr1 rfl (s_assign (v := .d (.lit (.int .i64 r8))) (lt_of rfl) rfl rfl) ?_
      refine tr1 rfl (s_assign (v := .d (.lit (.int .i64 0))) (lt_of rfl) rfl rfl) ?_
      refine tr_nil ?_
      have h := Option.some.inj h
      subst h
      refine tr_ent (ent_free (ble_keep (l := [4, 5, 6]) ⟨rfl, rfl, rfl, trivial⟩)) ?_
      exact tr_ret ⟨rfl, _, .three _ _ _, rfl, rfl⟩

theorem deucelaw08_Far_c (p_0 : ApiProgram) {r : Bool} (h : deucelaw08_Far p_0 = some r) : Fn Try.prog 35 [.agg (encApiProgram p_0)] (.d (.lit (.bool r))) := by
  unfold deucelaw08_Far at h
  refine Fn.of_tr Try.func35 rfl (rs := [.tmp 2]) Try.results35 Try.ntmps35 (Nat.le_of_ble_eq_true rfl) ?_
  refine tr_seq ?_
  refine tr_region ?_
  refine tr_op rfl (s_box (v := .agg (encApiProgram p_0)) (lt_of rfl) rfl rfl rfl) ?_
  rintro _ ⟨b1, rfl⟩
  refine tr1 rfl (s_assign (v := .d (.lit (.bool false))) (lt_of rfl) rfl rfl) ?_
  refine tr_nil ?_
  refine tr_seq ?_
  obtain ⟨r2, h3, h⟩ := bind_some h
  obtain ⟨b4, h5, h⟩ := bind_some h
  refine tr_drawk mix 25 [] [(27, .d (.lit (.bool b4)))] ?_ ?_
  · refine bool_cases (r2) (fun c6 => ?_) (fun c6 => ?_)
    · have h5 := cond_tt c6 h5
      have h5 := Option.some.inj h5
      subst h5
      refine ⟨[(3, 0, .agg (encApiProgram p_0)), (4, 1, .d (.lit (.bool r2))), (5, 2, .d (.lit (.bool r2))), (6, 3, .tup []), (7, 4, .tup []), (8, 5, .tup []), (9, 6, .tup []), (10, 7, .tup []), (11, 8, .tup []), (12, 9, .tup []), (13, 10, .tup []), (14, 11, .tup []), (15, 12, .tup []), (16, 13, .tup []), (17, 14, .tup []), (18, 15, .tup []), (19, 16, .tup []), (20, 17, .tup []), (21, 18, .tup []), (22, 19, .tup []), (23, 20, .tup []), (24, 21, .tup []), (25, 22, .tup []), (26, 23, .tup []), (27, 24, .d (.lit (.bool true)))], ?_, ?_⟩
      · exact ⟨by kernel_rfl, by kernel_rfl, by kernel_rfl, by kernel_rfl, by kernel_rfl, [([], []), ([0], []), ([1], []), ([2], []), ([2, 3], []), ([2, 4], []), ([2, 5], []), ([6], []), ([6, 7], []), ([6, 8], []), ([6, 9], []), ([6, 10], []), ([11], []), ([11, 12], []), ([11, 13], []), ([11], []), ([11, 15], []), ([11, 16], []), ([11, 17], []), ([11, 18], []), ([11, 14, 19], []), ([11, 20], []), ([6, 11, 21], []), ([2, 6, 22], []), ([2, 23], [])], by kernel_rfl, ⟨fun S hS => g_fin rfl (g_op rfl (s_loada_bp (lt_of rfl) (ov_ev hS rfl) (i := 0) rfl agg_25 (es := (encApiProgram p_0)) rfl rfl)),
      fun S hS => g_fin rfl (g_op rfl (s_call (lt_of rfl) (.func _ _ Try.call13) (ev2 (ov_ev hS rfl) evn) rfl (BVs.refl _ _) (deucelaw08_huge_c _ h3) rfl)),
      fun S hS => g_fin rfl (g_op rfl (s_move (v := .d (.lit (.bool r2))) (lt_of rfl) (ov_ev hS rfl) rfl)),
      fun S hS => g_fin rfl (g_pass rfl rfl (lt_of rfl) rfl (lt_of rfl) (ov_en hS rfl) c6),
      fun S hS => g_fin rfl (g_pass rfl rfl (lt_of rfl) rfl (lt_of rfl) (ov_en hS rfl) c6),
      fun S hS => g_fin rfl (g_pass rfl rfl (lt_of rfl) rfl (lt_of rfl) (ov_en hS rfl) c6),
      fun S hS => g_fin rfl (g_pass rfl rfl (lt_of rfl) rfl (lt_of rfl) (ov_en hS rfl) c6),
      fun S hS => g_fin rfl (g_pass' rfl rfl (lt_of rfl) rfl (lt_of rfl) (ov_en hS rfl)),
      fun S hS => g_fin rfl (g_pass' rfl rfl (lt_of rfl) rfl (lt_of rfl) (ov_en hS rfl)),
      fun S hS => g_fin rfl (g_pass' rfl rfl (lt_of rfl) rfl (lt_of rfl) (ov_en hS rfl)),
      fun S hS => g_fin rfl (g_pass' rfl rfl (lt_of rfl) rfl (lt_of rfl) (ov_en hS rfl)),
      fun S hS => g_fin rfl (g_pass' rfl rfl (lt_of rfl) rfl (lt_of rfl) (ov_en hS rfl)),
      fun S hS => g_fin rfl (g_pass' rfl rfl (lt_of rfl) rfl (lt_of rfl) (ov_en hS rfl)),
      fun S hS => g_fin rfl (g_pass' rfl rfl (lt_of rfl) rfl (lt_of rfl) (ov_en hS rfl)),
      fun S hS => g_fin rfl (g_pass' rfl rfl (lt_of rfl) rfl (lt_of rfl) (ov_en hS rfl)),
      fun S hS => g_fin rfl (g_pass' rfl rfl (lt_of rfl) rfl (lt_of rfl) (ov_en hS rfl)),
      fun S hS => g_fin rfl (g_pass' rfl rfl (lt_of rfl) rfl (lt_of rfl) (ov_en hS rfl)),
      fun S hS => g_fin rfl (g_pass' rfl rfl (lt_of rfl) rfl (lt_of rfl) (ov_en hS rfl)),
      fun S hS => g_fin rfl (g_pass' rfl rfl (lt_of rfl) rfl (lt_of rfl) (ov_en hS rfl)),
      fun S hS => g_fin rfl (g_pass' rfl rfl (lt_of rfl) rfl (lt_of rfl) (ov_en hS rfl)),
      fun S hS => g_fin rfl (g_pass' rfl rfl (lt_of rfl) rfl (lt_of rfl) (ov_en hS rfl)),
      fun S hS => g_fin rfl (g_pass' rfl rfl (lt_of rfl) rfl (lt_of rfl) (ov_en hS rfl)),
      fun S hS => g_fin rfl (g_pass' rfl rfl (lt_of rfl) rfl (lt_of rfl) (ov_en hS rfl)),
      fun S hS => g_fin rfl (g_pass rfl rfl (lt_of rfl) rfl (lt_of rfl) (ov_en hS rfl) c6),
      fun S hS => g_fin rfl (g_op rfl (s_pick_t (v := .d (.lit (.bool true))) (lt_of rfl) (ov_ev hS rfl) c6 rfl rfl)), trivial⟩⟩
      · exact ent_le (le_upd rfl (le_keep trivial))
    · have h5 := cond_ff c6 h5
      obtain ⟨r7, h8, h5⟩ := bind_some h5
      obtain ⟨b9, h10, h5⟩ := bind_some h5
      refine bool_cases (decide (r7 = 0)) (fun c11 => ?_) (fun c11 => ?_)
      · have h10 := cond_tt c11 h10
        obtain ⟨b12, h13, h10⟩ := bind_some h10
        refine bool_cases (decide (4 < (p_0.Jobs.length : Int))) (fun c14 => ?_) (fun c14 => ?_)
        · have h13 := cond_tt c14 h13
          have h13 := Option.some.inj h13
          subst h13
          have h10 := Option.some.inj h10
          subst h10
          have h5 := Option.some.inj h5
          subst h5
          refine ⟨[(3, 0, .agg (encApiProgram p_0)), (4, 1, .d (.lit (.bool r2))), (5, 2, .d (.lit (.bool r2))), (6, 3, .agg (encApiProgram p_0)), (7, 4, .d (.lit (.int .i64 r7))), (8, 5, .d (.lit (.bool ((decide (r7 = 0)))))), (9, 6, .d (.lit (.bool ((decide (r7 = 0)))))), (10, 7, .bp b1 0 2), (11, 8, .d (.sl 6 (p_0.Jobs.map encApiJob))), (12, 9, .d (.lit (.int .i64 ((p_0.Jobs.length : Int))))), (13, 10, .d (.lit (.bool ((decide (4 < (p_0.Jobs.length : Int))))))), (14, 11, .d (.lit (.bool ((decide (4 < (p_0.Jobs.length : Int))))))), (15, 12, .tup []), (16, 13, .tup []), (17, 14, .tup []), (18, 15, .tup []), (19, 16, .tup []), (20, 17, .tup []), (21, 18, .tup []), (22, 19, .tup []), (23, 20, .tup []), (24, 21, .tup []), (25, 22, .d (.lit (.bool true))), (26, 23, .d (.lit (.bool (true)))), (27, 24, .d (.lit (.bool (true))))], ?_, ?_⟩
          · exact ⟨by kernel_rfl, by kernel_rfl, by kernel_rfl, by kernel_rfl, by kernel_rfl, [([], []), ([0], []), ([1], []), ([2], []), ([2, 3], []), ([2, 4], []), ([2, 5], []), ([6], []), ([6, 7], []), ([6, 8], []), ([6, 9], []), ([6, 10], []), ([11], []), ([11, 12], []), ([11, 13], []), ([11], []), ([11, 15], []), ([11, 16], []), ([11, 17], []), ([11, 18], []), ([11, 14, 19], []), ([11, 20], []), ([6, 11, 21], []), ([2, 6, 22], []), ([2, 23], [])], by kernel_rfl, ⟨fun S hS => g_fin rfl (g_op rfl (s_loada_bp (lt_of rfl) (ov_ev hS rfl) (i := 0) rfl agg_25 (es := (encApiProgram p_0)) rfl rfl)),
      fun S hS => g_fin rfl (g_op rfl (s_call (lt_of rfl) (.func _ _ Try.call13) (ev2 (ov_ev hS rfl) evn) rfl (BVs.refl _ _) (deucelaw08_huge_c _ h3) rfl)),
      fun S hS => g_fin rfl (g_op rfl (s_move (v := .d (.lit (.bool r2))) (lt_of rfl) (ov_ev hS rfl) rfl)),
      fun S hS => g_fin rfl (g_take rfl rfl (lt_of rfl) (ov_en hS rfl) c6 (s_loada_bp (lt_of rfl) (ov_ev hS rfl) (i := 0) rfl agg_25 (es := (encApiProgram p_0)) rfl rfl)),
      fun S hS => g_fin rfl (g_take rfl rfl (lt_of rfl) (ov_en hS rfl) c6 (s_call (lt_of rfl) (.func _ _ Try.call14) (ev2 (ov_ev hS rfl) evn) rfl (BVs.refl _ _) (deuceref08_Check_c _ h8) rfl)),
      fun S hS => g_fin rfl (g_take rfl rfl (lt_of rfl) (ov_en hS rfl) c6 (s_cmp (lt_of rfl) (ov_ev hS rfl) rfl rfl)),
      fun S hS => g_fin rfl (g_take rfl rfl (lt_of rfl) (ov_en hS rfl) c6 (s_move (v := .d (.lit (.bool ((decide (r7 = 0)))))) (lt_of rfl) (ov_ev hS rfl) rfl)),
      fun S hS => g_fin rfl (g_take rfl rfl (lt_of rfl) (ov_en hS rfl) c11 (s_field_bp (lt_of rfl) (ov_ev hS rfl) fld_25_2)),
      fun S hS => g_fin rfl (g_take rfl rfl (lt_of rfl) (ov_en hS rfl) c11 (s_load_bp (lt_of rfl) (ov_ev hS rfl) (i := 0) rfl rfl one_23)),
      fun S hS => g_fin rfl (g_take rfl rfl (lt_of rfl) (ov_en hS rfl) c11 (s_lenm (lt_of rfl) (ov_ev hS rfl) sl_23.of)),
      fun S hS => g_fin rfl (g_take rfl rfl (lt_of rfl) (ov_en hS rfl) c11 (s_cmp (lt_of rfl) (ov_ev hS rfl) rfl rfl)),
      fun S hS => g_fin rfl (g_take rfl rfl (lt_of rfl) (ov_en hS rfl) c11 (s_move (v := .d (.lit (.bool ((decide (4 < (p_0.Jobs.length : Int))))))) (lt_of rfl) (ov_ev hS rfl) rfl)),
      fun S hS => g_fin rfl (g_pass rfl rfl (lt_of rfl) rfl (lt_of rfl) (ov_en hS rfl) c14),
      fun S hS => g_fin rfl (g_pass rfl rfl (lt_of rfl) rfl (lt_of rfl) (ov_en hS rfl) c14),
      fun S hS => g_fin rfl (g_pass rfl rfl (lt_of rfl) rfl (lt_of rfl) (ov_en hS rfl) c14),
      fun S hS => g_fin rfl (g_pass rfl rfl (lt_of rfl) rfl (lt_of rfl) (ov_en hS rfl) c14),
      fun S hS => g_fin rfl (g_pass rfl rfl (lt_of rfl) rfl (lt_of rfl) (ov_en hS rfl) c14),
      fun S hS => g_fin rfl (g_pass rfl rfl (lt_of rfl) rfl (lt_of rfl) (ov_en hS rfl) c14),
      fun S hS => g_fin rfl (g_pass rfl rfl (lt_of rfl) rfl (lt_of rfl) (ov_en hS rfl) c14),
      fun S hS => g_fin rfl (g_pass rfl rfl (lt_of rfl) rfl (lt_of rfl) (ov_en hS rfl) c14),
      fun S hS => g_fin rfl (g_pass rfl rfl (lt_of rfl) rfl (lt_of rfl) (ov_en hS rfl) c14),
      fun S hS => g_fin rfl (g_pass rfl rfl (lt_of rfl) rfl (lt_of rfl) (ov_en hS rfl) c14),
      fun S hS => g_fin rfl (g_take rfl rfl (lt_of rfl) (ov_en hS rfl) c11 (s_pick_t (v := .d (.lit (.bool true))) (lt_of rfl) (ov_ev hS rfl) c14 rfl rfl)),
      fun S hS => g_fin rfl (g_take rfl rfl (lt_of rfl) (ov_en hS rfl) c6 (s_pick_t (v := .d (.lit (.bool (true)))) (lt_of rfl) (ov_ev hS rfl) c11 (ov_ev hS rfl) rfl)),
      fun S hS => g_fin rfl (g_op rfl (s_pick_f (v := .d (.lit (.bool (true)))) (lt_of rfl) (ov_ev hS rfl) c6 (ov_ev hS rfl) rfl)), trivial⟩⟩
          · exact ent_le (le_upd rfl (le_keep trivial))
        · have h13 := cond_ff c14 h13
          obtain ⟨x15, h16, h13⟩ := bind_some h13
          have h13 := Option.some.inj h13
          subst h13
          have h10 := Option.some.inj h10
          subst h10
          have h5 := Option.some.inj h5
          subst h5
          refine ⟨[(3, 0, .agg (encApiProgram p_0)), (4, 1, .d (.lit (.bool r2))), (5, 2, .d (.lit (.bool r2))), (6, 3, .agg (encApiProgram p_0)), (7, 4, .d (.lit (.int .i64 r7))), (8, 5, .d (.lit (.bool ((decide (r7 = 0)))))), (9, 6, .d (.lit (.bool ((decide (r7 = 0)))))), (10, 7, .bp b1 0 2), (11, 8, .d (.sl 6 (p_0.Jobs.map encApiJob))), (12, 9, .d (.lit (.int .i64 ((p_0.Jobs.length : Int))))), (13, 10, .d (.lit (.bool ((decide (4 < (p_0.Jobs.length : Int))))))), (14, 11, .d (.lit (.bool ((decide (4 < (p_0.Jobs.length : Int))))))), (15, 12, .bp b1 0 0), (16, 13, .d (.sl 1 (p_0.Days.map encSl_ApiSpan))), (17, 14, .d (.lit (.int .i64 ((p_0.Days.length : Int))))), (18, 15, .bp b1 0 0), (19, 16, .d (.sl 1 (p_0.Days.map encSl_ApiSpan))), (20, 17, .cp [.sl 2 (x15.map encApiSpan)]), (21, 18, .d (.sl 2 (x15.map encApiSpan))), (22, 19, .d (.lit (.int .i64 ((x15.length : Int))))), (23, 20, .d (.lit (.int .i64 ((w64 ((p_0.Days.length : Int) * (x15.length : Int))))))), (24, 21, .d (.lit (.bool ((decide (4 < (w64 ((p_0.Days.length : Int) * (x15.length : Int))))))))), (25, 22, .d (.lit (.bool ((decide (4 < (w64 ((p_0.Days.length : Int) * (x15.length : Int))))))))), (26, 23, .d (.lit (.bool (decide (4 < (w64 ((p_0.Days.length : Int) * (x15.length : Int)))))))), (27, 24, .d (.lit (.bool (decide (4 < (w64 ((p_0.Days.length : Int) * (x15.length : Int))))))))], ?_, ?_⟩
          · exact ⟨by kernel_rfl, by kernel_rfl, by kernel_rfl, by kernel_rfl, by kernel_rfl, [([], []), ([0], []), ([1], []), ([2], []), ([2, 3], []), ([2, 4], []), ([2, 5], []), ([6], []), ([6, 7], []), ([6, 8], []), ([6, 9], []), ([6, 10], []), ([11], []), ([11, 12], []), ([11, 13], []), ([11], []), ([11, 15], []), ([11, 16], []), ([11, 17], []), ([11, 18], []), ([11, 14, 19], []), ([11, 20], []), ([6, 11, 21], []), ([2, 6, 22], []), ([2, 23], [])], by kernel_rfl, ⟨fun S hS => g_fin rfl (g_op rfl (s_loada_bp (lt_of rfl) (ov_ev hS rfl) (i := 0) rfl agg_25 (es := (encApiProgram p_0)) rfl rfl)),
      fun S hS => g_fin rfl (g_op rfl (s_call (lt_of rfl) (.func _ _ Try.call13) (ev2 (ov_ev hS rfl) evn) rfl (BVs.refl _ _) (deucelaw08_huge_c _ h3) rfl)),
      fun S hS => g_fin rfl (g_op rfl (s_move (v := .d (.lit (.bool r2))) (lt_of rfl) (ov_ev hS rfl) rfl)),
      fun S hS => g_fin rfl (g_take rfl rfl (lt_of rfl) (ov_en hS rfl) c6 (s_loada_bp (lt_of rfl) (ov_ev hS rfl) (i := 0) rfl agg_25 (es := (encApiProgram p_0)) rfl rfl)),
      fun S hS => g_fin rfl (g_take rfl rfl (lt_of rfl) (ov_en hS rfl) c6 (s_call (lt_of rfl) (.func _ _ Try.call14) (ev2 (ov_ev hS rfl) evn) rfl (BVs.refl _ _) (deuceref08_Check_c _ h8) rfl)),
      fun S hS => g_fin rfl (g_take rfl rfl (lt_of rfl) (ov_en hS rfl) c6 (s_cmp (lt_of rfl) (ov_ev hS rfl) rfl rfl)),
      fun S hS => g_fin rfl (g_take rfl rfl (lt_of rfl) (ov_en hS rfl) c6 (s_move (v := .d (.lit (.bool ((decide (r7 = 0)))))) (lt_of rfl) (ov_ev hS rfl) rfl)),
      fun S hS => g_fin rfl (g_take rfl rfl (lt_of rfl) (ov_en hS rfl) c11 (s_field_bp (lt_of rfl) (ov_ev hS rfl) fld_25_2)),
      fun S hS => g_fin rfl (g_take rfl rfl (lt_of rfl) (ov_en hS rfl) c11 (s_load_bp (lt_of rfl) (ov_ev hS rfl) (i := 0) rfl rfl one_23)),
      fun S hS => g_fin rfl (g_take rfl rfl (lt_of rfl) (ov_en hS rfl) c11 (s_lenm (lt_of rfl) (ov_ev hS rfl) sl_23.of)),
      fun S hS => g_fin rfl (g_take rfl rfl (lt_of rfl) (ov_en hS rfl) c11 (s_cmp (lt_of rfl) (ov_ev hS rfl) rfl rfl)),
      fun S hS => g_fin rfl (g_take rfl rfl (lt_of rfl) (ov_en hS rfl) c11 (s_move (v := .d (.lit (.bool ((decide (4 < (p_0.Jobs.length : Int))))))) (lt_of rfl) (ov_ev hS rfl) rfl)),
      fun S hS => g_fin rfl (g_take rfl rfl (lt_of rfl) (ov_en hS rfl) c14 (s_field_bp (lt_of rfl) (ov_ev hS rfl) fld_25_0)),
      fun S hS => g_fin rfl (g_take rfl rfl (lt_of rfl) (ov_en hS rfl) c14 (s_load_bp (lt_of rfl) (ov_ev hS rfl) (i := 0) rfl rfl one_22)),
      fun S hS => g_fin rfl (g_take rfl rfl (lt_of rfl) (ov_en hS rfl) c14 (s_lenm (lt_of rfl) (ov_ev hS rfl) sl_22.of)),
      fun S hS => g_fin rfl (g_take rfl rfl (lt_of rfl) (ov_en hS rfl) c14 (s_field_bp (lt_of rfl) (ov_ev hS rfl) fld_25_0)),
      fun S hS => g_fin rfl (g_take rfl rfl (lt_of rfl) (ov_en hS rfl) c14 (s_load_bp (lt_of rfl) (ov_ev hS rfl) (i := 0) rfl rfl one_22)),
      fun S hS => g_fin rfl (g_take rfl rfl (lt_of rfl) (ov_en hS rfl) c14 (s_index_sl (lt_of rfl) (ov_ev hS rfl) rfl sl_22.of (idx_map encSl_ApiSpan h16))),
      fun S hS => g_fin rfl (g_take rfl rfl (lt_of rfl) (ov_en hS rfl) c14 (s_load_cp (lt_of rfl) (ov_ev hS rfl) one_37)),
      fun S hS => g_fin rfl (g_take rfl rfl (lt_of rfl) (ov_en hS rfl) c14 (s_lenm (lt_of rfl) (ov_ev hS rfl) sl_37.of)),
      fun S hS => g_fin rfl (g_take rfl rfl (lt_of rfl) (ov_en hS rfl) c14 (s_arith (lt_of rfl) (ov_ev hS rfl) (ov_ev hS rfl) rfl)),
      fun S hS => g_fin rfl (g_take rfl rfl (lt_of rfl) (ov_en hS rfl) c14 (s_cmp (lt_of rfl) (ov_ev hS rfl) rfl rfl)),
      fun S hS => g_fin rfl (g_take rfl rfl (lt_of rfl) (ov_en hS rfl) c11 (s_pick_f (v := .d (.lit (.bool ((decide (4 < (w64 ((p_0.Days.length : Int) * (x15.length : Int))))))))) (lt_of rfl) (ov_ev hS rfl) c14 (ov_ev hS rfl) rfl)),
      fun S hS => g_fin rfl (g_take rfl rfl (lt_of rfl) (ov_en hS rfl) c6 (s_pick_t (v := .d (.lit (.bool (decide (4 < (w64 ((p_0.Days.length : Int) * (x15.length : Int)))))))) (lt_of rfl) (ov_ev hS rfl) c11 (ov_ev hS rfl) rfl)),
      fun S hS => g_fin rfl (g_op rfl (s_pick_f (v := .d (.lit (.bool (decide (4 < (w64 ((p_0.Days.length : Int) * (x15.length : Int)))))))) (lt_of rfl) (ov_ev hS rfl) c6 (ov_ev hS rfl) rfl)), trivial⟩⟩
          · exact ent_le (le_upd rfl (le_keep trivial))
      · have h10 := cond_ff c11 h10
        have h10 := Option.some.inj h10
        subst h10
        have h5 := Option.some.inj h5
        subst h5
        refine ⟨[(3, 0, .agg (encApiProgram p_0)), (4, 1, .d (.lit (.bool r2))), (5, 2, .d (.lit (.bool r2))), (6, 3, .agg (encApiProgram p_0)), (7, 4, .d (.lit (.int .i64 r7))), (8, 5, .d (.lit (.bool ((decide (r7 = 0)))))), (9, 6, .d (.lit (.bool ((decide (r7 = 0)))))), (10, 7, .tup []), (11, 8, .tup []), (12, 9, .tup []), (13, 10, .tup []), (14, 11, .tup []), (15, 12, .tup []), (16, 13, .tup []), (17, 14, .tup []), (18, 15, .tup []), (19, 16, .tup []), (20, 17, .tup []), (21, 18, .tup []), (22, 19, .tup []), (23, 20, .tup []), (24, 21, .tup []), (25, 22, .tup []), (26, 23, .d (.lit (.bool false))), (27, 24, .d (.lit (.bool (false))))], ?_, ?_⟩
        · exact ⟨by kernel_rfl, by kernel_rfl, by kernel_rfl, by kernel_rfl, by kernel_rfl, [([], []), ([0], []), ([1], []), ([2], []), ([2, 3], []), ([2, 4], []), ([2, 5], []), ([6], []), ([6, 7], []), ([6, 8], []), ([6, 9], []), ([6, 10], []), ([11], []), ([11, 12], []), ([11, 13], []), ([11], []), ([11, 15], []), ([11, 16], []), ([11, 17], []), ([11, 18], []), ([11, 14, 19], []), ([11, 20], []), ([6, 11, 21], []), ([2, 6, 22], []), ([2, 23], [])], by kernel_rfl, ⟨fun S hS => g_fin rfl (g_op rfl (s_loada_bp (lt_of rfl) (ov_ev hS rfl) (i := 0) rfl agg_25 (es := (encApiProgram p_0)) rfl rfl)),
      fun S hS => g_fin rfl (g_op rfl (s_call (lt_of rfl) (.func _ _ Try.call13) (ev2 (ov_ev hS rfl) evn) rfl (BVs.refl _ _) (deucelaw08_huge_c _ h3) rfl)),
      fun S hS => g_fin rfl (g_op rfl (s_move (v := .d (.lit (.bool r2))) (lt_of rfl) (ov_ev hS rfl) rfl)),
      fun S hS => g_fin rfl (g_take rfl rfl (lt_of rfl) (ov_en hS rfl) c6 (s_loada_bp (lt_of rfl) (ov_ev hS rfl) (i := 0) rfl agg_25 (es := (encApiProgram p_0)) rfl rfl)),
      fun S hS => g_fin rfl (g_take rfl rfl (lt_of rfl) (ov_en hS rfl) c6 (s_call (lt_of rfl) (.func _ _ Try.call14) (ev2 (ov_ev hS rfl) evn) rfl (BVs.refl _ _) (deuceref08_Check_c _ h8) rfl)),
      fun S hS => g_fin rfl (g_take rfl rfl (lt_of rfl) (ov_en hS rfl) c6 (s_cmp (lt_of rfl) (ov_ev hS rfl) rfl rfl)),
      fun S hS => g_fin rfl (g_take rfl rfl (lt_of rfl) (ov_en hS rfl) c6 (s_move (v := .d (.lit (.bool ((decide (r7 = 0)))))) (lt_of rfl) (ov_ev hS rfl) rfl)),
      fun S hS => g_fin rfl (g_pass rfl rfl (lt_of rfl) rfl (lt_of rfl) (ov_en hS rfl) c11),
      fun S hS => g_fin rfl (g_pass rfl rfl (lt_of rfl) rfl (lt_of rfl) (ov_en hS rfl) c11),
      fun S hS => g_fin rfl (g_pass rfl rfl (lt_of rfl) rfl (lt_of rfl) (ov_en hS rfl) c11),
      fun S hS => g_fin rfl (g_pass rfl rfl (lt_of rfl) rfl (lt_of rfl) (ov_en hS rfl) c11),
      fun S hS => g_fin rfl (g_pass rfl rfl (lt_of rfl) rfl (lt_of rfl) (ov_en hS rfl) c11),
      fun S hS => g_fin rfl (g_pass' rfl rfl (lt_of rfl) rfl (lt_of rfl) (ov_en hS rfl)),
      fun S hS => g_fin rfl (g_pass' rfl rfl (lt_of rfl) rfl (lt_of rfl) (ov_en hS rfl)),
      fun S hS => g_fin rfl (g_pass' rfl rfl (lt_of rfl) rfl (lt_of rfl) (ov_en hS rfl)),
      fun S hS => g_fin rfl (g_pass' rfl rfl (lt_of rfl) rfl (lt_of rfl) (ov_en hS rfl)),
      fun S hS => g_fin rfl (g_pass' rfl rfl (lt_of rfl) rfl (lt_of rfl) (ov_en hS rfl)),
      fun S hS => g_fin rfl (g_pass' rfl rfl (lt_of rfl) rfl (lt_of rfl) (ov_en hS rfl)),
      fun S hS => g_fin rfl (g_pass' rfl rfl (lt_of rfl) rfl (lt_of rfl) (ov_en hS rfl)),
      fun S hS => g_fin rfl (g_pass' rfl rfl (lt_of rfl) rfl (lt_of rfl) (ov_en hS rfl)),
      fun S hS => g_fin rfl (g_pass' rfl rfl (lt_of rfl) rfl (lt_of rfl) (ov_en hS rfl)),
      fun S hS => g_fin rfl (g_pass' rfl rfl (lt_of rfl) rfl (lt_of rfl) (ov_en hS rfl)),
      fun S hS => g_fin rfl (g_pass rfl rfl (lt_of rfl) rfl (lt_of rfl) (ov_en hS rfl) c11),
      fun S hS => g_fin rfl (g_take rfl rfl (lt_of rfl) (ov_en hS rfl) c6 (s_pick_f (v := .d (.lit (.bool false))) (lt_of rfl) (ov_ev hS rfl) c11 rfl rfl)),
      fun S hS => g_fin rfl (g_op rfl (s_pick_f (v := .d (.lit (.bool (false)))) (lt_of rfl) (ov_ev hS rfl) c6 (ov_ev hS rfl) rfl)), trivial⟩⟩
        · exact ent_le (le_upd rfl (le_keep trivial))
  · refine tr1 rfl (s_assign (v := .d (.lit (.bool b4))) (lt_of rfl) rfl rfl) ?_
    refine tr_nil ?_
    have h := Option.some.inj h
    subst h
    refine tr_ent (ent_free (ble_keep (l := [2]) ⟨rfl, trivial⟩)) ?_
    exact tr_ret ⟨rfl, _, .one _, rfl, rfl⟩

theorem play_Best_c (p_0 : ApiProgram) {r : (List ApiSeat) × Int} (h : play_Best p_0 = some r) : Fn Try.prog 30 [.agg (encApiProgram p_0)] (.tup [.d (.sl 3 (r.1.map encApiSeat)), .d (.lit (.int .i64 r.2))]) := by
  unfold play_Best at h
  refine Fn.of_tr Try.func30 rfl (rs := [.tmp 2, .tmp 3]) Try.results30 Try.ntmps30 (Nat.le_of_ble_eq_true rfl) ?_
  refine tr_seq ?_
  refine tr_region ?_
  refine tr_op rfl (s_box (v := .agg (encApiProgram p_0)) (lt_of rfl) rfl rfl rfl) ?_
  rintro _ ⟨b1, rfl⟩
  refine tr1 rfl (s_nil 3 (lt_of rfl)) ?_
  refine tr1 rfl (s_assign (v := .d (.lit (.int .i64 0))) (lt_of rfl) rfl rfl) ?_
  refine tr_nil ?_
  refine tr_seq ?_
  refine tr_seq ?_
  refine tr_region ?_
  refine tr1 rfl (s_loada_bp (lt_of rfl) rfl (i := 0) rfl agg_25 (es := (encApiProgram p_0)) rfl rfl) ?_
  obtain ⟨r2, h3, h⟩ := bind_some h
  refine tr1 rfl (s_call (lt_of rfl) (.func _ _ Try.call25) rfl rfl (BVs.refl _ _) (play_Check_c _ h3) rfl) ?_
  refine tr1 rfl (s_assign (v := .d (.lit (.int .i64 r2))) (lt_of rfl) rfl rfl) ?_
  refine tr_nil ?_
  refine tr_seq ?_
  refine tr_region ?_
  refine tr1 rfl (s_move (v := .d (.lit (.int .i64 r2))) (lt_of rfl) rfl rfl) ?_
  refine tr1 rfl (s_cmp (lt_of rfl) rfl rfl rfl) ?_
  refine tr_nil ?_
  refine tr_if rfl (fun c4 => ?_) (fun c4 => ?_)
  · have h := cond_tt c4 h
    refine tr_seq ?_
    refine tr_region ?_
    refine tr1 rfl (s_move (v := .d (.lit (.int .i64 r2))) (lt_of rfl) rfl rfl) ?_
    refine tr1 rfl (s_nil 3 (lt_of rfl)) ?_
    refine tr1 rfl (s_assign (v := .d (.lit (.int .i64 r2))) (lt_of rfl) rfl rfl) ?_
    refine tr_nil ?_
    have h := Option.some.inj h
    subst h
    refine tr_ent (ent_free (ble_keep (l := [2, 3]) ⟨rfl, rfl, trivial⟩)) ?_
    exact tr_ret ⟨rfl, _, .two _ _, rfl, rfl⟩
  · have h := cond_ff c4 h
    refine tr_skip ?_
    refine tr_seq ?_
    refine tr_region ?_
    refine tr1 rfl (s_loada_bp (lt_of rfl) rfl (i := 0) rfl agg_25 (es := (encApiProgram p_0)) rfl rfl) ?_
    obtain ⟨r5, h6, h⟩ := bind_some h
    refine tr1 rfl (s_callf (lt_of rfl) (.func _ _ Try.call56) rfl rfl (play_best_c _ h6)) ?_
    refine tr1 rfl (s_move (v := .tup [.d (.lit (.int .i64 r5.1)), .d (.sl 3 (r5.2.1.map encApiSeat)), .d (.lit (.bool r5.2.2))]) (lt_of rfl) rfl rfl) ?_
    refine tr1 rfl (s_extract (lt_of rfl) rfl rfl) ?_
    refine tr1 rfl (s_extract (lt_of rfl) rfl rfl) ?_
    refine tr1 rfl (s_extract (lt_of rfl) rfl rfl) ?_
    refine tr1 rfl (s_assign (v := .d (.lit (.int .i64 r5.1))) (lt_of rfl) rfl rfl) ?_
    refine tr1 rfl (s_assign (v := .d (.sl 3 (r5.2.1.map encApiSeat))) (lt_of rfl) rfl rfl) ?_
    refine tr1 rfl (s_assign (v := .d (.lit (.bool r5.2.2))) (lt_of rfl) rfl rfl) ?_
    refine tr_nil ?_
    refine tr_seq ?_
    refine tr_seq ?_
    refine tr_region ?_
    refine tr1 rfl (s_move (v := .d (.lit (.bool r5.2.2))) (lt_of rfl) rfl rfl) ?_
    refine tr1 rfl (s_not (lt_of rfl) rfl) ?_
    refine tr_nil ?_
    refine tr_if rfl (fun c7 => ?_) (fun c7 => ?_)
    · have h := cond_tt c7 h
      refine tr_seq ?_
      refine tr_region ?_
      refine tr1 rfl (s_nil 3 (lt_of rfl)) ?_
      refine tr1 rfl (s_assign (v := .d (.lit (.int .i64 3))) (lt_of rfl) rfl rfl) ?_
      refine tr_nil ?_
      have h := Option.some.inj h
      subst h
      refine tr_ent (ent_free (ble_keep (l := [2, 3]) ⟨rfl, rfl, trivial⟩)) ?_
      exact tr_ret ⟨rfl, _, .two _ _, rfl, rfl⟩
    · have h := cond_ff c7 h
      refine tr_skip ?_
      refine tr_seq ?_
      refine tr_region ?_
      refine tr1 rfl (s_move (v := .d (.sl 3 (r5.2.1.map encApiSeat))) (lt_of rfl) rfl rfl) ?_
      refine tr1 rfl (s_assign (v := .d (.sl 3 (r5.2.1.map encApiSeat))) (lt_of rfl) rfl rfl) ?_
      refine tr1 rfl (s_assign (v := .d (.lit (.int .i64 0))) (lt_of rfl) rfl rfl) ?_
      refine tr_nil ?_
      have h := Option.some.inj h
      subst h
      refine tr_ent (ent_free (ble_keep (l := [2, 3]) ⟨rfl, rfl, trivial⟩)) ?_
      exact tr_ret ⟨rfl, _, .two _ _, rfl, rfl⟩

theorem deuceref08_IsOld_c (p_0 : ApiProgram) (old_1 : List ApiSeat) {r : Bool} (h : deuceref08_IsOld p_0 old_1 = some r) : Fn Try.prog 31 [.agg (encApiProgram p_0), .d (.sl 3 (old_1.map encApiSeat))] (.d (.lit (.bool r))) := by
  unfold deuceref08_IsOld at h
  refine Fn.of_tr Try.func31 rfl (rs := [.tmp 4]) Try.results31 Try.ntmps31 (Nat.le_of_ble_eq_true rfl) ?_
  refine tr_seq ?_
  refine tr_region ?_
  refine tr_op rfl (s_box (v := .agg (encApiProgram p_0)) (lt_of rfl) rfl rfl rfl) ?_
  rintro _ ⟨b1, rfl⟩
  refine tr1 rfl (s_assign (v := .d (.lit (.bool false))) (lt_of rfl) rfl rfl) ?_
  refine tr_nil ?_
  refine tr_seq ?_
  refine tr_seq ?_
  refine tr_region ?_
  refine tr1 rfl (s_assign (v := .d (.lit (.int .i64 0))) (lt_of rfl) rfl rfl) ?_
  refine tr_nil ?_
  refine tr_blk ?_
  refine tr_loopk [1, 2] (fun (s2 : Int) => [(5, .d (.lit (.int .i64 s2)))]) (fun (s2 : Int) => [.box b1 0 (encApiProgram p_0)]) (fun (k : Nat) (s2 : Int) => deuceref08_IsOld_L0 old_1 p_0 k s2) (fun _ => rfl) (0) h (ent_pick [0] rfl rfl (le_upd rfl (le_keep ⟨rfl, rfl, trivial⟩))) ?_
  rintro k3 i_0_2 h
  simp only [deuceref08_IsOld_L0] at h
  refine tr_seq ?_
  refine tr_seq ?_
  refine tr_region ?_
  refine tr1 rfl (s_move (v := .d (.lit (.int .i64 i_0_2))) (lt_of rfl) rfl rfl) ?_
  refine tr1 rfl (s_move (v := .d (.sl 3 (old_1.map encApiSeat))) (lt_of rfl) rfl rfl) ?_
  refine tr1 rfl (s_lenm (lt_of rfl) rfl sl_26.of) ?_
  refine tr1 rfl (s_cmp (lt_of rfl) rfl rfl rfl) ?_
  refine tr_nil ?_
  refine tr_if rfl (fun c4 => ?_) (fun c4 => ?_)
  · have h := cond_tt c4 h
    refine tr_skip ?_
    refine tr_seq ?_
    refine tr_blk ?_
    refine tr_seq ?_
    refine tr_region ?_
    refine tr1 rfl (s_move (v := .d (.sl 3 (old_1.map encApiSeat))) (lt_of rfl) rfl rfl) ?_
    refine tr1 rfl (s_move (v := .d (.lit (.int .i64 i_0_2))) (lt_of rfl) rfl rfl) ?_
    obtain ⟨x5, h6, h⟩ := bind_some h
    refine tr1 rfl (s_index_sl (lt_of rfl) rfl rfl sl_26.of (idx_map encApiSeat h6)) ?_
    refine tr1 rfl (s_loada_cp (lt_of rfl) rfl agg_45 (es := (encApiSeat x5)) rfl rfl) ?_
    refine tr_op rfl (s_alloc (zs := [.lit (.int .i64 0), .lit (.int .i64 0), .lit (.int .i64 0)]) (lt_of rfl) Try.zeroValue45 rfl rfl) ?_
    rintro _ ⟨b7, rfl⟩
    refine tr1 rfl (s_store_bp (i := 1) rfl rfl rfl rfl rfl Try.sizeOf45 rfl (lt_of rfl) (Nat.le_of_ble_eq_true rfl) (ds' := (encApiSeat x5)) rfl) ?_
    refine tr_nil ?_
    refine tr_seq ?_
    obtain ⟨r8, h9, h⟩ := bind_some h
    obtain ⟨b10, h11, h⟩ := bind_some h
    refine tr_drawk mix 16 [1, 2, 5, 6] [(32, .d (.lit (.bool b10)))] ?_ ?_
    · refine bool_cases (!r8) (fun c12 => ?_) (fun c12 => ?_)
      · have h11 := cond_tt c12 h11
        have h11 := Option.some.inj h11
        subst h11
        refine ⟨[(17, 0, .bp b7 0 0), (18, 1, .d (.lit (.int .i64 x5.Job))), (19, 2, .bp b1 0 2), (20, 3, .d (.sl 6 (p_0.Jobs.map encApiJob))), (21, 4, .d (.lit (.int .i64 ((p_0.Jobs.length : Int))))), (22, 5, .d (.lit (.int .i64 ((w64 ((p_0.Jobs.length : Int) - 1)))))), (23, 6, .d (.lit (.bool r8))), (24, 7, .d (.lit (.bool (!r8)))), (25, 8, .d (.lit (.bool (!r8)))), (26, 9, .tup []), (27, 10, .tup []), (28, 11, .tup []), (29, 12, .tup []), (30, 13, .tup []), (31, 14, .tup []), (32, 15, .d (.lit (.bool true)))], ?_, ?_⟩
        · exact ⟨by kernel_rfl, by kernel_rfl, by kernel_rfl, by kernel_rfl, by kernel_rfl, [([], []), ([0], []), ([], []), ([2], []), ([3], []), ([4], []), ([1, 5], []), ([6], []), ([7], []), ([8], []), ([8], []), ([8, 9, 10], []), ([8], []), ([8, 12], []), ([8, 11, 13], []), ([8, 14], [])], by kernel_rfl, ⟨fun S hS => g_fin rfl (g_op rfl (s_field_bp (lt_of rfl) (ov_ev hS rfl) fld_45_0)),
      fun S hS => g_fin rfl (g_op rfl (s_load_bp (lt_of rfl) (ov_ev hS rfl) (i := 1) rfl rfl one_3)),
      fun S hS => g_fin rfl (g_op rfl (s_field_bp (lt_of rfl) (ov_ev hS rfl) fld_25_2)),
      fun S hS => g_fin rfl (g_op rfl (s_load_bp (lt_of rfl) (ov_ev hS rfl) (i := 0) rfl rfl one_23)),
      fun S hS => g_fin rfl (g_op rfl (s_lenm (lt_of rfl) (ov_ev hS rfl) sl_23.of)),
      fun S hS => g_fin rfl (g_op rfl (s_arith (lt_of rfl) (ov_ev hS rfl) rfl rfl)),
      fun S hS => g_fin rfl (g_op rfl (s_call (lt_of rfl) (.func _ _ Try.call46) (ev2 (ov_ev hS rfl) (ev2 rfl (ev2 (ov_ev hS rfl) evn))) rfl (BVs.refl _ _) (deuceref08_within_c _ _ _ h9) rfl)),
      fun S hS => g_fin rfl (g_op rfl (s_not (lt_of rfl) (ov_ev hS rfl))),
      fun S hS => g_fin rfl (g_op rfl (s_move (v := .d (.lit (.bool (!r8)))) (lt_of rfl) (ov_ev hS rfl) rfl)),
      fun S hS => g_fin rfl (g_pass rfl rfl (lt_of rfl) rfl (lt_of rfl) (ov_en hS rfl) c12),
      fun S hS => g_fin rfl (g_pass rfl rfl (lt_of rfl) rfl (lt_of rfl) (ov_en hS rfl) c12),
      fun S hS => g_fin rfl (g_pass rfl rfl (lt_of rfl) rfl (lt_of rfl) (ov_en hS rfl) c12),
      fun S hS => g_fin rfl (g_pass rfl rfl (lt_of rfl) rfl (lt_of rfl) (ov_en hS rfl) c12),
      fun S hS => g_fin rfl (g_pass rfl rfl (lt_of rfl) rfl (lt_of rfl) (ov_en hS rfl) c12),
      fun S hS => g_fin rfl (g_pass rfl rfl (lt_of rfl) rfl (lt_of rfl) (ov_en hS rfl) c12),
      fun S hS => g_fin rfl (g_op rfl (s_pick_t (v := .d (.lit (.bool true))) (lt_of rfl) (ov_ev hS rfl) c12 rfl rfl)), trivial⟩⟩
        · exact ent_le (le_upd rfl (le_keep ⟨rfl, rfl, rfl, rfl, trivial⟩))
      · have h11 := cond_ff c12 h11
        obtain ⟨x13, h14, h11⟩ := bind_some h11
        obtain ⟨r15, h16, h11⟩ := bind_some h11
        have h11 := Option.some.inj h11
        subst h11
        refine ⟨[(17, 0, .bp b7 0 0), (18, 1, .d (.lit (.int .i64 x5.Job))), (19, 2, .bp b1 0 2), (20, 3, .d (.sl 6 (p_0.Jobs.map encApiJob))), (21, 4, .d (.lit (.int .i64 ((p_0.Jobs.length : Int))))), (22, 5, .d (.lit (.int .i64 ((w64 ((p_0.Jobs.length : Int) - 1)))))), (23, 6, .d (.lit (.bool r8))), (24, 7, .d (.lit (.bool (!r8)))), (25, 8, .d (.lit (.bool (!r8)))), (26, 9, .d (.sl 3 (old_1.map encApiSeat))), (27, 10, .d (.lit (.int .i64 i_0_2))), (28, 11, .d (.sl 3 (x13.map encApiSeat))), (29, 12, .bp b7 0 0), (30, 13, .d (.lit (.int .i64 x5.Job))), (31, 14, .d (.lit (.bool r15))), (32, 15, .d (.lit (.bool r15)))], ?_, ?_⟩
        · exact ⟨by kernel_rfl, by kernel_rfl, by kernel_rfl, by kernel_rfl, by kernel_rfl, [([], []), ([0], []), ([], []), ([2], []), ([3], []), ([4], []), ([1, 5], []), ([6], []), ([7], []), ([8], []), ([8], []), ([8, 9, 10], []), ([8], []), ([8, 12], []), ([8, 11, 13], []), ([8, 14], [])], by kernel_rfl, ⟨fun S hS => g_fin rfl (g_op rfl (s_field_bp (lt_of rfl) (ov_ev hS rfl) fld_45_0)),
      fun S hS => g_fin rfl (g_op rfl (s_load_bp (lt_of rfl) (ov_ev hS rfl) (i := 1) rfl rfl one_3)),
      fun S hS => g_fin rfl (g_op rfl (s_field_bp (lt_of rfl) (ov_ev hS rfl) fld_25_2)),
      fun S hS => g_fin rfl (g_op rfl (s_load_bp (lt_of rfl) (ov_ev hS rfl) (i := 0) rfl rfl one_23)),
      fun S hS => g_fin rfl (g_op rfl (s_lenm (lt_of rfl) (ov_ev hS rfl) sl_23.of)),
      fun S hS => g_fin rfl (g_op rfl (s_arith (lt_of rfl) (ov_ev hS rfl) rfl rfl)),
      fun S hS => g_fin rfl (g_op rfl (s_call (lt_of rfl) (.func _ _ Try.call46) (ev2 (ov_ev hS rfl) (ev2 rfl (ev2 (ov_ev hS rfl) evn))) rfl (BVs.refl _ _) (deuceref08_within_c _ _ _ h9) rfl)),
      fun S hS => g_fin rfl (g_op rfl (s_not (lt_of rfl) (ov_ev hS rfl))),
      fun S hS => g_fin rfl (g_op rfl (s_move (v := .d (.lit (.bool (!r8)))) (lt_of rfl) (ov_ev hS rfl) rfl)),
      fun S hS => g_fin rfl (g_take rfl rfl (lt_of rfl) (ov_en hS rfl) c12 (s_move (v := .d (.sl 3 (old_1.map encApiSeat))) (lt_of rfl) (ov_ev hS rfl) rfl)),
      fun S hS => g_fin rfl (g_take rfl rfl (lt_of rfl) (ov_en hS rfl) c12 (s_move (v := .d (.lit (.int .i64 i_0_2))) (lt_of rfl) (ov_ev hS rfl) rfl)),
      fun S hS => g_fin rfl (g_take rfl rfl (lt_of rfl) (ov_en hS rfl) c12 (s_slice_sl (lt_of rfl) sl_26.of (ov_ev hS rfl) rfl (bo (ov_ev hS rfl)) (sub_map encApiSeat h14))),
      fun S hS => g_fin rfl (g_take rfl rfl (lt_of rfl) (ov_en hS rfl) c12 (s_field_bp (lt_of rfl) (ov_ev hS rfl) fld_45_0)),
      fun S hS => g_fin rfl (g_take rfl rfl (lt_of rfl) (ov_en hS rfl) c12 (s_load_bp (lt_of rfl) (ov_ev hS rfl) (i := 1) rfl rfl one_3)),
      fun S hS => g_fin rfl (g_take rfl rfl (lt_of rfl) (ov_en hS rfl) c12 (s_call (lt_of rfl) (.func _ _ Try.call67) (ev2 (ov_ev hS rfl) (ev2 (ov_ev hS rfl) evn)) rfl (BVs.refl _ _) (deuceref08_has_c _ _ h16) rfl)),
      fun S hS => g_fin rfl (g_op rfl (s_pick_f (v := .d (.lit (.bool r15))) (lt_of rfl) (ov_ev hS rfl) c12 (ov_ev hS rfl) rfl)), trivial⟩⟩
        · exact ent_le (le_upd rfl (le_keep ⟨rfl, rfl, rfl, rfl, trivial⟩))
    · refine tr1 rfl (s_move (v := .d (.lit (.bool b10))) (lt_of rfl) rfl rfl) ?_
      obtain ⟨b17, h18, h⟩ := bind_some h
      refine tr_guard 5 [1, 2, 5, 6] 38 b17 ?_ ?_
      · refine bool_cases (b10) (fun c25 => ?_) (fun c25 => ?_)
        · have h18 := cond_tt c25 h18
          refine tr_pass rfl rfl (lt_of rfl) rfl (lt_of rfl) rfl c25 ?_
          refine tr_pass rfl rfl (lt_of rfl) rfl (lt_of rfl) rfl c25 ?_
          refine tr_pass rfl rfl (lt_of rfl) rfl (lt_of rfl) rfl c25 ?_
          refine tr_pass rfl rfl (lt_of rfl) rfl (lt_of rfl) rfl c25 ?_
          refine tr1 rfl (s_pick_t (v := .d (.lit (.bool true))) (lt_of rfl) rfl c25 rfl rfl) ?_
          have h18 := Option.some.inj h18
          subst h18
          refine tr_nil (ent_keep rfl ⟨rfl, rfl, rfl, rfl, trivial⟩ rfl)
        · have h18 := cond_ff c25 h18
          refine tr_take1 rfl rfl (lt_of rfl) rfl c25 (s_field_bp (lt_of rfl) rfl fld_45_1) ?_
          refine tr_take1 rfl rfl (lt_of rfl) rfl c25 (s_load_bp (lt_of rfl) rfl (i := 1) rfl rfl one_3) ?_
          obtain ⟨r26, h27, h18⟩ := bind_some h18
          refine tr_take1 rfl rfl (lt_of rfl) rfl c25 (s_call (lt_of rfl) (.func _ _ Try.call46) rfl rfl (BVs.refl _ _) (deuceref08_within_c _ _ _ h27) rfl) ?_
          refine tr_take1 rfl rfl (lt_of rfl) rfl c25 (s_not (lt_of rfl) rfl) ?_
          refine tr1 rfl (s_pick_f (v := .d (.lit (.bool (!r26)))) (lt_of rfl) rfl c25 rfl rfl) ?_
          have h18 := Option.some.inj h18
          subst h18
          refine tr_nil (ent_keep rfl ⟨rfl, rfl, rfl, rfl, trivial⟩ rfl)
      · refine tr1 rfl (s_move (v := .d (.lit (.bool b17))) (lt_of rfl) rfl rfl) ?_
        obtain ⟨b19, h20, h⟩ := bind_some h
        refine tr_guard 5 [1, 2, 5] 44 b19 ?_ ?_
        · refine bool_cases (b17) (fun c22 => ?_) (fun c22 => ?_)
          · have h20 := cond_tt c22 h20
            refine tr_pass rfl rfl (lt_of rfl) rfl (lt_of rfl) rfl c22 ?_
            refine tr_pass rfl rfl (lt_of rfl) rfl (lt_of rfl) rfl c22 ?_
            refine tr_pass rfl rfl (lt_of rfl) rfl (lt_of rfl) rfl c22 ?_
            refine tr_pass rfl rfl (lt_of rfl) rfl (lt_of rfl) rfl c22 ?_
            refine tr1 rfl (s_pick_t (v := .d (.lit (.bool true))) (lt_of rfl) rfl c22 rfl rfl) ?_
            have h20 := Option.some.inj h20
            subst h20
            refine tr_nil (ent_keep rfl ⟨rfl, rfl, rfl, trivial⟩ rfl)
          · have h20 := cond_ff c22 h20
            refine tr_take1 rfl rfl (lt_of rfl) rfl c22 (s_field_bp (lt_of rfl) rfl fld_45_2) ?_
            refine tr_take1 rfl rfl (lt_of rfl) rfl c22 (s_load_bp (lt_of rfl) rfl (i := 1) rfl rfl one_3) ?_
            obtain ⟨r23, h24, h20⟩ := bind_some h20
            refine tr_take1 rfl rfl (lt_of rfl) rfl c22 (s_call (lt_of rfl) (.func _ _ Try.call46) rfl rfl (BVs.refl _ _) (deuceref08_within_c _ _ _ h24) rfl) ?_
            refine tr_take1 rfl rfl (lt_of rfl) rfl c22 (s_not (lt_of rfl) rfl) ?_
            refine tr1 rfl (s_pick_f (v := .d (.lit (.bool (!r23)))) (lt_of rfl) rfl c22 rfl rfl) ?_
            have h20 := Option.some.inj h20
            subst h20
            refine tr_nil (ent_keep rfl ⟨rfl, rfl, rfl, trivial⟩ rfl)
        · refine tr_nil ?_
          refine tr_if rfl (fun c21 => ?_) (fun c21 => ?_)
          · have h := cond_tt c21 h
            refine tr_seq ?_
            refine tr_region ?_
            refine tr1 rfl (s_assign (v := .d (.lit (.bool false))) (lt_of rfl) rfl rfl) ?_
            refine tr_nil ?_
            have h := Option.some.inj h
            subst h
            refine tr_ent (ent_free (ble_keep (l := [4]) ⟨rfl, trivial⟩)) ?_
            exact tr_ret ⟨rfl, _, .one _, rfl, rfl⟩
          · have h := cond_ff c21 h
            refine tr_skipb ?_
            refine tr_region ?_
            refine tr1 rfl (s_move (v := .d (.lit (.int .i64 i_0_2))) (lt_of rfl) rfl rfl) ?_
            refine tr1 rfl (s_arith (lt_of rfl) rfl rfl rfl) ?_
            refine tr1 rfl (s_assign (v := .d (.lit (.int .i64 ((w64 (i_0_2 + 1)))))) (lt_of rfl) rfl rfl) ?_
            refine tr_nil ?_
            exact ⟨(w64 (i_0_2 + 1)), h, ent_pick [0] rfl rfl (le_upd rfl (le_keep ⟨rfl, rfl, trivial⟩))⟩
  · have h := cond_ff c4 h
    refine tr_exit ?_
    refine .inl ⟨rfl, ?_⟩
    simp only [deuceref08_IsOld_K0] at h
    refine tr_seq ?_
    refine tr_region ?_
    refine tr1 rfl (s_move (v := .d (.sl 3 (old_1.map encApiSeat))) (lt_of rfl) rfl rfl) ?_
    refine tr1 rfl (s_lenm (lt_of rfl) rfl sl_26.of) ?_
    refine tr1 rfl (s_field_bp (lt_of rfl) rfl fld_25_2) ?_
    refine tr1 rfl (s_load_bp (lt_of rfl) rfl (i := 0) rfl rfl one_23) ?_
    refine tr1 rfl (s_lenm (lt_of rfl) rfl sl_23.of) ?_
    refine tr1 rfl (s_cmp (lt_of rfl) rfl rfl rfl) ?_
    refine tr1 rfl (s_assign (v := .d (.lit (.bool ((decide ((old_1.length : Int) = (p_0.Jobs.length : Int))))))) (lt_of rfl) rfl rfl) ?_
    refine tr_nil ?_
    have h := Option.some.inj h
    subst h
    refine tr_ent (ent_free (ble_keep (l := [4]) ⟨rfl, trivial⟩)) ?_
    exact tr_ret ⟨rfl, _, .one _, rfl, rfl⟩

theorem slices_IndexFunc_api_Seat_c (s_0 : List ApiSeat) (f_1 : ApiSeat → Option Bool) {r : Int} (f_1_f : Nat) (f_1_v : List AV) (f_1_e : ∀ args w, (callFunc f_1_f args).run Try.prog w = .ok (.enter f_1_f args) w) (f_1_h : ∀ (x0 : ApiSeat) r, f_1 x0 = some r → Fn Try.prog f_1_f ([.agg (encApiSeat x0)] ++ f_1_v) (.d (.lit (.bool r)))) (h : slices_IndexFunc_api_Seat s_0 f_1 = some r) : Fn Try.prog 129 [.d (.sl 3 (s_0.map encApiSeat)), .fn f_1_f f_1_v] (.d (.lit (.int .i64 r))) := by
  unfold slices_IndexFunc_api_Seat at h
  refine Fn.of_tr Try.func129 rfl (rs := [.tmp 4]) Try.results129 Try.ntmps129 (Nat.le_of_ble_eq_true rfl) ?_
  refine tr_seq ?_
  refine tr_region ?_
  refine tr1 rfl (s_assign (v := .d (.lit (.int .i64 0))) (lt_of rfl) rfl rfl) ?_
  refine tr_nil ?_
  refine tr_seq ?_
  refine tr_seq ?_
  refine tr_region ?_
  refine tr1 rfl (s_move (v := .d (.sl 3 (s_0.map encApiSeat))) (lt_of rfl) rfl rfl) ?_
  refine tr1 rfl (s_lenm (lt_of rfl) rfl sl_26.of) ?_
  refine tr1 rfl (s_move (v := .d (.lit (.int .i64 0))) (lt_of rfl) rfl rfl) ?_
  refine tr_nil ?_
  refine tr_blk ?_
  refine tr_loopk [0, 1, 7] (fun (s1 : Int) => [(8, .d (.lit (.int .i64 s1)))]) (fun (s1 : Int) => []) (fun (k : Nat) (s1 : Int) => slices_IndexFunc_api_Seat_L0 s_0 f_1 (s_0.length : Int) k s1) (fun _ => rfl) (0) h (ent_pick [] rfl rfl (le_upd rfl (le_keep ⟨rfl, rfl, rfl, trivial⟩))) ?_
  rintro k2 t8_0_1 h
  simp only [slices_IndexFunc_api_Seat_L0] at h
  refine tr_seq ?_
  refine tr_region ?_
  refine tr1 rfl (s_cmp (lt_of rfl) rfl rfl rfl) ?_
  refine tr_nil ?_
  refine tr_seq ?_
  refine tr_if rfl (fun c3 => ?_) (fun c3 => ?_)
  · have h := cond_tt c3 h
    refine tr_skip ?_
    refine tr_seq ?_
    refine tr_blk ?_
    refine tr_seq ?_
    refine tr_region ?_
    refine tr1 rfl (s_move (v := .d (.lit (.int .i64 t8_0_1))) (lt_of rfl) rfl rfl) ?_
    refine tr1 rfl (s_assign (v := .d (.lit (.int .i64 t8_0_1))) (lt_of rfl) rfl rfl) ?_
    refine tr_nil ?_
    refine tr_seq ?_
    refine tr_region ?_
    refine tr1 rfl (s_move (v := .fn f_1_f f_1_v) (lt_of rfl) rfl rfl) ?_
    refine tr1 rfl (s_move (v := .d (.sl 3 (s_0.map encApiSeat))) (lt_of rfl) rfl rfl) ?_
    refine tr1 rfl (s_move (v := .d (.lit (.int .i64 t8_0_1))) (lt_of rfl) rfl rfl) ?_
    obtain ⟨x4, h5, h⟩ := bind_some h
    refine tr1 rfl (s_index_sl (lt_of rfl) rfl rfl sl_26.of (idx_map encApiSeat h5)) ?_
    refine tr1 rfl (s_loada_cp (lt_of rfl) rfl agg_45 (es := (encApiSeat x4)) rfl rfl) ?_
    obtain ⟨r6, h7, h⟩ := bind_some h
    refine tr1 rfl (s_call (lt_of rfl) (.clo _ _ _ _ f_1_e rfl) (evap rfl) rfl (BVs.refl _ _) (f_1_h _ _  h7) rfl) ?_
    refine tr_nil ?_
    refine tr_if rfl (fun c8 => ?_) (fun c8 => ?_)
    · have h := cond_tt c8 h
      refine tr_seq ?_
      refine tr_region ?_
      refine tr1 rfl (s_move (v := .d (.lit (.int .i64 t8_0_1))) (lt_of rfl) rfl rfl) ?_
      refine tr1 rfl (s_assign (v := .d (.lit (.int .i64 t8_0_1))) (lt_of rfl) rfl rfl) ?_
      refine tr_nil ?_
      have h := Option.some.inj h
      subst h
      exact tr_ret ⟨rfl, _, .one _, rfl, rfl⟩
    · have h := cond_ff c8 h
      refine tr_skipb ?_
      refine tr_region ?_
      refine tr1 rfl (s_arith (lt_of rfl) rfl rfl rfl) ?_
      refine tr1 rfl (s_move (v := .d (.lit (.int .i64 ((w64 (t8_0_1 + 1)))))) (lt_of rfl) rfl rfl) ?_
      refine tr_nil ?_
      exact ⟨(w64 (t8_0_1 + 1)), h, ent_pick [] rfl rfl (le_upd rfl (le_keep ⟨rfl, rfl, rfl, trivial⟩))⟩
  · have h := cond_ff c3 h
    refine tr_exit ?_
    refine .inl ⟨rfl, ?_⟩
    simp only [slices_IndexFunc_api_Seat_K0] at h
    refine tr_seq ?_
    refine tr_region ?_
    refine tr1 rfl (s_assign (v := .d (.lit (.int .i64 (-1)))) (lt_of rfl) rfl rfl) ?_
    refine tr_nil ?_
    have h := Option.some.inj h
    subst h
    exact tr_ret ⟨rfl, _, .one _, rfl, rfl⟩

theorem slices_ContainsFunc_api_Seat_c (s_0 : List ApiSeat) (f_1 : ApiSeat → Option Bool) {r : Bool} (f_1_f : Nat) (f_1_v : List AV) (f_1_e : ∀ args w, (callFunc f_1_f args).run Try.prog w = .ok (.enter f_1_f args) w) (f_1_h : ∀ (x0 : ApiSeat) r, f_1 x0 = some r → Fn Try.prog f_1_f ([.agg (encApiSeat x0)] ++ f_1_v) (.d (.lit (.bool r)))) (h : slices_ContainsFunc_api_Seat s_0 f_1 = some r) : Fn Try.prog 111 [.d (.sl 3 (s_0.map encApiSeat)), .fn f_1_f f_1_v] (.d (.lit (.bool r))) := by
  unfold slices_ContainsFunc_api_Seat at h
  refine Fn.of_tr Try.func111 rfl (rs := [.tmp 4]) Try.results111 Try.ntmps111 (Nat.le_of_ble_eq_true rfl) ?_
  refine tr_seq ?_
  refine tr_region ?_
  refine tr1 rfl (s_assign (v := .d (.lit (.bool false))) (lt_of rfl) rfl rfl) ?_
  refine tr_nil ?_
  refine tr_seq ?_
  refine tr_region ?_
  refine tr1 rfl (s_move (v := .d (.sl 3 (s_0.map encApiSeat))) (lt_of rfl) rfl rfl) ?_
  refine tr1 rfl (s_move (v := .fn f_1_f f_1_v) (lt_of rfl) rfl rfl) ?_
  obtain ⟨r1, h2, h⟩ := bind_some h
  refine tr1 rfl (s_call (lt_of rfl) (.func _ _ Try.call129) rfl rfl (BVs.refl _ _) (slices_IndexFunc_api_Seat_c _ _ f_1_f f_1_v f_1_e f_1_h h2) rfl) ?_
  refine tr1 rfl (s_cmp (lt_of rfl) rfl rfl rfl) ?_
  refine tr1 rfl (s_assign (v := .d (.lit (.bool ((decide (0 ≤ r1)))))) (lt_of rfl) rfl rfl) ?_
  refine tr_nil ?_
  have h := Option.some.inj h
  subst h
  exact tr_ret ⟨rfl, _, .one _, rfl, rfl⟩

theorem play_isOld_1_c (o_0 : ApiSeat) (c_1 : ApiSeat) {r : Bool} (h : play_isOld_1 o_0 c_1 = some r) : Fn Try.prog 112 [.agg (encApiSeat o_0), .cp (encApiSeat c_1)] (.d (.lit (.bool r))) := by
  unfold play_isOld_1 at h
  refine Fn.of_tr Try.func112 rfl (rs := [.tmp 3]) Try.results112 Try.ntmps112 (Nat.le_of_ble_eq_true rfl) ?_
  refine tr_seq ?_
  refine tr_region ?_
  refine tr_op rfl (s_box (v := .agg (encApiSeat o_0)) (lt_of rfl) rfl rfl rfl) ?_
  rintro _ ⟨b1, rfl⟩
  refine tr1 rfl (s_assign (v := .d (.lit (.bool false))) (lt_of rfl) rfl rfl) ?_
  refine tr_nil ?_
  refine tr_seq ?_
  refine tr_region ?_
  refine tr1 rfl (s_field_bp (lt_of rfl) rfl fld_45_0) ?_
  refine tr1 rfl (s_load_bp (lt_of rfl) rfl (i := 0) rfl rfl one_3) ?_
  refine tr1 rfl (s_field_cp (lt_of rfl) rfl fld_45_0 (es := [.lit (.int .i64 c_1.Job)]) rfl) ?_
  refine tr1 rfl (s_load_cp (lt_of rfl) rfl one_3) ?_
  refine tr1 rfl (s_cmp (lt_of rfl) rfl rfl rfl) ?_
  refine tr1 rfl (s_assign (v := .d (.lit (.bool ((decide (o_0.Job = c_1.Job)))))) (lt_of rfl) rfl rfl) ?_
  refine tr_nil ?_
  have h := Option.some.inj h
  subst h
  refine tr_ent (ent_free (ble_keep (l := [3]) ⟨rfl, trivial⟩)) ?_
  exact tr_ret ⟨rfl, _, .one _, rfl, rfl⟩

theorem play_isOld_c (p_0 : ApiProgram) (old_1 : List ApiSeat) {r : Bool} (h : play_isOld p_0 old_1 = some r) : Fn Try.prog 91 [.agg (encApiProgram p_0), .d (.sl 3 (old_1.map encApiSeat))] (.d (.lit (.bool r))) := by
  unfold play_isOld at h
  refine Fn.of_tr Try.func91 rfl (rs := [.tmp 4]) Try.results91 Try.ntmps91 (Nat.le_of_ble_eq_true rfl) ?_
  refine tr_seq ?_
  refine tr_region ?_
  refine tr_op rfl (s_box (v := .agg (encApiProgram p_0)) (lt_of rfl) rfl rfl rfl) ?_
  rintro _ ⟨b1, rfl⟩
  refine tr1 rfl (s_assign (v := .d (.lit (.bool false))) (lt_of rfl) rfl rfl) ?_
  refine tr_nil ?_
  refine tr_seq ?_
  refine tr_seq ?_
  refine tr_region ?_
  refine tr1 rfl (s_move (v := .d (.sl 3 (old_1.map encApiSeat))) (lt_of rfl) rfl rfl) ?_
  refine tr1 rfl (s_lenm (lt_of rfl) rfl sl_26.of) ?_
  refine tr1 rfl (s_move (v := .d (.lit (.int .i64 0))) (lt_of rfl) rfl rfl) ?_
  refine tr_nil ?_
  refine tr_blk ?_
  refine tr_loopk [1, 2, 8, 9] (fun (s2 : Int) => [(10, .d (.lit (.int .i64 s2)))]) (fun (s2 : Int) => [.box b1 0 (encApiProgram p_0)]) (fun (k : Nat) (s2 : Int) => play_isOld_L0 old_1 old_1 (old_1.length : Int) p_0 k s2) (fun _ => rfl) (0) h (ent_pick [0] rfl rfl (le_upd rfl (le_keep ⟨rfl, rfl, rfl, rfl, trivial⟩))) ?_
  rintro k3 t10_0_2 h
  simp only [play_isOld_L0] at h
  refine tr_seq ?_
  refine tr_region ?_
  refine tr1 rfl (s_cmp (lt_of rfl) rfl rfl rfl) ?_
  refine tr_nil ?_
  refine tr_seq ?_
  refine tr_if rfl (fun c4 => ?_) (fun c4 => ?_)
  · have h := cond_tt c4 h
    refine tr_skip ?_
    refine tr_seq ?_
    refine tr_blk ?_
    refine tr_seq ?_
    refine tr_region ?_
    refine tr1 rfl (s_move (v := .d (.lit (.int .i64 t10_0_2))) (lt_of rfl) rfl rfl) ?_
    obtain ⟨x5, h6, h⟩ := bind_some h
    refine tr1 rfl (s_index_sl (lt_of rfl) rfl rfl sl_26.of (idx_map encApiSeat h6)) ?_
    refine tr1 rfl (s_loada_cp (lt_of rfl) rfl agg_45 (es := (encApiSeat x5)) rfl rfl) ?_
    refine tr_op rfl (s_alloc (zs := [.lit (.int .i64 0), .lit (.int .i64 0), .lit (.int .i64 0)]) (lt_of rfl) Try.zeroValue45 rfl rfl) ?_
    rintro _ ⟨b7, rfl⟩
    refine tr1 rfl (s_assign (v := .d (.lit (.int .i64 t10_0_2))) (lt_of rfl) rfl rfl) ?_
    refine tr1 rfl (s_store_bp (i := 1) rfl rfl rfl rfl rfl Try.sizeOf45 rfl (lt_of rfl) (Nat.le_of_ble_eq_true rfl) (ds' := (encApiSeat x5)) rfl) ?_
    refine tr_nil ?_
    refine tr_seq ?_
    refine tr_region ?_
    refine tr1 rfl (s_move (v := .d (.sl 3 (old_1.map encApiSeat))) (lt_of rfl) rfl rfl) ?_
    refine tr1 rfl (s_move (v := .d (.lit (.int .i64 t10_0_2))) (lt_of rfl) rfl rfl) ?_
    obtain ⟨x8, h9, h⟩ := bind_some h
    refine tr1 rfl (s_slice_sl (lt_of rfl) sl_26.of rfl rfl rfl (sub_map encApiSeat h9)) ?_
    refine tr1 rfl (s_func (lt_of rfl) rfl rfl) ?_
    obtain ⟨r11, h12, h⟩ := bind_some h
    refine tr1 rfl (s_call (lt_of rfl) (.func _ _ Try.call111) rfl rfl (.cons (.same _) (.cons ((bv_fn (.cons ((bv_bp 1 rfl rfl (dvc (.same _) (dvc (.same _) (dvc (.same _) dvn))))) .nil))) .nil)) (slices_ContainsFunc_api_Seat_c _ _ 112 [.cp [.lit (.int .i64 x5.Job), .lit (.int .i64 x5.Day), .lit (.int .i64 x5.Court)]] Try.call112 (fun _ _ h => play_isOld_1_c _ _ h) h12) rfl) ?_
    refine tr1 rfl (s_assign (v := .d (.lit (.bool r11))) (lt_of rfl) rfl rfl) ?_
    refine tr_nil ?_
    refine tr_seq ?_
    refine tr_region ?_
    refine tr1 rfl (s_move (v := .d (.lit (.bool r11))) (lt_of rfl) rfl rfl) ?_
    refine tr1 rfl (s_move (v := .d (.lit (.bool r11))) (lt_of rfl) rfl rfl) ?_
    obtain ⟨b13, h14, h⟩ := bind_some h
    refine tr_guard 9 [1, 2, 6, 8, 9, 10] 30 b13 ?_ ?_
    · refine bool_cases (r11) (fun c26 => ?_) (fun c26 => ?_)
      · have h14 := cond_tt c26 h14
        refine tr_pass rfl rfl (lt_of rfl) rfl (lt_of rfl) rfl c26 ?_
        refine tr_pass rfl rfl (lt_of rfl) rfl (lt_of rfl) rfl c26 ?_
        refine tr_pass rfl rfl (lt_of rfl) rfl (lt_of rfl) rfl c26 ?_
        refine tr_pass rfl rfl (lt_of rfl) rfl (lt_of rfl) rfl c26 ?_
        refine tr_pass rfl rfl (lt_of rfl) rfl (lt_of rfl) rfl c26 ?_
        refine tr_pass rfl rfl (lt_of rfl) rfl (lt_of rfl) rfl c26 ?_
        refine tr_pass rfl rfl (lt_of rfl) rfl (lt_of rfl) rfl c26 ?_
        refine tr_pass rfl rfl (lt_of rfl) rfl (lt_of rfl) rfl c26 ?_
        refine tr1 rfl (s_pick_t (v := .d (.lit (.bool true))) (lt_of rfl) rfl c26 rfl rfl) ?_
        have h14 := Option.some.inj h14
        subst h14
        refine tr_nil (ent_keep rfl ⟨rfl, rfl, rfl, rfl, rfl, rfl, trivial⟩ rfl)
      · have h14 := cond_ff c26 h14
        refine tr_take1 rfl rfl (lt_of rfl) rfl c26 (s_field_bp (lt_of rfl) rfl fld_45_0) ?_
        refine tr_take1 rfl rfl (lt_of rfl) rfl c26 (s_load_bp (lt_of rfl) rfl (i := 1) rfl rfl one_3) ?_
        refine tr_take1 rfl rfl (lt_of rfl) rfl c26 (s_field_bp (lt_of rfl) rfl fld_25_2) ?_
        refine tr_take1 rfl rfl (lt_of rfl) rfl c26 (s_load_bp (lt_of rfl) rfl (i := 0) rfl rfl one_23) ?_
        refine tr_take1 rfl rfl (lt_of rfl) rfl c26 (s_lenm (lt_of rfl) rfl sl_23.of) ?_
        refine tr_take1 rfl rfl (lt_of rfl) rfl c26 (s_arith (lt_of rfl) rfl rfl rfl) ?_
        obtain ⟨r27, h28, h14⟩ := bind_some h14
        refine tr_take1 rfl rfl (lt_of rfl) rfl c26 (s_call (lt_of rfl) (.func _ _ Try.call57) rfl rfl (BVs.refl _ _) (play_within_c _ _ _ h28) rfl) ?_
        refine tr_take1 rfl rfl (lt_of rfl) rfl c26 (s_not (lt_of rfl) rfl) ?_
        refine tr1 rfl (s_pick_f (v := .d (.lit (.bool (!r27)))) (lt_of rfl) rfl c26 rfl rfl) ?_
        have h14 := Option.some.inj h14
        subst h14
        refine tr_nil (ent_keep rfl ⟨rfl, rfl, rfl, rfl, rfl, rfl, trivial⟩ rfl)
    · refine tr1 rfl (s_move (v := .d (.lit (.bool b13))) (lt_of rfl) rfl rfl) ?_
      obtain ⟨b15, h16, h⟩ := bind_some h
      refine tr_guard 5 [1, 2, 6, 8, 9, 10] 36 b15 ?_ ?_
      · refine bool_cases (b13) (fun c23 => ?_) (fun c23 => ?_)
        · have h16 := cond_tt c23 h16
          refine tr_pass rfl rfl (lt_of rfl) rfl (lt_of rfl) rfl c23 ?_
          refine tr_pass rfl rfl (lt_of rfl) rfl (lt_of rfl) rfl c23 ?_
          refine tr_pass rfl rfl (lt_of rfl) rfl (lt_of rfl) rfl c23 ?_
          refine tr_pass rfl rfl (lt_of rfl) rfl (lt_of rfl) rfl c23 ?_
          refine tr1 rfl (s_pick_t (v := .d (.lit (.bool true))) (lt_of rfl) rfl c23 rfl rfl) ?_
          have h16 := Option.some.inj h16
          subst h16
          refine tr_nil (ent_keep rfl ⟨rfl, rfl, rfl, rfl, rfl, rfl, trivial⟩ rfl)
        · have h16 := cond_ff c23 h16
          refine tr_take1 rfl rfl (lt_of rfl) rfl c23 (s_field_bp (lt_of rfl) rfl fld_45_1) ?_
          refine tr_take1 rfl rfl (lt_of rfl) rfl c23 (s_load_bp (lt_of rfl) rfl (i := 1) rfl rfl one_3) ?_
          obtain ⟨r24, h25, h16⟩ := bind_some h16
          refine tr_take1 rfl rfl (lt_of rfl) rfl c23 (s_call (lt_of rfl) (.func _ _ Try.call57) rfl rfl (BVs.refl _ _) (play_within_c _ _ _ h25) rfl) ?_
          refine tr_take1 rfl rfl (lt_of rfl) rfl c23 (s_not (lt_of rfl) rfl) ?_
          refine tr1 rfl (s_pick_f (v := .d (.lit (.bool (!r24)))) (lt_of rfl) rfl c23 rfl rfl) ?_
          have h16 := Option.some.inj h16
          subst h16
          refine tr_nil (ent_keep rfl ⟨rfl, rfl, rfl, rfl, rfl, rfl, trivial⟩ rfl)
      · refine tr1 rfl (s_move (v := .d (.lit (.bool b15))) (lt_of rfl) rfl rfl) ?_
        obtain ⟨b17, h18, h⟩ := bind_some h
        refine tr_guard 5 [1, 2, 8, 9, 10] 42 b17 ?_ ?_
        · refine bool_cases (b15) (fun c20 => ?_) (fun c20 => ?_)
          · have h18 := cond_tt c20 h18
            refine tr_pass rfl rfl (lt_of rfl) rfl (lt_of rfl) rfl c20 ?_
            refine tr_pass rfl rfl (lt_of rfl) rfl (lt_of rfl) rfl c20 ?_
            refine tr_pass rfl rfl (lt_of rfl) rfl (lt_of rfl) rfl c20 ?_
            refine tr_pass rfl rfl (lt_of rfl) rfl (lt_of rfl) rfl c20 ?_
            refine tr1 rfl (s_pick_t (v := .d (.lit (.bool true))) (lt_of rfl) rfl c20 rfl rfl) ?_
            have h18 := Option.some.inj h18
            subst h18
            refine tr_nil (ent_keep rfl ⟨rfl, rfl, rfl, rfl, rfl, trivial⟩ rfl)
          · have h18 := cond_ff c20 h18
            refine tr_take1 rfl rfl (lt_of rfl) rfl c20 (s_field_bp (lt_of rfl) rfl fld_45_2) ?_
            refine tr_take1 rfl rfl (lt_of rfl) rfl c20 (s_load_bp (lt_of rfl) rfl (i := 1) rfl rfl one_3) ?_
            obtain ⟨r21, h22, h18⟩ := bind_some h18
            refine tr_take1 rfl rfl (lt_of rfl) rfl c20 (s_call (lt_of rfl) (.func _ _ Try.call57) rfl rfl (BVs.refl _ _) (play_within_c _ _ _ h22) rfl) ?_
            refine tr_take1 rfl rfl (lt_of rfl) rfl c20 (s_not (lt_of rfl) rfl) ?_
            refine tr1 rfl (s_pick_f (v := .d (.lit (.bool (!r21)))) (lt_of rfl) rfl c20 rfl rfl) ?_
            have h18 := Option.some.inj h18
            subst h18
            refine tr_nil (ent_keep rfl ⟨rfl, rfl, rfl, rfl, rfl, trivial⟩ rfl)
        · refine tr_nil ?_
          refine tr_if rfl (fun c19 => ?_) (fun c19 => ?_)
          · have h := cond_tt c19 h
            refine tr_seq ?_
            refine tr_region ?_
            refine tr1 rfl (s_assign (v := .d (.lit (.bool false))) (lt_of rfl) rfl rfl) ?_
            refine tr_nil ?_
            have h := Option.some.inj h
            subst h
            refine tr_ent (ent_free (ble_keep (l := [4]) ⟨rfl, trivial⟩)) ?_
            exact tr_ret ⟨rfl, _, .one _, rfl, rfl⟩
          · have h := cond_ff c19 h
            refine tr_skipb ?_
            refine tr_region ?_
            refine tr1 rfl (s_arith (lt_of rfl) rfl rfl rfl) ?_
            refine tr1 rfl (s_move (v := .d (.lit (.int .i64 ((w64 (t10_0_2 + 1)))))) (lt_of rfl) rfl rfl) ?_
            refine tr_nil ?_
            exact ⟨(w64 (t10_0_2 + 1)), h, ent_pick [0] rfl rfl (le_upd rfl (le_keep ⟨rfl, rfl, rfl, rfl, trivial⟩))⟩
  · have h := cond_ff c4 h
    refine tr_exit ?_
    refine .inl ⟨rfl, ?_⟩
    simp only [play_isOld_K0] at h
    refine tr_seq ?_
    refine tr_region ?_
    refine tr1 rfl (s_move (v := .d (.sl 3 (old_1.map encApiSeat))) (lt_of rfl) rfl rfl) ?_
    refine tr1 rfl (s_lenm (lt_of rfl) rfl sl_26.of) ?_
    refine tr1 rfl (s_field_bp (lt_of rfl) rfl fld_25_2) ?_
    refine tr1 rfl (s_load_bp (lt_of rfl) rfl (i := 0) rfl rfl one_23) ?_
    refine tr1 rfl (s_lenm (lt_of rfl) rfl sl_23.of) ?_
    refine tr1 rfl (s_cmp (lt_of rfl) rfl rfl rfl) ?_
    refine tr1 rfl (s_assign (v := .d (.lit (.bool ((decide ((old_1.length : Int) = (p_0.Jobs.length : Int))))))) (lt_of rfl) rfl rfl) ?_
    refine tr_nil ?_
    have h := Option.some.inj h
    subst h
    refine tr_ent (ent_free (ble_keep (l := [4]) ⟨rfl, trivial⟩)) ?_
    exact tr_ret ⟨rfl, _, .one _, rfl, rfl⟩

theorem play_repair_c (p_0 : ApiProgram) (old_1 : List ApiSeat) {r : Int × (List ApiSeat) × Int} (h : play_repair p_0 old_1 = some r) : Fn Try.prog 68 [.agg (encApiProgram p_0), .d (.sl 3 (old_1.map encApiSeat))] (.tup [.d (.lit (.int .i64 r.1)), .d (.sl 3 (r.2.1.map encApiSeat)), .d (.lit (.int .i64 r.2.2))]) := by
  unfold play_repair at h
  refine Fn.of_tr Try.func68 rfl (rs := [.tmp 4, .tmp 5, .tmp 6]) Try.results68 Try.ntmps68 (Nat.le_of_ble_eq_true rfl) ?_
  refine tr_seq ?_
  refine tr_region ?_
  refine tr_op rfl (s_box (v := .agg (encApiProgram p_0)) (lt_of rfl) rfl rfl rfl) ?_
  rintro _ ⟨b1, rfl⟩
  refine tr1 rfl (s_assign (v := .d (.lit (.int .i64 0))) (lt_of rfl) rfl rfl) ?_
  refine tr1 rfl (s_nil 3 (lt_of rfl)) ?_
  refine tr1 rfl (s_assign (v := .d (.lit (.int .i64 0))) (lt_of rfl) rfl rfl) ?_
  refine tr_nil ?_
  refine tr_seq ?_
  refine tr_seq ?_
  refine tr_region ?_
  refine tr1 rfl (s_loada_bp (lt_of rfl) rfl (i := 0) rfl agg_25 (es := (encApiProgram p_0)) rfl rfl) ?_
  obtain ⟨r2, h3, h⟩ := bind_some h
  refine tr1 rfl (s_call (lt_of rfl) (.func _ _ Try.call25) rfl rfl (BVs.refl _ _) (play_Check_c _ h3) rfl) ?_
  refine tr1 rfl (s_assign (v := .d (.lit (.int .i64 r2))) (lt_of rfl) rfl rfl) ?_
  refine tr_nil ?_
  refine tr_seq ?_
  refine tr_region ?_
  refine tr1 rfl (s_move (v := .d (.lit (.int .i64 r2))) (lt_of rfl) rfl rfl) ?_
  refine tr1 rfl (s_cmp (lt_of rfl) rfl rfl rfl) ?_
  refine tr_nil ?_
  refine tr_if rfl (fun c4 => ?_) (fun c4 => ?_)
  · have h := cond_tt c4 h
    refine tr_seq ?_
    refine tr_region ?_
    refine tr1 rfl (s_move (v := .d (.lit (.int .i64 r2))) (lt_of rfl) rfl rfl) ?_
    refine tr1 rfl (s_assign (v := .d (.lit (.int .i64 0))) (lt_of rfl) rfl rfl) ?_
    refine tr1 rfl (s_nil 3 (lt_of rfl)) ?_
    refine tr1 rfl (s_assign (v := .d (.lit (.int .i64 r2))) (lt_of rfl) rfl rfl) ?_
    refine tr_nil ?_
    have h := Option.some.inj h
    subst h
    refine tr_ent (ent_free (ble_keep (l := [4, 5, 6]) ⟨rfl, rfl, rfl, trivial⟩)) ?_
    exact tr_ret ⟨rfl, _, .three _ _ _, rfl, rfl⟩
  · have h := cond_ff c4 h
    refine tr_skip ?_
    refine tr_seq ?_
    refine tr_seq ?_
    refine tr_region ?_
    refine tr1 rfl (s_loada_bp (lt_of rfl) rfl (i := 0) rfl agg_25 (es := (encApiProgram p_0)) rfl rfl) ?_
    refine tr1 rfl (s_move (v := .d (.sl 3 (old_1.map encApiSeat))) (lt_of rfl) rfl rfl) ?_
    obtain ⟨r5, h6, h⟩ := bind_some h
    refine tr1 rfl (s_call (lt_of rfl) (.func _ _ Try.call91) rfl rfl (BVs.refl _ _) (play_isOld_c _ _ h6) rfl) ?_
    refine tr1 rfl (s_not (lt_of rfl) rfl) ?_
    refine tr_nil ?_
    refine tr_if rfl (fun c7 => ?_) (fun c7 => ?_)
    · have h := cond_tt c7 h
      refine tr_seq ?_
      refine tr_region ?_
      refine tr1 rfl (s_assign (v := .d (.lit (.int .i64 0))) (lt_of rfl) rfl rfl) ?_
      refine tr1 rfl (s_nil 3 (lt_of rfl)) ?_
      refine tr1 rfl (s_assign (v := .d (.lit (.int .i64 81))) (lt_of rfl) rfl rfl) ?_
      refine tr_nil ?_
      have h := Option.some.inj h
      subst h
      refine tr_ent (ent_free (ble_keep (l := [4, 5, 6]) ⟨rfl, rfl, rfl, trivial⟩)) ?_
      exact tr_ret ⟨rfl, _, .three _ _ _, rfl, rfl⟩
    · have h := cond_ff c7 h
      refine tr_skip ?_
      refine tr_seq ?_
      refine tr_seq ?_
      refine tr_region ?_
      refine tr1 rfl (s_field_bp (lt_of rfl) rfl fld_25_2) ?_
      refine tr1 rfl (s_load_bp (lt_of rfl) rfl (i := 0) rfl rfl one_23) ?_
      refine tr1 rfl (s_lenm (lt_of rfl) rfl sl_23.of) ?_
      refine tr1 rfl (s_arith (lt_of rfl) rfl rfl rfl) ?_
      refine tr1 rfl (s_move (v := .d (.lit (.int .i64 0))) (lt_of rfl) rfl rfl) ?_
      refine tr_nil ?_
      refine tr_blk ?_
      refine tr_loopk [1, 2, 23] (fun (s8 : Int) => [(24, .d (.lit (.int .i64 s8)))]) (fun (s8 : Int) => [.box b1 0 (encApiProgram p_0)]) (fun (k : Nat) (s8 : Int) => play_repair_L0 old_1 (w64 ((p_0.Jobs.length : Int) + 1)) p_0 k s8) (fun _ => rfl) (0) h (ent_pick [0] rfl rfl (le_upd rfl (le_keep ⟨rfl, rfl, rfl, trivial⟩))) ?_
      rintro k9 t24_0_8 h
      simp only [play_repair_L0] at h
      refine tr_seq ?_
      refine tr_region ?_
      refine tr1 rfl (s_cmp (lt_of rfl) rfl rfl rfl) ?_
      refine tr_nil ?_
      refine tr_seq ?_
      refine tr_if rfl (fun c10 => ?_) (fun c10 => ?_)
      · have h := cond_tt c10 h
        refine tr_skip ?_
        refine tr_seq ?_
        refine tr_blk ?_
        refine tr_seq ?_
        refine tr_region ?_
        refine tr1 rfl (s_move (v := .d (.lit (.int .i64 t24_0_8))) (lt_of rfl) rfl rfl) ?_
        refine tr1 rfl (s_assign (v := .d (.lit (.int .i64 t24_0_8))) (lt_of rfl) rfl rfl) ?_
        refine tr_nil ?_
        refine tr_seq ?_
        obtain ⟨x12, h13, h⟩ := bind_some h
        obtain ⟨r14, h15, h⟩ := bind_some h
        refine tr_drawxk mix 13 [1, 2, 8, 23, 24] (fun X11 => [(9, .d (.sl 3 (r14.1.map encApiSeat))), (38, .d (.lit (.bool r14.2)))]) (fun X11 => [.box b1 0 (encApiProgram p_0)]) ?_ ?_
        · refine ⟨0, fun X11 => [(28, 0, .agg (encApiProgram p_0)), (29, 1, .bp b1 0 0), (30, 2, .d (.sl 1 (p_0.Days.map encSl_ApiSpan))), (31, 3, .d (.lit (.int .i64 ((p_0.Days.length : Int))))), (32, 4, .fl true 3 (([] : List ApiSeat).map encApiSeat)), (33, 5, .d (.sl 3 (old_1.map encApiSeat))), (34, 6, .d (.sn 3 (x12.map encApiSeat))), (35, 7, .d (.lit (.int .i64 t24_0_8))), (36, 8, .tup [.d (.sl 3 (r14.1.map encApiSeat)), .d (.lit (.bool r14.2))]), (27, 9, .tup [.d (.sl 3 (r14.1.map encApiSeat)), .d (.lit (.bool r14.2))]), (37, 10, .d (.sl 3 (r14.1.map encApiSeat))), (38, 11, .d (.lit (.bool r14.2))), (9, 12, .d (.sl 3 (r14.1.map encApiSeat)))], fun X11 => [([], .box b1 0 (encApiProgram p_0))], ?_, ?_⟩
          · exact ⟨by kernel_rfl, by kernel_rfl, by kernel_rfl, fun _ => by kernel_rfl, fun _ => by kernel_rfl, fun _ => by kernel_rfl, fun _ => rfl, [([], []), ([], []), ([1], []), ([2], []), ([], [6]), ([], [6]), ([4, 5], []), ([], []), ([0, 3, 6, 7], []), ([6, 8], []), ([6, 9], []), ([6, 9], []), ([6, 10], [])], by kernel_rfl, ⟨fun X11 S hw hi hS => x_pure (X := X11) rfl (hw X11) rfl (g_op rfl (s_loada_bp (lt_of rfl) (ov_ev hS rfl) (i := 0) (og hS rfl rfl) agg_25 (es := (encApiProgram p_0)) rfl rfl)),
      fun X11 S hw hi hS => x_pure (X := X11) rfl (hw X11) rfl (g_op rfl (s_field_bp (lt_of rfl) (ov_ev hS rfl) fld_25_0)),
      fun X11 S hw hi hS => x_pure (X := X11) rfl (hw X11) rfl (g_op rfl (s_load_bp (lt_of rfl) (ov_ev hS rfl) (i := 0) (og hS rfl rfl) rfl one_22)),
      fun X11 S hw hi hS => x_pure (X := X11) rfl (hw X11) rfl (g_op rfl (s_lenm (lt_of rfl) (ov_ev hS rfl) sl_22.of)),
      fun X11 S hw hi hS => x_pure (X := X11) rfl (hw X11) rfl (g_op rfl (s_lit_fl (lt_of rfl) sl_26 rfl pan (rows := (([] : List ApiSeat)).map encApiSeat) rfl (map_len (f := encApiSeat) fun _ => rfl) rfl (by decide))),
      fun X11 S hw hi hS => x_pure (X := X11) rfl (hw X11) rfl (g_op rfl (s_move (v := .d (.sl 3 (old_1.map encApiSeat))) (lt_of rfl) (ov_ev hS rfl) rfl)),
      fun X11 S hw hi hS => x_pure (X := X11) rfl (hw X11) rfl (g_op rfl (s_appendf (nn := true) (f := encApiSeat) (xs := ([] : List ApiSeat)) (ys := old_1) (lt_of rfl) sl_26 (ov_ev hS rfl) (ov_ev hS rfl) (fun _ => rfl) h13 rfl)),
      fun X11 S hw hi hS => x_pure (X := X11) rfl (hw X11) rfl (g_op rfl (s_move (v := .d (.lit (.int .i64 t24_0_8))) (lt_of rfl) (ov_ev hS rfl) rfl)),
      fun X11 S hw hi hS => x_pure (X := X11) rfl (hw X11) rfl (g_op rfl (s_callf (lt_of rfl) (.func _ _ Try.call88) (ev2 (ov_ev hS rfl) (ev2 (ov_ev hS rfl) (ev2 (ov_ev hS rfl) (ev2 (ov_ev hS rfl) evn)))) rfl (play_order_c _ _ _ _ h15))),
      fun X11 S hw hi hS => x_pure (X := X11) rfl (hw X11) rfl (g_op rfl (s_move (v := .tup [.d (.sl 3 (r14.1.map encApiSeat)), .d (.lit (.bool r14.2))]) (lt_of rfl) (ov_ev hS rfl) rfl)),
      fun X11 S hw hi hS => x_pure (X := X11) rfl (hw X11) rfl (g_op rfl (s_extract (lt_of rfl) (ov_ev hS rfl) rfl)),
      fun X11 S hw hi hS => x_pure (X := X11) rfl (hw X11) rfl (g_op rfl (s_extract (lt_of rfl) (ov_ev hS rfl) rfl)),
      fun X11 S hw hi hS => x_pure (X := X11) rfl (hw X11) rfl (g_op rfl (s_assign (v := .d (.sl 3 (r14.1.map encApiSeat))) (lt_of rfl) (ov_ev hS rfl) rfl)), trivial⟩⟩
          · exact fun X11 => ent_le (le_upd rfl (le_upd rfl (le_keep ⟨rfl, rfl, rfl, rfl, rfl, trivial⟩)))
        · intro X11
          refine tr1 rfl (s_assign (v := .d (.lit (.bool r14.2))) (lt_of rfl) rfl rfl) ?_
          refine tr_nil ?_
          refine tr_seq ?_
          refine tr_region ?_
          refine tr1 rfl (s_move (v := .d (.lit (.bool r14.2))) (lt_of rfl) rfl rfl) ?_
          refine tr_nil ?_
          refine tr_if rfl (fun c16 => ?_) (fun c16 => ?_)
          · have h := cond_tt c16 h
            refine tr_seq ?_
            refine tr_region ?_
            refine tr1 rfl (s_move (v := .d (.lit (.int .i64 t24_0_8))) (lt_of rfl) rfl rfl) ?_
            refine tr1 rfl (s_move (v := .d (.sl 3 (r14.1.map encApiSeat))) (lt_of rfl) rfl rfl) ?_
            refine tr1 rfl (s_assign (v := .d (.lit (.int .i64 t24_0_8))) (lt_of rfl) rfl rfl) ?_
            refine tr1 rfl (s_assign (v := .d (.sl 3 (r14.1.map encApiSeat))) (lt_of rfl) rfl rfl) ?_
            refine tr1 rfl (s_assign (v := .d (.lit (.int .i64 0))) (lt_of rfl) rfl rfl) ?_
            refine tr_nil ?_
            have h := Option.some.inj h
            subst h
            refine tr_ent (ent_free (ble_keep (l := [4, 5, 6]) ⟨rfl, rfl, rfl, trivial⟩)) ?_
            exact tr_ret ⟨rfl, _, .three _ _ _, rfl, rfl⟩
          · have h := cond_ff c16 h
            refine tr_skipb ?_
            refine tr_region ?_
            refine tr1 rfl (s_arith (lt_of rfl) rfl rfl rfl) ?_
            refine tr1 rfl (s_move (v := .d (.lit (.int .i64 ((w64 (t24_0_8 + 1)))))) (lt_of rfl) rfl rfl) ?_
            refine tr_nil ?_
            exact ⟨(w64 (t24_0_8 + 1)), h, ent_pick [0] rfl rfl (le_upd rfl (le_keep ⟨rfl, rfl, rfl, trivial⟩))⟩
      · have h := cond_ff c10 h
        refine tr_exit ?_
        refine .inl ⟨rfl, ?_⟩
        simp only [play_repair_K0] at h
        refine tr_seq ?_
        refine tr_region ?_
        refine tr1 rfl (s_assign (v := .d (.lit (.int .i64 0))) (lt_of rfl) rfl rfl) ?_
        refine tr1 rfl (s_nil 3 (lt_of rfl)) ?_
        refine tr1 rfl (s_assign (v := .d (.lit (.int .i64 3))) (lt_of rfl) rfl rfl) ?_
        refine tr_nil ?_
        have h := Option.some.inj h
        subst h
        refine tr_ent (ent_free (ble_keep (l := [4, 5, 6]) ⟨rfl, rfl, rfl, trivial⟩)) ?_
        exact tr_ret ⟨rfl, _, .three _ _ _, rfl, rfl⟩

theorem play_Repair_c (p_0 : ApiProgram) (old_1 : List ApiSeat) {r : (List ApiSeat) × Int} (h : play_Repair p_0 old_1 = some r) : Fn Try.prog 33 [.agg (encApiProgram p_0), .d (.sl 3 (old_1.map encApiSeat))] (.tup [.d (.sl 3 (r.1.map encApiSeat)), .d (.lit (.int .i64 r.2))]) := by
  unfold play_Repair at h
  refine Fn.of_tr Try.func33 rfl (rs := [.tmp 4, .tmp 5]) Try.results33 Try.ntmps33 (Nat.le_of_ble_eq_true rfl) ?_
  refine tr_seq ?_
  refine tr_region ?_
  refine tr_op rfl (s_box (v := .agg (encApiProgram p_0)) (lt_of rfl) rfl rfl rfl) ?_
  rintro _ ⟨b1, rfl⟩
  refine tr1 rfl (s_nil 3 (lt_of rfl)) ?_
  refine tr1 rfl (s_assign (v := .d (.lit (.int .i64 0))) (lt_of rfl) rfl rfl) ?_
  refine tr_nil ?_
  refine tr_seq ?_
  refine tr_region ?_
  refine tr1 rfl (s_loada_bp (lt_of rfl) rfl (i := 0) rfl agg_25 (es := (encApiProgram p_0)) rfl rfl) ?_
  refine tr1 rfl (s_move (v := .d (.sl 3 (old_1.map encApiSeat))) (lt_of rfl) rfl rfl) ?_
  obtain ⟨r2, h3, h⟩ := bind_some h
  refine tr1 rfl (s_callf (lt_of rfl) (.func _ _ Try.call68) rfl rfl (play_repair_c _ _ h3)) ?_
  refine tr1 rfl (s_move (v := .tup [.d (.lit (.int .i64 r2.1)), .d (.sl 3 (r2.2.1.map encApiSeat)), .d (.lit (.int .i64 r2.2.2))]) (lt_of rfl) rfl rfl) ?_
  refine tr1 rfl (s_extract (lt_of rfl) rfl rfl) ?_
  refine tr1 rfl (s_extract (lt_of rfl) rfl rfl) ?_
  refine tr1 rfl (s_extract (lt_of rfl) rfl rfl) ?_
  refine tr1 rfl (s_assign (v := .d (.lit (.int .i64 r2.1))) (lt_of rfl) rfl rfl) ?_
  refine tr1 rfl (s_assign (v := .d (.sl 3 (r2.2.1.map encApiSeat))) (lt_of rfl) rfl rfl) ?_
  refine tr1 rfl (s_assign (v := .d (.lit (.int .i64 r2.2.2))) (lt_of rfl) rfl rfl) ?_
  refine tr_nil ?_
  refine tr_seq ?_
  refine tr_region ?_
  refine tr1 rfl (s_move (v := .d (.sl 3 (r2.2.1.map encApiSeat))) (lt_of rfl) rfl rfl) ?_
  refine tr1 rfl (s_move (v := .d (.lit (.int .i64 r2.2.2))) (lt_of rfl) rfl rfl) ?_
  refine tr1 rfl (s_assign (v := .d (.sl 3 (r2.2.1.map encApiSeat))) (lt_of rfl) rfl rfl) ?_
  refine tr1 rfl (s_assign (v := .d (.lit (.int .i64 r2.2.2))) (lt_of rfl) rfl rfl) ?_
  refine tr_nil ?_
  have h := Option.some.inj h
  subst h
  refine tr_ent (ent_free (ble_keep (l := [4, 5]) ⟨rfl, rfl, trivial⟩)) ?_
  exact tr_ret ⟨rfl, _, .two _ _, rfl, rfl⟩

theorem deuceref08_moved_c (order_0 : List ApiSeat) (old_1 : List ApiSeat) {r : Int} (h : deuceref08_moved order_0 old_1 = some r) : Fn Try.prog 69 [.d (.sl 3 (order_0.map encApiSeat)), .d (.sl 3 (old_1.map encApiSeat))] (.d (.lit (.int .i64 r))) := by
  unfold deuceref08_moved at h
  refine Fn.of_tr Try.func69 rfl (rs := [.tmp 4]) Try.results69 Try.ntmps69 (Nat.le_of_ble_eq_true rfl) ?_
  refine tr_seq ?_
  refine tr_region ?_
  refine tr1 rfl (s_assign (v := .d (.lit (.int .i64 0))) (lt_of rfl) rfl rfl) ?_
  refine tr_nil ?_
  refine tr_seq ?_
  refine tr_region ?_
  refine tr1 rfl (s_assign (v := .d (.lit (.int .i64 0))) (lt_of rfl) rfl rfl) ?_
  refine tr_nil ?_
  refine tr_seq ?_
  refine tr_seq ?_
  refine tr_region ?_
  refine tr1 rfl (s_assign (v := .d (.lit (.int .i64 0))) (lt_of rfl) rfl rfl) ?_
  refine tr_nil ?_
  refine tr_blk ?_
  refine tr_loopk [0, 1] (fun (s1 : Int × Int) => [(5, .d (.lit (.int .i64 s1.1))), (6, .d (.lit (.int .i64 s1.2)))]) (fun (s1 : Int × Int) => []) (fun (k : Nat) (s1 : Int × Int) => deuceref08_moved_L0 order_0 old_1 k s1.1 s1.2) (fun _ => rfl) (0, 0) h (ent_pick [] rfl rfl (le_upd rfl (le_upd rfl (le_keep ⟨rfl, rfl, trivial⟩)))) ?_
  rintro k2 ⟨n_0_1, i_0_1⟩ h
  simp only [deuceref08_moved_L0] at h
  refine tr_seq ?_
  refine tr_seq ?_
  refine tr_region ?_
  refine tr1 rfl (s_move (v := .d (.lit (.int .i64 i_0_1))) (lt_of rfl) rfl rfl) ?_
  refine tr1 rfl (s_move (v := .d (.sl 3 (order_0.map encApiSeat))) (lt_of rfl) rfl rfl) ?_
  refine tr1 rfl (s_lenm (lt_of rfl) rfl sl_26.of) ?_
  refine tr1 rfl (s_cmp (lt_of rfl) rfl rfl rfl) ?_
  refine tr_nil ?_
  refine tr_if rfl (fun c3 => ?_) (fun c3 => ?_)
  · have h := cond_tt c3 h
    refine tr_skip ?_
    refine tr_seq ?_
    refine tr_blk ?_
    refine tr_seq ?_
    refine tr_region ?_
    refine tr1 rfl (s_assign (v := .d (.lit (.int .i64 0))) (lt_of rfl) rfl rfl) ?_
    refine tr_nil ?_
    refine tr_blkb ?_
    refine tr_loopk [0, 1, 6] (fun (s4 : Int × Int) => [(5, .d (.lit (.int .i64 s4.1))), (7, .d (.lit (.int .i64 s4.2)))]) (fun (s4 : Int × Int) => []) (fun (k : Nat) (s4 : Int × Int) => deuceref08_moved_L2 (deuceref08_moved_L0 order_0 old_1 k2) order_0 old_1 i_0_1 k s4.1 s4.2) (fun _ => rfl) (n_0_1, 0) h (ent_pick [] rfl rfl (le_upd rfl (le_upd rfl (le_keep ⟨rfl, rfl, rfl, trivial⟩)))) ?_
    rintro k5 ⟨n_2_4, k_2_4⟩ h
    simp only [deuceref08_moved_L2] at h
    refine tr_seq ?_
    refine tr_seq ?_
    refine tr_region ?_
    refine tr1 rfl (s_move (v := .d (.lit (.int .i64 k_2_4))) (lt_of rfl) rfl rfl) ?_
    refine tr1 rfl (s_move (v := .d (.sl 3 (old_1.map encApiSeat))) (lt_of rfl) rfl rfl) ?_
    refine tr1 rfl (s_lenm (lt_of rfl) rfl sl_26.of) ?_
    refine tr1 rfl (s_cmp (lt_of rfl) rfl rfl rfl) ?_
    refine tr_nil ?_
    refine tr_if rfl (fun c6 => ?_) (fun c6 => ?_)
    · have h := cond_tt c6 h
      refine tr_skip ?_
      refine tr_seq ?_
      refine tr_blk ?_
      refine tr_seq ?_
      obtain ⟨x7, h8, h⟩ := bind_some h
      obtain ⟨x9, h10, h⟩ := bind_some h
      obtain ⟨b11, h12, h⟩ := bind_some h
      refine tr_drawk mix 37 [0, 1, 5, 6, 7] [(56, .d (.lit (.bool b11)))] ?_ ?_
      · refine bool_cases (decide (x7.Job = x9.Job)) (fun c13 => ?_) (fun c13 => ?_)
        · have h12 := cond_tt c13 h12
          obtain ⟨x14, h15, h12⟩ := bind_some h12
          obtain ⟨x16, h17, h12⟩ := bind_some h12
          obtain ⟨b18, h19, h12⟩ := bind_some h12
          refine bool_cases (!decide (x14.Day = x16.Day)) (fun c20 => ?_) (fun c20 => ?_)
          · have h19 := cond_tt c20 h19
            have h19 := Option.some.inj h19
            subst h19
            have h12 := Option.some.inj h12
            subst h12
            refine ⟨[(20, 0, .d (.sl 3 (old_1.map encApiSeat))), (21, 1, .d (.lit (.int .i64 k_2_4))), (22, 2, .cp [.lit (.int .i64 x7.Job), .lit (.int .i64 x7.Day), .lit (.int .i64 x7.Court)]), (23, 3, .cp [.lit (.int .i64 x7.Job)]), (24, 4, .d (.lit (.int .i64 x7.Job))), (25, 5, .d (.sl 3 (order_0.map encApiSeat))), (26, 6, .d (.lit (.int .i64 i_0_1))), (27, 7, .cp [.lit (.int .i64 x9.Job), .lit (.int .i64 x9.Day), .lit (.int .i64 x9.Court)]), (28, 8, .cp [.lit (.int .i64 x9.Job)]), (29, 9, .d (.lit (.int .i64 x9.Job))), (30, 10, .d (.lit (.bool ((decide (x7.Job = x9.Job)))))), (31, 11, .d (.lit (.bool ((decide (x7.Job = x9.Job)))))), (32, 12, .d (.sl 3 (old_1.map encApiSeat))), (33, 13, .d (.lit (.int .i64 k_2_4))), (34, 14, .cp [.lit (.int .i64 x14.Job), .lit (.int .i64 x14.Day), .lit (.int .i64 x14.Court)]), (35, 15, .cp [.lit (.int .i64 x14.Day)]), (36, 16, .d (.lit (.int .i64 x14.Day))), (37, 17, .d (.sl 3 (order_0.map encApiSeat))), (38, 18, .d (.lit (.int .i64 i_0_1))), (39, 19, .cp [.lit (.int .i64 x16.Job), .lit (.int .i64 x16.Day), .lit (.int .i64 x16.Court)]), (40, 20, .cp [.lit (.int .i64 x16.Day)]), (41, 21, .d (.lit (.int .i64 x16.Day))), (42, 22, .d (.lit (.bool ((!decide (x14.Day = x16.Day)))))), (43, 23, .d (.lit (.bool ((!decide (x14.Day = x16.Day)))))), (44, 24, .tup []), (45, 25, .tup []), (46, 26, .tup []), (47, 27, .tup []), (48, 28, .tup []), (49, 29, .tup []), (50, 30, .tup []), (51, 31, .tup []), (52, 32, .tup []), (53, 33, .tup []), (54, 34, .tup []), (55, 35, .d (.lit (.bool true))), (56, 36, .d (.lit (.bool (true))))], ?_, ?_⟩
            · exact ⟨by kernel_rfl, by kernel_rfl, by kernel_rfl, by kernel_rfl, by kernel_rfl, [([], []), ([], []), ([0, 1], []), ([2], []), ([3], []), ([], []), ([], []), ([5, 6], []), ([7], []), ([8], []), ([4, 9], []), ([10], []), ([11], []), ([11], []), ([11, 12, 13], []), ([11, 14], []), ([11, 15], []), ([11], []), ([11], []), ([11, 17, 18], []), ([11, 19], []), ([11, 20], []), ([11, 16, 21], []), ([11, 22], []), ([23], []), ([23], []), ([23, 24, 25], []), ([23, 26], []), ([23, 27], []), ([23], []), ([23], []), ([23, 29, 30], []), ([23, 31], []), ([23, 32], []), ([23, 28, 33], []), ([11, 23, 34], []), ([11, 35], [])], by kernel_rfl, ⟨fun S hS => g_fin rfl (g_op rfl (s_move (v := .d (.sl 3 (old_1.map encApiSeat))) (lt_of rfl) (ov_ev hS rfl) rfl)),
      fun S hS => g_fin rfl (g_op rfl (s_move (v := .d (.lit (.int .i64 k_2_4))) (lt_of rfl) (ov_ev hS rfl) rfl)),
      fun S hS => g_fin rfl (g_op rfl (s_index_sl (lt_of rfl) (ov_ev hS rfl) (ov_ev hS rfl) sl_26.of (idx_map encApiSeat h8))),
      fun S hS => g_fin rfl (g_op rfl (s_field_cp (lt_of rfl) (ov_ev hS rfl) fld_45_0 (es := [.lit (.int .i64 x7.Job)]) rfl)),
      fun S hS => g_fin rfl (g_op rfl (s_load_cp (lt_of rfl) (ov_ev hS rfl) one_3)),
      fun S hS => g_fin rfl (g_op rfl (s_move (v := .d (.sl 3 (order_0.map encApiSeat))) (lt_of rfl) (ov_ev hS rfl) rfl)),
      fun S hS => g_fin rfl (g_op rfl (s_move (v := .d (.lit (.int .i64 i_0_1))) (lt_of rfl) (ov_ev hS rfl) rfl)),
      fun S hS => g_fin rfl (g_op rfl (s_index_sl (lt_of rfl) (ov_ev hS rfl) (ov_ev hS rfl) sl_26.of (idx_map encApiSeat h10))),
      fun S hS => g_fin rfl (g_op rfl (s_field_cp (lt_of rfl) (ov_ev hS rfl) fld_45_0 (es := [.lit (.int .i64 x9.Job)]) rfl)),
      fun S hS => g_fin rfl (g_op rfl (s_load_cp (lt_of rfl) (ov_ev hS rfl) one_3)),
      fun S hS => g_fin rfl (g_op rfl (s_cmp (lt_of rfl) (ov_ev hS rfl) (ov_ev hS rfl) rfl)),
      fun S hS => g_fin rfl (g_op rfl (s_move (v := .d (.lit (.bool ((decide (x7.Job = x9.Job)))))) (lt_of rfl) (ov_ev hS rfl) rfl)),
      fun S hS => g_fin rfl (g_take rfl rfl (lt_of rfl) (ov_en hS rfl) c13 (s_move (v := .d (.sl 3 (old_1.map encApiSeat))) (lt_of rfl) (ov_ev hS rfl) rfl)),
      fun S hS => g_fin rfl (g_take rfl rfl (lt_of rfl) (ov_en hS rfl) c13 (s_move (v := .d (.lit (.int .i64 k_2_4))) (lt_of rfl) (ov_ev hS rfl) rfl)),
      fun S hS => g_fin rfl (g_take rfl rfl (lt_of rfl) (ov_en hS rfl) c13 (s_index_sl (lt_of rfl) (ov_ev hS rfl) (ov_ev hS rfl) sl_26.of (idx_map encApiSeat h15))),
      fun S hS => g_fin rfl (g_take rfl rfl (lt_of rfl) (ov_en hS rfl) c13 (s_field_cp (lt_of rfl) (ov_ev hS rfl) fld_45_1 (es := [.lit (.int .i64 x14.Day)]) rfl)),
      fun S hS => g_fin rfl (g_take rfl rfl (lt_of rfl) (ov_en hS rfl) c13 (s_load_cp (lt_of rfl) (ov_ev hS rfl) one_3)),
      fun S hS => g_fin rfl (g_take rfl rfl (lt_of rfl) (ov_en hS rfl) c13 (s_move (v := .d (.sl 3 (order_0.map encApiSeat))) (lt_of rfl) (ov_ev hS rfl) rfl)),
      fun S hS => g_fin rfl (g_take rfl rfl (lt_of rfl) (ov_en hS rfl) c13 (s_move (v := .d (.lit (.int .i64 i_0_1))) (lt_of rfl) (ov_ev hS rfl) rfl)),
      fun S hS => g_fin rfl (g_take rfl rfl (lt_of rfl) (ov_en hS rfl) c13 (s_index_sl (lt_of rfl) (ov_ev hS rfl) (ov_ev hS rfl) sl_26.of (idx_map encApiSeat h17))),
      fun S hS => g_fin rfl (g_take rfl rfl (lt_of rfl) (ov_en hS rfl) c13 (s_field_cp (lt_of rfl) (ov_ev hS rfl) fld_45_1 (es := [.lit (.int .i64 x16.Day)]) rfl)),
      fun S hS => g_fin rfl (g_take rfl rfl (lt_of rfl) (ov_en hS rfl) c13 (s_load_cp (lt_of rfl) (ov_ev hS rfl) one_3)),
      fun S hS => g_fin rfl (g_take rfl rfl (lt_of rfl) (ov_en hS rfl) c13 (s_cmp (lt_of rfl) (ov_ev hS rfl) (ov_ev hS rfl) rfl)),
      fun S hS => g_fin rfl (g_take rfl rfl (lt_of rfl) (ov_en hS rfl) c13 (s_move (v := .d (.lit (.bool ((!decide (x14.Day = x16.Day)))))) (lt_of rfl) (ov_ev hS rfl) rfl)),
      fun S hS => g_fin rfl (g_pass rfl rfl (lt_of rfl) rfl (lt_of rfl) (ov_en hS rfl) c20),
      fun S hS => g_fin rfl (g_pass rfl rfl (lt_of rfl) rfl (lt_of rfl) (ov_en hS rfl) c20),
      fun S hS => g_fin rfl (g_pass rfl rfl (lt_of rfl) rfl (lt_of rfl) (ov_en hS rfl) c20),
      fun S hS => g_fin rfl (g_pass rfl rfl (lt_of rfl) rfl (lt_of rfl) (ov_en hS rfl) c20),
      fun S hS => g_fin rfl (g_pass rfl rfl (lt_of rfl) rfl (lt_of rfl) (ov_en hS rfl) c20),
      fun S hS => g_fin rfl (g_pass rfl rfl (lt_of rfl) rfl (lt_of rfl) (ov_en hS rfl) c20),
      fun S hS => g_fin rfl (g_pass rfl rfl (lt_of rfl) rfl (lt_of rfl) (ov_en hS rfl) c20),
      fun S hS => g_fin rfl (g_pass rfl rfl (lt_of rfl) rfl (lt_of rfl) (ov_en hS rfl) c20),
      fun S hS => g_fin rfl (g_pass rfl rfl (lt_of rfl) rfl (lt_of rfl) (ov_en hS rfl) c20),
      fun S hS => g_fin rfl (g_pass rfl rfl (lt_of rfl) rfl (lt_of rfl) (ov_en hS rfl) c20),
      fun S hS => g_fin rfl (g_pass rfl rfl (lt_of rfl) rfl (lt_of rfl) (ov_en hS rfl) c20),
      fun S hS => g_fin rfl (g_take rfl rfl (lt_of rfl) (ov_en hS rfl) c13 (s_pick_t (v := .d (.lit (.bool true))) (lt_of rfl) (ov_ev hS rfl) c20 rfl rfl)),
      fun S hS => g_fin rfl (g_op rfl (s_pick_t (v := .d (.lit (.bool (true)))) (lt_of rfl) (ov_ev hS rfl) c13 (ov_ev hS rfl) rfl)), trivial⟩⟩
            · exact ent_le (le_upd rfl (le_keep ⟨rfl, rfl, rfl, rfl, rfl, trivial⟩))
          · have h19 := cond_ff c20 h19
            obtain ⟨x21, h22, h19⟩ := bind_some h19
            obtain ⟨x23, h24, h19⟩ := bind_some h19
            have h19 := Option.some.inj h19
            subst h19
            have h12 := Option.some.inj h12
            subst h12
            refine ⟨[(20, 0, .d (.sl 3 (old_1.map encApiSeat))), (21, 1, .d (.lit (.int .i64 k_2_4))), (22, 2, .cp [.lit (.int .i64 x7.Job), .lit (.int .i64 x7.Day), .lit (.int .i64 x7.Court)]), (23, 3, .cp [.lit (.int .i64 x7.Job)]), (24, 4, .d (.lit (.int .i64 x7.Job))), (25, 5, .d (.sl 3 (order_0.map encApiSeat))), (26, 6, .d (.lit (.int .i64 i_0_1))), (27, 7, .cp [.lit (.int .i64 x9.Job), .lit (.int .i64 x9.Day), .lit (.int .i64 x9.Court)]), (28, 8, .cp [.lit (.int .i64 x9.Job)]), (29, 9, .d (.lit (.int .i64 x9.Job))), (30, 10, .d (.lit (.bool ((decide (x7.Job = x9.Job)))))), (31, 11, .d (.lit (.bool ((decide (x7.Job = x9.Job)))))), (32, 12, .d (.sl 3 (old_1.map encApiSeat))), (33, 13, .d (.lit (.int .i64 k_2_4))), (34, 14, .cp [.lit (.int .i64 x14.Job), .lit (.int .i64 x14.Day), .lit (.int .i64 x14.Court)]), (35, 15, .cp [.lit (.int .i64 x14.Day)]), (36, 16, .d (.lit (.int .i64 x14.Day))), (37, 17, .d (.sl 3 (order_0.map encApiSeat))), (38, 18, .d (.lit (.int .i64 i_0_1))), (39, 19, .cp [.lit (.int .i64 x16.Job), .lit (.int .i64 x16.Day), .lit (.int .i64 x16.Court)]), (40, 20, .cp [.lit (.int .i64 x16.Day)]), (41, 21, .d (.lit (.int .i64 x16.Day))), (42, 22, .d (.lit (.bool ((!decide (x14.Day = x16.Day)))))), (43, 23, .d (.lit (.bool ((!decide (x14.Day = x16.Day)))))), (44, 24, .d (.sl 3 (old_1.map encApiSeat))), (45, 25, .d (.lit (.int .i64 k_2_4))), (46, 26, .cp [.lit (.int .i64 x21.Job), .lit (.int .i64 x21.Day), .lit (.int .i64 x21.Court)]), (47, 27, .cp [.lit (.int .i64 x21.Court)]), (48, 28, .d (.lit (.int .i64 x21.Court))), (49, 29, .d (.sl 3 (order_0.map encApiSeat))), (50, 30, .d (.lit (.int .i64 i_0_1))), (51, 31, .cp [.lit (.int .i64 x23.Job), .lit (.int .i64 x23.Day), .lit (.int .i64 x23.Court)]), (52, 32, .cp [.lit (.int .i64 x23.Court)]), (53, 33, .d (.lit (.int .i64 x23.Court))), (54, 34, .d (.lit (.bool ((!decide (x21.Court = x23.Court)))))), (55, 35, .d (.lit (.bool ((!decide (x21.Court = x23.Court)))))), (56, 36, .d (.lit (.bool (!decide (x21.Court = x23.Court)))))], ?_, ?_⟩
            · exact ⟨by kernel_rfl, by kernel_rfl, by kernel_rfl, by kernel_rfl, by kernel_rfl, [([], []), ([], []), ([0, 1], []), ([2], []), ([3], []), ([], []), ([], []), ([5, 6], []), ([7], []), ([8], []), ([4, 9], []), ([10], []), ([11], []), ([11], []), ([11, 12, 13], []), ([11, 14], []), ([11, 15], []), ([11], []), ([11], []), ([11, 17, 18], []), ([11, 19], []), ([11, 20], []), ([11, 16, 21], []), ([11, 22], []), ([23], []), ([23], []), ([23, 24, 25], []), ([23, 26], []), ([23, 27], []), ([23], []), ([23], []), ([23, 29, 30], []), ([23, 31], []), ([23, 32], []), ([23, 28, 33], []), ([11, 23, 34], []), ([11, 35], [])], by kernel_rfl, ⟨fun S hS => g_fin rfl (g_op rfl (s_move (v := .d (.sl 3 (old_1.map encApiSeat))) (lt_of rfl) (ov_ev hS rfl) rfl)),
      fun S hS => g_fin rfl (g_op rfl (s_move (v := .d (.lit (.int .i64 k_2_4))) (lt_of rfl) (ov_ev hS rfl) rfl)),
      fun S hS => g_fin rfl (g_op rfl (s_index_sl (lt_of rfl) (ov_ev hS rfl) (ov_ev hS rfl) sl_26.of (idx_map encApiSeat h8))),
      fun S hS => g_fin rfl (g_op rfl (s_field_cp (lt_of rfl) (ov_ev hS rfl) fld_45_0 (es := [.lit (.int .i64 x7.Job)]) rfl)),
      fun S hS => g_fin rfl (g_op rfl (s_load_cp (lt_of rfl) (ov_ev hS rfl) one_3)),
      fun S hS => g_fin rfl (g_op rfl (s_move (v := .d (.sl 3 (order_0.map encApiSeat))) (lt_of rfl) (ov_ev hS rfl) rfl)),
      fun S hS => g_fin rfl (g_op rfl (s_move (v := .d (.lit (.int .i64 i_0_1))) (lt_of rfl) (ov_ev hS rfl) rfl)),
      fun S hS => g_fin rfl (g_op rfl (s_index_sl (lt_of rfl) (ov_ev hS rfl) (ov_ev hS rfl) sl_26.of (idx_map encApiSeat h10))),
      fun S hS => g_fin rfl (g_op rfl (s_field_cp (lt_of rfl) (ov_ev hS rfl) fld_45_0 (es := [.lit (.int .i64 x9.Job)]) rfl)),
      fun S hS => g_fin rfl (g_op rfl (s_load_cp (lt_of rfl) (ov_ev hS rfl) one_3)),
      fun S hS => g_fin rfl (g_op rfl (s_cmp (lt_of rfl) (ov_ev hS rfl) (ov_ev hS rfl) rfl)),
      fun S hS => g_fin rfl (g_op rfl (s_move (v := .d (.lit (.bool ((decide (x7.Job = x9.Job)))))) (lt_of rfl) (ov_ev hS rfl) rfl)),
      fun S hS => g_fin rfl (g_take rfl rfl (lt_of rfl) (ov_en hS rfl) c13 (s_move (v := .d (.sl 3 (old_1.map encApiSeat))) (lt_of rfl) (ov_ev hS rfl) rfl)),
      fun S hS => g_fin rfl (g_take rfl rfl (lt_of rfl) (ov_en hS rfl) c13 (s_move (v := .d (.lit (.int .i64 k_2_4))) (lt_of rfl) (ov_ev hS rfl) rfl)),
      fun S hS => g_fin rfl (g_take rfl rfl (lt_of rfl) (ov_en hS rfl) c13 (s_index_sl (lt_of rfl) (ov_ev hS rfl) (ov_ev hS rfl) sl_26.of (idx_map encApiSeat h15))),
      fun S hS => g_fin rfl (g_take rfl rfl (lt_of rfl) (ov_en hS rfl) c13 (s_field_cp (lt_of rfl) (ov_ev hS rfl) fld_45_1 (es := [.lit (.int .i64 x14.Day)]) rfl)),
      fun S hS => g_fin rfl (g_take rfl rfl (lt_of rfl) (ov_en hS rfl) c13 (s_load_cp (lt_of rfl) (ov_ev hS rfl) one_3)),
      fun S hS => g_fin rfl (g_take rfl rfl (lt_of rfl) (ov_en hS rfl) c13 (s_move (v := .d (.sl 3 (order_0.map encApiSeat))) (lt_of rfl) (ov_ev hS rfl) rfl)),
      fun S hS => g_fin rfl (g_take rfl rfl (lt_of rfl) (ov_en hS rfl) c13 (s_move (v := .d (.lit (.int .i64 i_0_1))) (lt_of rfl) (ov_ev hS rfl) rfl)),
      fun S hS => g_fin rfl (g_take rfl rfl (lt_of rfl) (ov_en hS rfl) c13 (s_index_sl (lt_of rfl) (ov_ev hS rfl) (ov_ev hS rfl) sl_26.of (idx_map encApiSeat h17))),
      fun S hS => g_fin rfl (g_take rfl rfl (lt_of rfl) (ov_en hS rfl) c13 (s_field_cp (lt_of rfl) (ov_ev hS rfl) fld_45_1 (es := [.lit (.int .i64 x16.Day)]) rfl)),
      fun S hS => g_fin rfl (g_take rfl rfl (lt_of rfl) (ov_en hS rfl) c13 (s_load_cp (lt_of rfl) (ov_ev hS rfl) one_3)),
      fun S hS => g_fin rfl (g_take rfl rfl (lt_of rfl) (ov_en hS rfl) c13 (s_cmp (lt_of rfl) (ov_ev hS rfl) (ov_ev hS rfl) rfl)),
      fun S hS => g_fin rfl (g_take rfl rfl (lt_of rfl) (ov_en hS rfl) c13 (s_move (v := .d (.lit (.bool ((!decide (x14.Day = x16.Day)))))) (lt_of rfl) (ov_ev hS rfl) rfl)),
      fun S hS => g_fin rfl (g_take rfl rfl (lt_of rfl) (ov_en hS rfl) c20 (s_move (v := .d (.sl 3 (old_1.map encApiSeat))) (lt_of rfl) (ov_ev hS rfl) rfl)),
      fun S hS => g_fin rfl (g_take rfl rfl (lt_of rfl) (ov_en hS rfl) c20 (s_move (v := .d (.lit (.int .i64 k_2_4))) (lt_of rfl) (ov_ev hS rfl) rfl)),
      fun S hS => g_fin rfl (g_take rfl rfl (lt_of rfl) (ov_en hS rfl) c20 (s_index_sl (lt_of rfl) (ov_ev hS rfl) (ov_ev hS rfl) sl_26.of (idx_map encApiSeat h22))),
      fun S hS => g_fin rfl (g_take rfl rfl (lt_of rfl) (ov_en hS rfl) c20 (s_field_cp (lt_of rfl) (ov_ev hS rfl) fld_45_2 (es := [.lit (.int .i64 x21.Court)]) rfl)),
      fun S hS => g_fin rfl (g_take rfl rfl (lt_of rfl) (ov_en hS rfl) c20 (s_load_cp (lt_of rfl) (ov_ev hS rfl) one_3)),
      fun S hS => g_fin rfl (g_take rfl rfl (lt_of rfl) (ov_en hS rfl) c20 (s_move (v := .d (.sl 3 (order_0.map encApiSeat))) (lt_of rfl) (ov_ev hS rfl) rfl)),
      fun S hS => g_fin rfl (g_take rfl rfl (lt_of rfl) (ov_en hS rfl) c20 (s_move (v := .d (.lit (.int .i64 i_0_1))) (lt_of rfl) (ov_ev hS rfl) rfl)),
      fun S hS => g_fin rfl (g_take rfl rfl (lt_of rfl) (ov_en hS rfl) c20 (s_index_sl (lt_of rfl) (ov_ev hS rfl) (ov_ev hS rfl) sl_26.of (idx_map encApiSeat h24))),
      fun S hS => g_fin rfl (g_take rfl rfl (lt_of rfl) (ov_en hS rfl) c20 (s_field_cp (lt_of rfl) (ov_ev hS rfl) fld_45_2 (es := [.lit (.int .i64 x23.Court)]) rfl)),
      fun S hS => g_fin rfl (g_take rfl rfl (lt_of rfl) (ov_en hS rfl) c20 (s_load_cp (lt_of rfl) (ov_ev hS rfl) one_3)),
      fun S hS => g_fin rfl (g_take rfl rfl (lt_of rfl) (ov_en hS rfl) c20 (s_cmp (lt_of rfl) (ov_ev hS rfl) (ov_ev hS rfl) rfl)),
      fun S hS => g_fin rfl (g_take rfl rfl (lt_of rfl) (ov_en hS rfl) c13 (s_pick_f (v := .d (.lit (.bool ((!decide (x21.Court = x23.Court)))))) (lt_of rfl) (ov_ev hS rfl) c20 (ov_ev hS rfl) rfl)),
      fun S hS => g_fin rfl (g_op rfl (s_pick_t (v := .d (.lit (.bool (!decide (x21.Court = x23.Court))))) (lt_of rfl) (ov_ev hS rfl) c13 (ov_ev hS rfl) rfl)), trivial⟩⟩
            · exact ent_le (le_upd rfl (le_keep ⟨rfl, rfl, rfl, rfl, rfl, trivial⟩))
        · have h12 := cond_ff c13 h12
          have h12 := Option.some.inj h12
          subst h12
          refine ⟨[(20, 0, .d (.sl 3 (old_1.map encApiSeat))), (21, 1, .d (.lit (.int .i64 k_2_4))), (22, 2, .cp [.lit (.int .i64 x7.Job), .lit (.int .i64 x7.Day), .lit (.int .i64 x7.Court)]), (23, 3, .cp [.lit (.int .i64 x7.Job)]), (24, 4, .d (.lit (.int .i64 x7.Job))), (25, 5, .d (.sl 3 (order_0.map encApiSeat))), (26, 6, .d (.lit (.int .i64 i_0_1))), (27, 7, .cp [.lit (.int .i64 x9.Job), .lit (.int .i64 x9.Day), .lit (.int .i64 x9.Court)]), (28, 8, .cp [.lit (.int .i64 x9.Job)]), (29, 9, .d (.lit (.int .i64 x9.Job))), (30, 10, .d (.lit (.bool ((decide (x7.Job = x9.Job)))))), (31, 11, .d (.lit (.bool ((decide (x7.Job = x9.Job)))))), (32, 12, .tup []), (33, 13, .tup []), (34, 14, .tup []), (35, 15, .tup []), (36, 16, .tup []), (37, 17, .tup []), (38, 18, .tup []), (39, 19, .tup []), (40, 20, .tup []), (41, 21, .tup []), (42, 22, .tup []), (43, 23, .tup []), (44, 24, .tup []), (45, 25, .tup []), (46, 26, .tup []), (47, 27, .tup []), (48, 28, .tup []), (49, 29, .tup []), (50, 30, .tup []), (51, 31, .tup []), (52, 32, .tup []), (53, 33, .tup []), (54, 34, .tup []), (55, 35, .tup []), (56, 36, .d (.lit (.bool false)))], ?_, ?_⟩
          · exact ⟨by kernel_rfl, by kernel_rfl, by kernel_rfl, by kernel_rfl, by kernel_rfl, [([], []), ([], []), ([0, 1], []), ([2], []), ([3], []), ([], []), ([], []), ([5, 6], []), ([7], []), ([8], []), ([4, 9], []), ([10], []), ([11], []), ([11], []), ([11, 12, 13], []), ([11, 14], []), ([11, 15], []), ([11], []), ([11], []), ([11, 17, 18], []), ([11, 19], []), ([11, 20], []), ([11, 16, 21], []), ([11, 22], []), ([23], []), ([23], []), ([23, 24, 25], []), ([23, 26], []), ([23, 27], []), ([23], []), ([23], []), ([23, 29, 30], []), ([23, 31], []), ([23, 32], []), ([23, 28, 33], []), ([11, 23, 34], []), ([11, 35], [])], by kernel_rfl, ⟨fun S hS => g_fin rfl (g_op rfl (s_move (v := .d (.sl 3 (old_1.map encApiSeat))) (lt_of rfl) (ov_ev hS rfl) rfl)),
      fun S hS => g_fin rfl (g_op rfl (s_move (v := .d (.lit (.int .i64 k_2_4))) (lt_of rfl) (ov_ev hS rfl) rfl)),
      fun S hS => g_fin rfl (g_op rfl (s_index_sl (lt_of rfl) (ov_ev hS rfl) (ov_ev hS rfl) sl_26.of (idx_map encApiSeat h8))),
      fun S hS => g_fin rfl (g_op rfl (s_field_cp (lt_of rfl) (ov_ev hS rfl) fld_45_0 (es := [.lit (.int .i64 x7.Job)]) rfl)),
      fun S hS => g_fin rfl (g_op rfl (s_load_cp (lt_of rfl) (ov_ev hS rfl) one_3)),
      fun S hS => g_fin rfl (g_op rfl (s_move (v := .d (.sl 3 (order_0.map encApiSeat))) (lt_of rfl) (ov_ev hS rfl) rfl)),
      fun S hS => g_fin rfl (g_op rfl (s_move (v := .d (.lit (.int .i64 i_0_1))) (lt_of rfl) (ov_ev hS rfl) rfl)),
      fun S hS => g_fin rfl (g_op rfl (s_index_sl (lt_of rfl) (ov_ev hS rfl) (ov_ev hS rfl) sl_26.of (idx_map encApiSeat h10))),
      fun S hS => g_fin rfl (g_op rfl (s_field_cp (lt_of rfl) (ov_ev hS rfl) fld_45_0 (es := [.lit (.int .i64 x9.Job)]) rfl)),
      fun S hS => g_fin rfl (g_op rfl (s_load_cp (lt_of rfl) (ov_ev hS rfl) one_3)),
      fun S hS => g_fin rfl (g_op rfl (s_cmp (lt_of rfl) (ov_ev hS rfl) (ov_ev hS rfl) rfl)),
      fun S hS => g_fin rfl (g_op rfl (s_move (v := .d (.lit (.bool ((decide (x7.Job = x9.Job)))))) (lt_of rfl) (ov_ev hS rfl) rfl)),
      fun S hS => g_fin rfl (g_pass rfl rfl (lt_of rfl) rfl (lt_of rfl) (ov_en hS rfl) c13),
      fun S hS => g_fin rfl (g_pass rfl rfl (lt_of rfl) rfl (lt_of rfl) (ov_en hS rfl) c13),
      fun S hS => g_fin rfl (g_pass rfl rfl (lt_of rfl) rfl (lt_of rfl) (ov_en hS rfl) c13),
      fun S hS => g_fin rfl (g_pass rfl rfl (lt_of rfl) rfl (lt_of rfl) (ov_en hS rfl) c13),
      fun S hS => g_fin rfl (g_pass rfl rfl (lt_of rfl) rfl (lt_of rfl) (ov_en hS rfl) c13),
      fun S hS => g_fin rfl (g_pass rfl rfl (lt_of rfl) rfl (lt_of rfl) (ov_en hS rfl) c13),
      fun S hS => g_fin rfl (g_pass rfl rfl (lt_of rfl) rfl (lt_of rfl) (ov_en hS rfl) c13),
      fun S hS => g_fin rfl (g_pass rfl rfl (lt_of rfl) rfl (lt_of rfl) (ov_en hS rfl) c13),
      fun S hS => g_fin rfl (g_pass rfl rfl (lt_of rfl) rfl (lt_of rfl) (ov_en hS rfl) c13),
      fun S hS => g_fin rfl (g_pass rfl rfl (lt_of rfl) rfl (lt_of rfl) (ov_en hS rfl) c13),
      fun S hS => g_fin rfl (g_pass rfl rfl (lt_of rfl) rfl (lt_of rfl) (ov_en hS rfl) c13),
      fun S hS => g_fin rfl (g_pass rfl rfl (lt_of rfl) rfl (lt_of rfl) (ov_en hS rfl) c13),
      fun S hS => g_fin rfl (g_pass' rfl rfl (lt_of rfl) rfl (lt_of rfl) (ov_en hS rfl)),
      fun S hS => g_fin rfl (g_pass' rfl rfl (lt_of rfl) rfl (lt_of rfl) (ov_en hS rfl)),
      fun S hS => g_fin rfl (g_pass' rfl rfl (lt_of rfl) rfl (lt_of rfl) (ov_en hS rfl)),
      fun S hS => g_fin rfl (g_pass' rfl rfl (lt_of rfl) rfl (lt_of rfl) (ov_en hS rfl)),
      fun S hS => g_fin rfl (g_pass' rfl rfl (lt_of rfl) rfl (lt_of rfl) (ov_en hS rfl)),
      fun S hS => g_fin rfl (g_pass' rfl rfl (lt_of rfl) rfl (lt_of rfl) (ov_en hS rfl)),
      fun S hS => g_fin rfl (g_pass' rfl rfl (lt_of rfl) rfl (lt_of rfl) (ov_en hS rfl)),
      fun S hS => g_fin rfl (g_pass' rfl rfl (lt_of rfl) rfl (lt_of rfl) (ov_en hS rfl)),
      fun S hS => g_fin rfl (g_pass' rfl rfl (lt_of rfl) rfl (lt_of rfl) (ov_en hS rfl)),
      fun S hS => g_fin rfl (g_pass' rfl rfl (lt_of rfl) rfl (lt_of rfl) (ov_en hS rfl)),
      fun S hS => g_fin rfl (g_pass' rfl rfl (lt_of rfl) rfl (lt_of rfl) (ov_en hS rfl)),
      fun S hS => g_fin rfl (g_pass rfl rfl (lt_of rfl) rfl (lt_of rfl) (ov_en hS rfl) c13),
      fun S hS => g_fin rfl (g_op rfl (s_pick_f (v := .d (.lit (.bool false))) (lt_of rfl) (ov_ev hS rfl) c13 rfl rfl)), trivial⟩⟩
          · exact ent_le (le_upd rfl (le_keep ⟨rfl, rfl, rfl, rfl, rfl, trivial⟩))
      · refine tr_nil ?_
        refine tr_if rfl (fun c25 => ?_) (fun c25 => ?_)
        · have h := cond_tt c25 h
          refine tr_region ?_
          refine tr1 rfl (s_move (v := .d (.lit (.int .i64 n_2_4))) (lt_of rfl) rfl rfl) ?_
          refine tr1 rfl (s_arith (lt_of rfl) rfl rfl rfl) ?_
          refine tr1 rfl (s_assign (v := .d (.lit (.int .i64 ((w64 (n_2_4 + 1)))))) (lt_of rfl) rfl rfl) ?_
          refine tr_nilb ?_
          refine tr_region ?_
          refine tr1 rfl (s_move (v := .d (.lit (.int .i64 k_2_4))) (lt_of rfl) rfl rfl) ?_
          refine tr1 rfl (s_arith (lt_of rfl) rfl rfl rfl) ?_
          refine tr1 rfl (s_assign (v := .d (.lit (.int .i64 ((w64 (k_2_4 + 1)))))) (lt_of rfl) rfl rfl) ?_
          refine tr_nil ?_
          exact ⟨(w64 (n_2_4 + 1), w64 (k_2_4 + 1)), h, ent_pick [] rfl rfl (le_upd rfl (le_upd rfl (le_keep ⟨rfl, rfl, rfl, trivial⟩)))⟩
        · have h := cond_ff c25 h
          refine tr_skipb ?_
          refine tr_region ?_
          refine tr1 rfl (s_move (v := .d (.lit (.int .i64 k_2_4))) (lt_of rfl) rfl rfl) ?_
          refine tr1 rfl (s_arith (lt_of rfl) rfl rfl rfl) ?_
          refine tr1 rfl (s_assign (v := .d (.lit (.int .i64 ((w64 (k_2_4 + 1)))))) (lt_of rfl) rfl rfl) ?_
          refine tr_nil ?_
          exact ⟨(n_2_4, w64 (k_2_4 + 1)), h, ent_pick [] rfl rfl (le_upd rfl (le_upd rfl (le_keep ⟨rfl, rfl, rfl, trivial⟩)))⟩
    · have h := cond_ff c6 h
      refine tr_exit ?_
      refine .inl ⟨rfl, ?_⟩
      simp only [deuceref08_moved_K2] at h
      simp only [deuceref08_moved_K1] at h
      refine tr_region ?_
      refine tr1 rfl (s_move (v := .d (.lit (.int .i64 i_0_1))) (lt_of rfl) rfl rfl) ?_
      refine tr1 rfl (s_arith (lt_of rfl) rfl rfl rfl) ?_
      refine tr1 rfl (s_assign (v := .d (.lit (.int .i64 ((w64 (i_0_1 + 1)))))) (lt_of rfl) rfl rfl) ?_
      refine tr_nil ?_
      exact ⟨(n_2_4, w64 (i_0_1 + 1)), h, ent_pick [] rfl rfl (le_upd rfl (le_upd rfl (le_keep ⟨rfl, rfl, trivial⟩)))⟩
  · have h := cond_ff c3 h
    refine tr_exit ?_
    refine .inl ⟨rfl, ?_⟩
    simp only [deuceref08_moved_K0] at h
    refine tr_seq ?_
    refine tr_region ?_
    refine tr1 rfl (s_move (v := .d (.lit (.int .i64 n_0_1))) (lt_of rfl) rfl rfl) ?_
    refine tr1 rfl (s_assign (v := .d (.lit (.int .i64 n_0_1))) (lt_of rfl) rfl rfl) ?_
    refine tr_nil ?_
    have h := Option.some.inj h
    subst h
    exact tr_ret ⟨rfl, _, .one _, rfl, rfl⟩

theorem deuceref08_Moved_c (order_0 : List ApiSeat) (old_1 : List ApiSeat) {r : Int} (h : deuceref08_Moved order_0 old_1 = some r) : Fn Try.prog 34 [.d (.sl 3 (order_0.map encApiSeat)), .d (.sl 3 (old_1.map encApiSeat))] (.d (.lit (.int .i64 r))) := by
  unfold deuceref08_Moved at h
  refine Fn.of_tr Try.func34 rfl (rs := [.tmp 4]) Try.results34 Try.ntmps34 (Nat.le_of_ble_eq_true rfl) ?_
  refine tr_seq ?_
  refine tr_region ?_
  refine tr1 rfl (s_assign (v := .d (.lit (.int .i64 0))) (lt_of rfl) rfl rfl) ?_
  refine tr_nil ?_
  refine tr_seq ?_
  refine tr_region ?_
  refine tr1 rfl (s_move (v := .d (.sl 3 (order_0.map encApiSeat))) (lt_of rfl) rfl rfl) ?_
  refine tr1 rfl (s_move (v := .d (.sl 3 (old_1.map encApiSeat))) (lt_of rfl) rfl rfl) ?_
  obtain ⟨r1, h2, h⟩ := bind_some h
  refine tr1 rfl (s_call (lt_of rfl) (.func _ _ Try.call69) rfl rfl (BVs.refl _ _) (deuceref08_moved_c _ _ h2) rfl) ?_
  refine tr1 rfl (s_assign (v := .d (.lit (.int .i64 r1))) (lt_of rfl) rfl rfl) ?_
  refine tr_nil ?_
  have h := Option.some.inj h
  subst h
  exact tr_ret ⟨rfl, _, .one _, rfl, rfl⟩

theorem deuceref08_fewest_rc (kr : Nat) : ∀ (p_0 : ApiProgram) (first_1 : List ApiSeat) (old_2 : List ApiSeat) (days_3 : Int) (best_4 : Int) {r : Int} (_h : deuceref08_fewest_r kr p_0 first_1 old_2 days_3 best_4 = some r), Fn Try.prog 71 [.agg (encApiProgram p_0), .d (.sl 3 (first_1.map encApiSeat)), .d (.sl 3 (old_2.map encApiSeat)), .d (.lit (.int .i64 days_3)), .d (.lit (.int .i64 best_4))] (.d (.lit (.int .i64 r))) := by
  induction kr with
  | zero => intros; rename_i h; cases h
  | succ kr ih =>
    intro p_0 first_1 old_2 days_3 best_4 r h
    simp only [deuceref08_fewest_r] at h
    refine Fn.of_tr Try.func71 rfl (rs := [.tmp 10]) Try.results71 Try.ntmps71 (Nat.le_of_ble_eq_true rfl) ?_
    refine tr_seq ?_
    refine tr_region ?_
    refine tr_op rfl (s_box (v := .agg (encApiProgram p_0)) (lt_of rfl) rfl rfl rfl) ?_
    rintro _ ⟨b1, rfl⟩
    refine tr1 rfl (s_assign (v := .d (.lit (.int .i64 0))) (lt_of rfl) rfl rfl) ?_
    refine tr_nil ?_
    refine tr_seq ?_
    refine tr_seq ?_
    refine tr_region ?_
    refine tr1 rfl (s_move (v := .d (.sl 3 (first_1.map encApiSeat))) (lt_of rfl) rfl rfl) ?_
    refine tr1 rfl (s_move (v := .d (.sl 3 (old_2.map encApiSeat))) (lt_of rfl) rfl rfl) ?_
    obtain ⟨r2, h3, h⟩ := bind_some h
    refine tr1 rfl (s_call (lt_of rfl) (.func _ _ Try.call69) rfl rfl (BVs.refl _ _) (deuceref08_moved_c _ _ h3) rfl) ?_
    refine tr1 rfl (s_move (v := .d (.lit (.int .i64 best_4))) (lt_of rfl) rfl rfl) ?_
    refine tr1 rfl (s_cmp (lt_of rfl) rfl rfl rfl) ?_
    refine tr1 rfl (s_move (v := .d (.lit (.bool ((decide (best_4 ≤ r2)))))) (lt_of rfl) rfl rfl) ?_
    obtain ⟨b4, h5, h⟩ := bind_some h
    refine tr_guard 10 [1, 2, 3, 4, 5] 30 b4 ?_ ?_
    · refine bool_cases (decide (best_4 ≤ r2)) (fun c32 => ?_) (fun c32 => ?_)
      · have h5 := cond_tt c32 h5
        refine tr_pass rfl rfl (lt_of rfl) rfl (lt_of rfl) rfl c32 ?_
        refine tr_pass rfl rfl (lt_of rfl) rfl (lt_of rfl) rfl c32 ?_
        refine tr_pass rfl rfl (lt_of rfl) rfl (lt_of rfl) rfl c32 ?_
        refine tr_pass rfl rfl (lt_of rfl) rfl (lt_of rfl) rfl c32 ?_
        refine tr_pass' rfl rfl (lt_of rfl) rfl (lt_of rfl) rfl ?_
        refine tr_pass' rfl rfl (lt_of rfl) rfl (lt_of rfl) rfl ?_
        refine tr_pass' rfl rfl (lt_of rfl) rfl (lt_of rfl) rfl ?_
        refine tr_pass' rfl rfl (lt_of rfl) rfl (lt_of rfl) rfl ?_
        refine tr_pass rfl rfl (lt_of rfl) rfl (lt_of rfl) rfl c32 ?_
        refine tr1 rfl (s_pick_t (v := .d (.lit (.bool true))) (lt_of rfl) rfl c32 rfl rfl) ?_
        have h5 := Option.some.inj h5
        subst h5
        refine tr_nil (ent_keep rfl ⟨rfl, rfl, rfl, rfl, rfl, trivial⟩ rfl)
      · have h5 := cond_ff c32 h5
        refine tr_take1 rfl rfl (lt_of rfl) rfl c32 (s_move (v := .d (.sl 3 (first_1.map encApiSeat))) (lt_of rfl) rfl rfl) ?_
        refine tr_take1 rfl rfl (lt_of rfl) rfl c32 (s_lenm (lt_of rfl) rfl sl_26.of) ?_
        refine tr_take1 rfl rfl (lt_of rfl) rfl c32 (s_cmp (lt_of rfl) rfl rfl rfl) ?_
        refine tr_take1 rfl rfl (lt_of rfl) rfl c32 (s_move (v := .d (.lit (.bool ((decide (0 < (first_1.length : Int))))))) (lt_of rfl) rfl rfl) ?_
        obtain ⟨b33, h34, h5⟩ := bind_some h5
        refine tr_guard 5 [1, 2, 3, 4, 5, 20] 29 b33 ?_ ?_
        · refine bool_cases (decide (0 < (first_1.length : Int))) (fun c35 => ?_) (fun c35 => ?_)
          · have h34 := cond_tt c35 h34
            refine tr_take1 rfl rfl (lt_of rfl) rfl c35 (s_loada_bp (lt_of rfl) rfl (i := 0) rfl agg_25 (es := (encApiProgram p_0)) rfl rfl) ?_
            refine tr_take1 rfl rfl (lt_of rfl) rfl c35 (s_move (v := .d (.sl 3 (first_1.map encApiSeat))) (lt_of rfl) rfl rfl) ?_
            obtain ⟨r36, h37, h34⟩ := bind_some h34
            refine tr_take1 rfl rfl (lt_of rfl) rfl c35 (s_call (lt_of rfl) (.func _ _ Try.call65) rfl rfl (BVs.refl _ _) (deuceref08_late_c _ _ h37) rfl) ?_
            refine tr_take1 rfl rfl (lt_of rfl) rfl c35 (s_cmp (lt_of rfl) rfl rfl rfl) ?_
            refine tr_take1 rfl rfl (lt_of rfl) rfl c32 (s_pick_t (v := .d (.lit (.bool ((decide (0 ≤ r36)))))) (lt_of rfl) rfl c35 rfl rfl) ?_
            have h34 := Option.some.inj h34
            subst h34
            refine tr_nil (ent_keep rfl ⟨rfl, rfl, rfl, rfl, rfl, rfl, trivial⟩ rfl)
          · have h34 := cond_ff c35 h34
            refine tr_pass rfl rfl (lt_of rfl) rfl (lt_of rfl) rfl c35 ?_
            refine tr_pass rfl rfl (lt_of rfl) rfl (lt_of rfl) rfl c35 ?_
            refine tr_pass rfl rfl (lt_of rfl) rfl (lt_of rfl) rfl c35 ?_
            refine tr_pass rfl rfl (lt_of rfl) rfl (lt_of rfl) rfl c35 ?_
            refine tr_take1 rfl rfl (lt_of rfl) rfl c32 (s_pick_f (v := .d (.lit (.bool false))) (lt_of rfl) rfl c35 rfl rfl) ?_
            have h34 := Option.some.inj h34
            subst h34
            refine tr_nil (ent_keep rfl ⟨rfl, rfl, rfl, rfl, rfl, rfl, trivial⟩ rfl)
        · refine tr1 rfl (s_pick_f (v := .d (.lit (.bool b33))) (lt_of rfl) rfl c32 rfl rfl) ?_
          have h5 := Option.some.inj h5
          subst h5
          refine tr_nil (ent_keep rfl ⟨rfl, rfl, rfl, rfl, rfl, trivial⟩ rfl)
    · refine tr_nil ?_
      refine tr_if rfl (fun c6 => ?_) (fun c6 => ?_)
      · have h := cond_tt c6 h
        refine tr_seq ?_
        refine tr_region ?_
        refine tr1 rfl (s_move (v := .d (.lit (.int .i64 best_4))) (lt_of rfl) rfl rfl) ?_
        refine tr1 rfl (s_assign (v := .d (.lit (.int .i64 best_4))) (lt_of rfl) rfl rfl) ?_
        refine tr_nil ?_
        have h := Option.some.inj h
        subst h
        refine tr_ent (ent_free (ble_keep (l := [10]) ⟨rfl, trivial⟩)) ?_
        exact tr_ret ⟨rfl, _, .one _, rfl, rfl⟩
      · have h := cond_ff c6 h
        refine tr_skip ?_
        refine tr_seq ?_
        refine tr_seq ?_
        refine tr_region ?_
        refine tr1 rfl (s_move (v := .d (.sl 3 (first_1.map encApiSeat))) (lt_of rfl) rfl rfl) ?_
        refine tr1 rfl (s_lenm (lt_of rfl) rfl sl_26.of) ?_
        refine tr1 rfl (s_field_bp (lt_of rfl) rfl fld_25_2) ?_
        refine tr1 rfl (s_load_bp (lt_of rfl) rfl (i := 0) rfl rfl one_23) ?_
        refine tr1 rfl (s_lenm (lt_of rfl) rfl sl_23.of) ?_
        refine tr1 rfl (s_cmp (lt_of rfl) rfl rfl rfl) ?_
        refine tr_nil ?_
        refine tr_if rfl (fun c7 => ?_) (fun c7 => ?_)
        · have h := cond_tt c7 h
          refine tr_seq ?_
          refine tr_region ?_
          refine tr1 rfl (s_move (v := .d (.sl 3 (first_1.map encApiSeat))) (lt_of rfl) rfl rfl) ?_
          refine tr1 rfl (s_move (v := .d (.sl 3 (old_2.map encApiSeat))) (lt_of rfl) rfl rfl) ?_
          obtain ⟨r8, h9, h⟩ := bind_some h
          refine tr1 rfl (s_call (lt_of rfl) (.func _ _ Try.call69) rfl rfl (BVs.refl _ _) (deuceref08_moved_c _ _ h9) rfl) ?_
          refine tr1 rfl (s_assign (v := .d (.lit (.int .i64 r8))) (lt_of rfl) rfl rfl) ?_
          refine tr_nil ?_
          have h := Option.some.inj h
          subst h
          refine tr_ent (ent_free (ble_keep (l := [10]) ⟨rfl, trivial⟩)) ?_
          exact tr_ret ⟨rfl, _, .one _, rfl, rfl⟩
        · have h := cond_ff c7 h
          refine tr_skip ?_
          refine tr_seq ?_
          refine tr_seq ?_
          refine tr_region ?_
          refine tr1 rfl (s_assign (v := .d (.lit (.int .i64 0))) (lt_of rfl) rfl rfl) ?_
          refine tr_nil ?_
          refine tr_blk ?_
          refine tr_loopk [1, 2, 3, 5] (fun (s10 : Int × Int) => [(4, .d (.lit (.int .i64 s10.1))), (11, .d (.lit (.int .i64 s10.2)))]) (fun (s10 : Int × Int) => [.box b1 0 (encApiProgram p_0)]) (fun (k : Nat) (s10 : Int × Int) => deuceref08_fewest_L0 (deuceref08_fewest_r kr) first_1 old_2 days_3 p_0 k s10.1 s10.2) (fun _ => rfl) (best_4, 0) h (ent_pick [0] rfl rfl (le_upd rfl (le_upd rfl (le_keep ⟨rfl, rfl, rfl, rfl, trivial⟩)))) ?_
          rintro k11 ⟨best_0_10, job_0_10⟩ h
          simp only [deuceref08_fewest_L0] at h
          refine tr_seq ?_
          refine tr_seq ?_
          refine tr_region ?_
          refine tr1 rfl (s_move (v := .d (.lit (.int .i64 job_0_10))) (lt_of rfl) rfl rfl) ?_
          refine tr1 rfl (s_field_bp (lt_of rfl) rfl fld_25_2) ?_
          refine tr1 rfl (s_load_bp (lt_of rfl) rfl (i := 0) rfl rfl one_23) ?_
          refine tr1 rfl (s_lenm (lt_of rfl) rfl sl_23.of) ?_
          refine tr1 rfl (s_cmp (lt_of rfl) rfl rfl rfl) ?_
          refine tr_nil ?_
          refine tr_if rfl (fun c12 => ?_) (fun c12 => ?_)
          · have h := cond_tt c12 h
            refine tr_skip ?_
            refine tr_seq ?_
            refine tr_blk ?_
            refine tr_seq ?_
            refine tr_region ?_
            refine tr1 rfl (s_assign (v := .d (.lit (.int .i64 0))) (lt_of rfl) rfl rfl) ?_
            refine tr_nil ?_
            refine tr_blkb ?_
            refine tr_loopk [1, 2, 3, 5, 11] (fun (s13 : Int × Int) => [(4, .d (.lit (.int .i64 s13.1))), (12, .d (.lit (.int .i64 s13.2)))]) (fun (s13 : Int × Int) => [.box b1 0 (encApiProgram p_0)]) (fun (k : Nat) (s13 : Int × Int) => deuceref08_fewest_L2 (deuceref08_fewest_r kr) (deuceref08_fewest_L0 (deuceref08_fewest_r kr) first_1 old_2 days_3 p_0 k11) first_1 old_2 days_3 job_0_10 p_0 k s13.1 s13.2) (fun _ => rfl) (best_0_10, 0) h (ent_pick [0] rfl rfl (le_upd rfl (le_upd rfl (le_keep ⟨rfl, rfl, rfl, rfl, rfl, trivial⟩)))) ?_
            rintro k14 ⟨best_2_13, d_2_13⟩ h
            simp only [deuceref08_fewest_L2] at h
            refine tr_seq ?_
            refine tr_seq ?_
            refine tr_region ?_
            refine tr1 rfl (s_move (v := .d (.lit (.int .i64 d_2_13))) (lt_of rfl) rfl rfl) ?_
            refine tr1 rfl (s_move (v := .d (.lit (.int .i64 days_3))) (lt_of rfl) rfl rfl) ?_
            refine tr1 rfl (s_field_bp (lt_of rfl) rfl fld_25_0) ?_
            refine tr1 rfl (s_load_bp (lt_of rfl) rfl (i := 0) rfl rfl one_22) ?_
            refine tr1 rfl (s_lenm (lt_of rfl) rfl sl_22.of) ?_
            refine tr1 rfl (s_min (lt_of rfl) rfl rfl) ?_
            refine tr1 rfl (s_cmp (lt_of rfl) rfl rfl rfl) ?_
            refine tr_nil ?_
            refine tr_if rfl (fun c15 => ?_) (fun c15 => ?_)
            · have h := cond_tt c15 h
              refine tr_skip ?_
              refine tr_seq ?_
              refine tr_blk ?_
              refine tr_seq ?_
              refine tr_region ?_
              refine tr1 rfl (s_assign (v := .d (.lit (.int .i64 0))) (lt_of rfl) rfl rfl) ?_
              refine tr_nil ?_
              refine tr_blkb ?_
              refine tr_loopk [1, 2, 3, 5, 11, 12] (fun (s16 : Int × Int) => [(4, .d (.lit (.int .i64 s16.1))), (13, .d (.lit (.int .i64 s16.2)))]) (fun (s16 : Int × Int) => [.box b1 0 (encApiProgram p_0)]) (fun (k : Nat) (s16 : Int × Int) => deuceref08_fewest_L4 (deuceref08_fewest_r kr) (deuceref08_fewest_L0 (deuceref08_fewest_r kr) first_1 old_2 days_3 p_0 k11) (deuceref08_fewest_L2 (deuceref08_fewest_r kr) (deuceref08_fewest_L0 (deuceref08_fewest_r kr) first_1 old_2 days_3 p_0 k11) first_1 old_2 days_3 job_0_10 p_0 k14) first_1 old_2 days_3 job_0_10 d_2_13 p_0 k s16.1 s16.2) (fun _ => rfl) (best_2_13, 0) h (ent_pick [0] rfl rfl (le_upd rfl (le_upd rfl (le_keep ⟨rfl, rfl, rfl, rfl, rfl, rfl, trivial⟩)))) ?_
              rintro k17 ⟨best_4_16, c_4_16⟩ h
              simp only [deuceref08_fewest_L4] at h
              refine tr_seq ?_
              refine tr_seq ?_
              refine tr_region ?_
              refine tr1 rfl (s_move (v := .d (.lit (.int .i64 c_4_16))) (lt_of rfl) rfl rfl) ?_
              refine tr1 rfl (s_field_bp (lt_of rfl) rfl fld_25_0) ?_
              refine tr1 rfl (s_load_bp (lt_of rfl) rfl (i := 0) rfl rfl one_22) ?_
              refine tr1 rfl (s_move (v := .d (.lit (.int .i64 d_2_13))) (lt_of rfl) rfl rfl) ?_
              obtain ⟨x18, h19, h⟩ := bind_some h
              refine tr1 rfl (s_index_sl (lt_of rfl) rfl rfl sl_22.of (idx_map encSl_ApiSpan h19)) ?_
              refine tr1 rfl (s_load_cp (lt_of rfl) rfl one_37) ?_
              refine tr1 rfl (s_lenm (lt_of rfl) rfl sl_37.of) ?_
              refine tr1 rfl (s_cmp (lt_of rfl) rfl rfl rfl) ?_
              refine tr_nil ?_
              refine tr_if rfl (fun c20 => ?_) (fun c20 => ?_)
              · have h := cond_tt c20 h
                refine tr_skip ?_
                refine tr_seq ?_
                refine tr_blk ?_
                refine tr_seq ?_
                refine tr_region ?_
                refine tr1 rfl (s_move (v := .d (.lit (.int .i64 job_0_10))) (lt_of rfl) rfl rfl) ?_
                refine tr1 rfl (s_move (v := .d (.lit (.int .i64 d_2_13))) (lt_of rfl) rfl rfl) ?_
                refine tr1 rfl (s_move (v := .d (.lit (.int .i64 c_4_16))) (lt_of rfl) rfl rfl) ?_
                refine tr1 rfl (s_build (lt_of rfl) stu_45 (zs := [.lit (.int .i64 0), .lit (.int .i64 0), .lit (.int .i64 0)]) rfl rfl rfl rfl (es := [.lit (.int .i64 job_0_10), .lit (.int .i64 d_2_13), .lit (.int .i64 c_4_16)]) rfl) ?_
                refine tr_op rfl (s_alloc (zs := [.lit (.int .i64 0), .lit (.int .i64 0), .lit (.int .i64 0)]) (lt_of rfl) Try.zeroValue45 rfl rfl) ?_
                rintro _ ⟨b21, rfl⟩
                refine tr1 rfl (s_store_bp (i := 1) rfl rfl rfl rfl rfl Try.sizeOf45 rfl (lt_of rfl) (Nat.le_of_ble_eq_true rfl) (ds' := (encApiSeat (ApiSeat.mk job_0_10 d_2_13 c_4_16))) rfl) ?_
                refine tr_nil ?_
                refine tr_seq ?_
                refine tr_region ?_
                refine tr1 rfl (s_loada_bp (lt_of rfl) rfl (i := 0) rfl agg_25 (es := (encApiProgram p_0)) rfl rfl) ?_
                refine tr1 rfl (s_move (v := .d (.sl 3 (first_1.map encApiSeat))) (lt_of rfl) rfl rfl) ?_
                refine tr1 rfl (s_loada_bp (lt_of rfl) rfl (i := 1) rfl agg_45 (es := (encApiSeat (ApiSeat.mk job_0_10 d_2_13 c_4_16))) rfl rfl) ?_
                obtain ⟨r22, h23, h⟩ := bind_some h
                refine tr1 rfl (s_call (lt_of rfl) (.func _ _ Try.call48) rfl rfl (BVs.refl _ _) (deuceref08_MayCome_c _ _ _ h23) rfl) ?_
                refine tr_nil ?_
                refine tr_if rfl (fun c24 => ?_) (fun c24 => ?_)
                · have h := cond_tt c24 h
                  obtain ⟨x26, h27, h⟩ := bind_some h
                  obtain ⟨x28, h29, h⟩ := bind_some h
                  refine tr_drawxk mix 10 [1, 2, 3, 5, 11, 12, 13] (fun X25 => [(75, .agg (encApiProgram p_0)), (81, .d (.lit (X25 6).v)), (82, .d (.sl 3 (old_2.map encApiSeat))), (83, .d (.lit (.int .i64 days_3))), (84, .d (.lit (.int .i64 best_4_16)))]) (fun X25 => [.box b1 0 (encApiProgram p_0), .box b21 0 (encApiSeat (ApiSeat.mk job_0_10 d_2_13 c_4_16)), .arr (X25 6).v 45 3 (x28.map encApiSeat)]) ?_ ?_
                  · refine ⟨1, fun X25 => [(75, 0, .agg (encApiProgram p_0)), (76, 1, .d (.lit (X25 1).v)), (77, 2, .d (.sl 3 (first_1.map encApiSeat))), (78, 3, .d (.lit (X25 3).v)), (79, 4, .agg (encApiSeat (ApiSeat.mk job_0_10 d_2_13 c_4_16))), (80, 5, .d (.sl 3 ((([(ApiSeat.mk job_0_10 d_2_13 c_4_16)])).map encApiSeat))), (81, 6, .d (.lit (X25 6).v)), (82, 7, .d (.sl 3 (old_2.map encApiSeat))), (83, 8, .d (.lit (.int .i64 days_3))), (84, 9, .d (.lit (.int .i64 best_4_16)))], fun X25 => [([], .box b1 0 (encApiProgram p_0)), ([], .box b21 0 (encApiSeat (ApiSeat.mk job_0_10 d_2_13 c_4_16))), ([(6, .arr (X25 6).v 45 3 (x28.map encApiSeat)), (3, .arr (X25 3).v 45 3 (x26.map encApiSeat)), (1, .arr (X25 1).v 45 3 (([] : List ApiSeat).map encApiSeat))], nob)], ?_, ?_⟩
                    · exact ⟨by kernel_rfl, by kernel_rfl, by kernel_rfl, fun _ => by kernel_rfl, fun _ => by kernel_rfl, fun _ => by kernel_rfl, fun _ => rfl, [([], []), ([], [3, 6]), ([], [3, 6]), ([1, 2], [6]), ([], [6]), ([4], [6]), ([1, 3, 5], []), ([], []), ([], []), ([], [])], by kernel_rfl, ⟨fun X25 S hw hi hS => x_pure (X := X25) rfl (hw X25) rfl (g_op rfl (s_loada_bp (lt_of rfl) (ov_ev hS rfl) (i := 0) (og hS rfl rfl) agg_25 (es := (encApiProgram p_0)) rfl rfl)),
      fun X25 S hw hi hS => x_make (X := X25) (p := 2) (v := fun x => .d (.lit x.v)) (mo := fun x => .arr x.v 45 3 (([] : List ApiSeat).map encApiSeat)) hS hi rfl rfl (fun _ => rfl) hw (fun _ => rfl) (fun _ => rfl) (fun _ => rfl) (fun _ => ⟨rfl, rfl, .inr rfl, ⟨rfl, rfl, .inl rfl, ⟨rfl, rfl, .inr rfl, ⟨rfl, rfl, .inr rfl, ⟨rfl, rfl, .inr rfl, ⟨rfl, rfl, .inr rfl, ⟨rfl, rfl, .inr rfl, ⟨rfl, rfl, .inr rfl, ⟨rfl, rfl, .inr rfl, ⟨rfl, rfl, .inr rfl, trivial⟩⟩⟩⟩⟩⟩⟩⟩⟩⟩) (fun _ => ⟨trivial, rfl, ⟨trivial, rfl, ⟨⟨rfl, .inr rfl, ⟨rfl, .inr rfl, ⟨rfl, .inl rfl, trivial⟩⟩⟩, rfl, trivial⟩⟩⟩) (step_post (s_lit_arr (lt_of rfl) sl_26 rfl pan (rows := (([] : List ApiSeat)).map encApiSeat) rfl (map_len (f := encApiSeat) fun _ => rfl) rfl (by decide)) (by rintro _ ⟨w, rfl⟩; exact ⟨⟨0, w⟩, ent_pick [0, 1, 3] rfl rfl (le_refl _)⟩)),
      fun X25 S hw hi hS => x_pure (X := X25) rfl (hw X25) rfl (g_op rfl (s_move (v := .d (.sl 3 (first_1.map encApiSeat))) (lt_of rfl) (ov_ev hS rfl) rfl)),
      fun X25 S hw hi hS => x_make (X := X25) (p := 2) (v := fun x => .d (.lit x.v)) (mo := fun x => .arr x.v 45 3 (x26.map encApiSeat)) hS hi rfl rfl (fun _ => rfl) hw (fun _ => rfl) (fun _ => rfl) (fun _ => rfl) (fun _ => ⟨rfl, rfl, .inr rfl, ⟨rfl, rfl, .inr rfl, ⟨rfl, rfl, .inr rfl, ⟨rfl, rfl, .inl rfl, ⟨rfl, rfl, .inr rfl, ⟨rfl, rfl, .inr rfl, ⟨rfl, rfl, .inr rfl, ⟨rfl, rfl, .inr rfl, ⟨rfl, rfl, .inr rfl, ⟨rfl, rfl, .inr rfl, trivial⟩⟩⟩⟩⟩⟩⟩⟩⟩⟩) (fun _ => ⟨trivial, rfl, ⟨trivial, rfl, ⟨⟨rfl, .inr rfl, ⟨rfl, .inl rfl, ⟨rfl, .inr rfl, trivial⟩⟩⟩, rfl, trivial⟩⟩⟩) (step_post (s_appendm (i := 2) (lt_of rfl) sl_26 (ov_ev hS rfl) (og hS rfl rfl) (ov_ev hS rfl) (fun _ => rfl) h27 rfl) (by rintro _ ⟨w, rfl⟩; exact ⟨⟨0, w⟩, Ent.refl _⟩)),
      fun X25 S hw hi hS => x_pure (X := X25) rfl (hw X25) rfl (g_op rfl (s_loada_bp (lt_of rfl) (ov_ev hS rfl) (i := 1) (og hS rfl rfl) agg_45 (es := (encApiSeat (ApiSeat.mk job_0_10 d_2_13 c_4_16))) rfl rfl)),
      fun X25 S hw hi hS => x_pure (X := X25) rfl (hw X25) rfl (g_op rfl (s_lit_sl (lt_of rfl) sl_26 rfl (pa2 (ov_ev hS rfl) pan) (rows := ([(ApiSeat.mk job_0_10 d_2_13 c_4_16)]).map encApiSeat) rfl (map_len (f := encApiSeat) fun _ => rfl) rfl (by decide))),
      fun X25 S hw hi hS => x_make (X := X25) (p := 2) (v := fun x => .d (.lit x.v)) (mo := fun x => .arr x.v 45 3 (x28.map encApiSeat)) hS hi rfl rfl (fun _ => rfl) hw (fun _ => rfl) (fun _ => rfl) (fun _ => rfl) (fun _ => ⟨rfl, rfl, .inr rfl, ⟨rfl, rfl, .inr rfl, ⟨rfl, rfl, .inr rfl, ⟨rfl, rfl, .inr rfl, ⟨rfl, rfl, .inr rfl, ⟨rfl, rfl, .inr rfl, ⟨rfl, rfl, .inl rfl, ⟨rfl, rfl, .inr rfl, ⟨rfl, rfl, .inr rfl, ⟨rfl, rfl, .inr rfl, trivial⟩⟩⟩⟩⟩⟩⟩⟩⟩⟩) (fun _ => ⟨trivial, rfl, ⟨trivial, rfl, ⟨⟨rfl, .inl rfl, ⟨rfl, .inr rfl, ⟨rfl, .inr rfl, trivial⟩⟩⟩, rfl, trivial⟩⟩⟩) (step_post (s_appendm (i := 2) (lt_of rfl) sl_26 (ov_ev hS rfl) (og hS rfl rfl) (ov_ev hS rfl) (fun _ => rfl) h29 rfl) (by rintro _ ⟨w, rfl⟩; exact ⟨⟨0, w⟩, Ent.refl _⟩)),
      fun X25 S hw hi hS => x_pure (X := X25) rfl (hw X25) rfl (g_op rfl (s_move (v := .d (.sl 3 (old_2.map encApiSeat))) (lt_of rfl) (ov_ev hS rfl) rfl)),
      fun X25 S hw hi hS => x_pure (X := X25) rfl (hw X25) rfl (g_op rfl (s_move (v := .d (.lit (.int .i64 days_3))) (lt_of rfl) (ov_ev hS rfl) rfl)),
      fun X25 S hw hi hS => x_pure (X := X25) rfl (hw X25) rfl (g_op rfl (s_move (v := .d (.lit (.int .i64 best_4_16))) (lt_of rfl) (ov_ev hS rfl) rfl)), trivial⟩⟩
                    · exact fun X25 => ent_le (le_upd rfl (le_upd rfl (le_upd rfl (le_upd rfl (le_upd rfl (le_keep ⟨rfl, rfl, rfl, rfl, rfl, rfl, rfl, trivial⟩))))))
                  · intro X25
                    obtain ⟨r30, h31, h⟩ := bind_some h
                    refine tr1 rfl (s_call (lt_of rfl) (.func _ _ Try.call71) rfl rfl (.cons (.same _) (.cons (.d (dv_arr 2 rfl (map_len (f := encApiSeat) fun _ => rfl))) (.cons (.same _) (.cons (.same _) (.cons (.same _) .nil))))) (ih _ _ _ _ _ h31) rfl) ?_
                    refine tr1 rfl (s_assign (v := .d (.lit (.int .i64 r30))) (lt_of rfl) rfl rfl) ?_
                    refine tr_nilb ?_
                    refine tr_region ?_
                    refine tr1 rfl (s_move (v := .d (.lit (.int .i64 c_4_16))) (lt_of rfl) rfl rfl) ?_
                    refine tr1 rfl (s_arith (lt_of rfl) rfl rfl rfl) ?_
                    refine tr1 rfl (s_assign (v := .d (.lit (.int .i64 ((w64 (c_4_16 + 1)))))) (lt_of rfl) rfl rfl) ?_
                    refine tr_nil ?_
                    exact ⟨(r30, w64 (c_4_16 + 1)), h, ent_pick [0] rfl rfl (le_upd rfl (le_upd rfl (le_keep ⟨rfl, rfl, rfl, rfl, rfl, rfl, trivial⟩)))⟩
                · have h := cond_ff c24 h
                  refine tr_skipb ?_
                  refine tr_region ?_
                  refine tr1 rfl (s_move (v := .d (.lit (.int .i64 c_4_16))) (lt_of rfl) rfl rfl) ?_
                  refine tr1 rfl (s_arith (lt_of rfl) rfl rfl rfl) ?_
                  refine tr1 rfl (s_assign (v := .d (.lit (.int .i64 ((w64 (c_4_16 + 1)))))) (lt_of rfl) rfl rfl) ?_
                  refine tr_nil ?_
                  exact ⟨(best_4_16, w64 (c_4_16 + 1)), h, ent_pick [0] rfl rfl (le_upd rfl (le_upd rfl (le_keep ⟨rfl, rfl, rfl, rfl, rfl, rfl, trivial⟩)))⟩
              · have h := cond_ff c20 h
                refine tr_exit ?_
                refine .inl ⟨rfl, ?_⟩
                simp only [deuceref08_fewest_K4] at h
                simp only [deuceref08_fewest_K3] at h
                refine tr_region ?_
                refine tr1 rfl (s_move (v := .d (.lit (.int .i64 d_2_13))) (lt_of rfl) rfl rfl) ?_
                refine tr1 rfl (s_arith (lt_of rfl) rfl rfl rfl) ?_
                refine tr1 rfl (s_assign (v := .d (.lit (.int .i64 ((w64 (d_2_13 + 1)))))) (lt_of rfl) rfl rfl) ?_
                refine tr_nil ?_
                exact ⟨(best_4_16, w64 (d_2_13 + 1)), h, ent_pick [0] rfl rfl (le_upd rfl (le_upd rfl (le_keep ⟨rfl, rfl, rfl, rfl, rfl, trivial⟩)))⟩
            · have h := cond_ff c15 h
              refine tr_exit ?_
              refine .inl ⟨rfl, ?_⟩
              simp only [deuceref08_fewest_K2] at h
              simp only [deuceref08_fewest_K1] at h
              refine tr_region ?_
              refine tr1 rfl (s_move (v := .d (.lit (.int .i64 job_0_10))) (lt_of rfl) rfl rfl) ?_
              refine tr1 rfl (s_arith (lt_of rfl) rfl rfl rfl) ?_
              refine tr1 rfl (s_assign (v := .d (.lit (.int .i64 ((w64 (job_0_10 + 1)))))) (lt_of rfl) rfl rfl) ?_
              refine tr_nil ?_
              exact ⟨(best_2_13, w64 (job_0_10 + 1)), h, ent_pick [0] rfl rfl (le_upd rfl (le_upd rfl (le_keep ⟨rfl, rfl, rfl, rfl, trivial⟩)))⟩
          · have h := cond_ff c12 h
            refine tr_exit ?_
            refine .inl ⟨rfl, ?_⟩
            simp only [deuceref08_fewest_K0] at h
            refine tr_seq ?_
            refine tr_region ?_
            refine tr1 rfl (s_move (v := .d (.lit (.int .i64 best_0_10))) (lt_of rfl) rfl rfl) ?_
            refine tr1 rfl (s_assign (v := .d (.lit (.int .i64 best_0_10))) (lt_of rfl) rfl rfl) ?_
            refine tr_nil ?_
            have h := Option.some.inj h
            subst h
            refine tr_ent (ent_free (ble_keep (l := [10]) ⟨rfl, trivial⟩)) ?_
            exact tr_ret ⟨rfl, _, .one _, rfl, rfl⟩
theorem deuceref08_fewest_c (p_0 : ApiProgram) (first_1 : List ApiSeat) (old_2 : List ApiSeat) (days_3 : Int) (best_4 : Int) {r : Int} (h : deuceref08_fewest p_0 first_1 old_2 days_3 best_4 = some r) : Fn Try.prog 71 [.agg (encApiProgram p_0), .d (.sl 3 (first_1.map encApiSeat)), .d (.sl 3 (old_2.map encApiSeat)), .d (.lit (.int .i64 days_3)), .d (.lit (.int .i64 best_4))] (.d (.lit (.int .i64 r))) := deuceref08_fewest_rc BIG _ _ _ _ _ h

theorem deuceref08_can_c (p_0 : ApiProgram) (days_1 : Int) {r : Bool} (h : deuceref08_can p_0 days_1 = some r) : Fn Try.prog 92 [.agg (encApiProgram p_0), .d (.lit (.int .i64 days_1))] (.d (.lit (.bool r))) := by
  unfold deuceref08_can at h
  refine Fn.of_tr Try.func92 rfl (rs := [.tmp 4]) Try.results92 Try.ntmps92 (Nat.le_of_ble_eq_true rfl) ?_
  refine tr_seq ?_
  refine tr_region ?_
  refine tr_op rfl (s_box (v := .agg (encApiProgram p_0)) (lt_of rfl) rfl rfl rfl) ?_
  rintro _ ⟨b1, rfl⟩
  refine tr1 rfl (s_assign (v := .d (.lit (.bool false))) (lt_of rfl) rfl rfl) ?_
  refine tr_nil ?_
  refine tr_seq ?_
  refine tr_region ?_
  refine tr1 rfl (s_loada_bp (lt_of rfl) rfl (i := 0) rfl agg_25 (es := (encApiProgram p_0)) rfl rfl) ?_
  refine tr1 rfl (s_move (v := .d (.lit (.int .i64 days_1))) (lt_of rfl) rfl rfl) ?_
  obtain ⟨r2, h3, h⟩ := bind_some h
  refine tr1 rfl (s_call (lt_of rfl) (.func _ _ Try.call71) rfl rfl (.cons (.same _) (.cons (.d (.nil 3)) (.cons (.d (.nil 3)) (.cons (.same _) (.cons (.same _) .nil))))) (deuceref08_fewest_c _ _ _ _ _ h3) rfl) ?_
  refine tr1 rfl (s_cmp (lt_of rfl) rfl rfl rfl) ?_
  refine tr1 rfl (s_assign (v := .d (.lit (.bool ((decide (r2 = 0)))))) (lt_of rfl) rfl rfl) ?_
  refine tr_nil ?_
  have h := Option.some.inj h
  subst h
  refine tr_ent (ent_free (ble_keep (l := [4]) ⟨rfl, trivial⟩)) ?_
  exact tr_ret ⟨rfl, _, .one _, rfl, rfl⟩

theorem deuceref08_days_c (p_0 : ApiProgram) {r : Int} (h : deuceref08_days p_0 = some r) : Fn Try.prog 70 [.agg (encApiProgram p_0)] (.d (.lit (.int .i64 r))) := by
  unfold deuceref08_days at h
  refine Fn.of_tr Try.func70 rfl (rs := [.tmp 2]) Try.results70 Try.ntmps70 (Nat.le_of_ble_eq_true rfl) ?_
  refine tr_seq ?_
  refine tr_region ?_
  refine tr_op rfl (s_box (v := .agg (encApiProgram p_0)) (lt_of rfl) rfl rfl rfl) ?_
  rintro _ ⟨b1, rfl⟩
  refine tr1 rfl (s_assign (v := .d (.lit (.int .i64 0))) (lt_of rfl) rfl rfl) ?_
  refine tr_nil ?_
  refine tr_seq ?_
  refine tr_seq ?_
  refine tr_region ?_
  refine tr1 rfl (s_assign (v := .d (.lit (.int .i64 0))) (lt_of rfl) rfl rfl) ?_
  refine tr_nil ?_
  refine tr_blk ?_
  refine tr_loopk [1] (fun (s2 : Int) => [(3, .d (.lit (.int .i64 s2)))]) (fun (s2 : Int) => [.box b1 0 (encApiProgram p_0)]) (fun (k : Nat) (s2 : Int) => deuceref08_days_L0 p_0 k s2) (fun _ => rfl) (0) h (ent_pick [0] rfl rfl (le_upd rfl (le_keep ⟨rfl, trivial⟩))) ?_
  rintro k3 n_0_2 h
  simp only [deuceref08_days_L0] at h
  refine tr_seq ?_
  refine tr_seq ?_
  refine tr_region ?_
  refine tr1 rfl (s_move (v := .d (.lit (.int .i64 n_0_2))) (lt_of rfl) rfl rfl) ?_
  refine tr1 rfl (s_field_bp (lt_of rfl) rfl fld_25_0) ?_
  refine tr1 rfl (s_load_bp (lt_of rfl) rfl (i := 0) rfl rfl one_22) ?_
  refine tr1 rfl (s_lenm (lt_of rfl) rfl sl_22.of) ?_
  refine tr1 rfl (s_cmp (lt_of rfl) rfl rfl rfl) ?_
  refine tr_nil ?_
  refine tr_if rfl (fun c4 => ?_) (fun c4 => ?_)
  · have h := cond_tt c4 h
    refine tr_skip ?_
    refine tr_seq ?_
    refine tr_blk ?_
    refine tr_seq ?_
    refine tr_region ?_
    refine tr1 rfl (s_loada_bp (lt_of rfl) rfl (i := 0) rfl agg_25 (es := (encApiProgram p_0)) rfl rfl) ?_
    refine tr1 rfl (s_move (v := .d (.lit (.int .i64 n_0_2))) (lt_of rfl) rfl rfl) ?_
    obtain ⟨r5, h6, h⟩ := bind_some h
    refine tr1 rfl (s_call (lt_of rfl) (.func _ _ Try.call92) rfl rfl (BVs.refl _ _) (deuceref08_can_c _ _ h6) rfl) ?_
    refine tr_nil ?_
    refine tr_if rfl (fun c7 => ?_) (fun c7 => ?_)
    · have h := cond_tt c7 h
      refine tr_seq ?_
      refine tr_region ?_
      refine tr1 rfl (s_move (v := .d (.lit (.int .i64 n_0_2))) (lt_of rfl) rfl rfl) ?_
      refine tr1 rfl (s_assign (v := .d (.lit (.int .i64 n_0_2))) (lt_of rfl) rfl rfl) ?_
      refine tr_nil ?_
      have h := Option.some.inj h
      subst h
      refine tr_ent (ent_free (ble_keep (l := [2]) ⟨rfl, trivial⟩)) ?_
      exact tr_ret ⟨rfl, _, .one _, rfl, rfl⟩
    · have h := cond_ff c7 h
      refine tr_skipb ?_
      refine tr_region ?_
      refine tr1 rfl (s_move (v := .d (.lit (.int .i64 n_0_2))) (lt_of rfl) rfl rfl) ?_
      refine tr1 rfl (s_arith (lt_of rfl) rfl rfl rfl) ?_
      refine tr1 rfl (s_assign (v := .d (.lit (.int .i64 ((w64 (n_0_2 + 1)))))) (lt_of rfl) rfl rfl) ?_
      refine tr_nil ?_
      exact ⟨(w64 (n_0_2 + 1)), h, ent_pick [0] rfl rfl (le_upd rfl (le_keep ⟨rfl, trivial⟩))⟩
  · have h := cond_ff c4 h
    refine tr_exit ?_
    refine .inl ⟨rfl, ?_⟩
    simp only [deuceref08_days_K0] at h
    refine tr_seq ?_
    refine tr_region ?_
    refine tr1 rfl (s_assign (v := .d (.lit (.int .i64 (-1)))) (lt_of rfl) rfl rfl) ?_
    refine tr_nil ?_
    have h := Option.some.inj h
    subst h
    refine tr_ent (ent_free (ble_keep (l := [2]) ⟨rfl, trivial⟩)) ?_
    exact tr_ret ⟨rfl, _, .one _, rfl, rfl⟩

theorem deuceref08_Days_c (p_0 : ApiProgram) {r : Int × Int} (h : deuceref08_Days p_0 = some r) : Fn Try.prog 36 [.agg (encApiProgram p_0)] (.tup [.d (.lit (.int .i64 r.1)), .d (.lit (.int .i64 r.2))]) := by
  unfold deuceref08_Days at h
  refine Fn.of_tr Try.func36 rfl (rs := [.tmp 2, .tmp 3]) Try.results36 Try.ntmps36 (Nat.le_of_ble_eq_true rfl) ?_
  refine tr_seq ?_
  refine tr_region ?_
  refine tr_op rfl (s_box (v := .agg (encApiProgram p_0)) (lt_of rfl) rfl rfl rfl) ?_
  rintro _ ⟨b1, rfl⟩
  refine tr1 rfl (s_assign (v := .d (.lit (.int .i64 0))) (lt_of rfl) rfl rfl) ?_
  refine tr1 rfl (s_assign (v := .d (.lit (.int .i64 0))) (lt_of rfl) rfl rfl) ?_
  refine tr_nil ?_
  refine tr_seq ?_
  refine tr_seq ?_
  refine tr_region ?_
  refine tr1 rfl (s_loada_bp (lt_of rfl) rfl (i := 0) rfl agg_25 (es := (encApiProgram p_0)) rfl rfl) ?_
  obtain ⟨r2, h3, h⟩ := bind_some h
  refine tr1 rfl (s_call (lt_of rfl) (.func _ _ Try.call14) rfl rfl (BVs.refl _ _) (deuceref08_Check_c _ h3) rfl) ?_
  refine tr1 rfl (s_cmp (lt_of rfl) rfl rfl rfl) ?_
  refine tr_nil ?_
  refine tr_if rfl (fun c4 => ?_) (fun c4 => ?_)
  · have h := cond_tt c4 h
    refine tr_seq ?_
    refine tr_region ?_
    refine tr1 rfl (s_assign (v := .d (.lit (.int .i64 0))) (lt_of rfl) rfl rfl) ?_
    refine tr1 rfl (s_assign (v := .d (.lit (.int .i64 80))) (lt_of rfl) rfl rfl) ?_
    refine tr_nil ?_
    have h := Option.some.inj h
    subst h
    refine tr_ent (ent_free (ble_keep (l := [2, 3]) ⟨rfl, rfl, trivial⟩)) ?_
    exact tr_ret ⟨rfl, _, .two _ _, rfl, rfl⟩
  · have h := cond_ff c4 h
    refine tr_skip ?_
    refine tr_seq ?_
    refine tr_region ?_
    refine tr1 rfl (s_loada_bp (lt_of rfl) rfl (i := 0) rfl agg_25 (es := (encApiProgram p_0)) rfl rfl) ?_
    obtain ⟨r5, h6, h⟩ := bind_some h
    refine tr1 rfl (s_call (lt_of rfl) (.func _ _ Try.call70) rfl rfl (BVs.refl _ _) (deuceref08_days_c _ h6) rfl) ?_
    refine tr1 rfl (s_assign (v := .d (.lit (.int .i64 r5))) (lt_of rfl) rfl rfl) ?_
    refine tr_nil ?_
    refine tr_seq ?_
    refine tr_seq ?_
    refine tr_region ?_
    refine tr1 rfl (s_move (v := .d (.lit (.int .i64 r5))) (lt_of rfl) rfl rfl) ?_
    refine tr1 rfl (s_cmp (lt_of rfl) rfl rfl rfl) ?_
    refine tr_nil ?_
    refine tr_if rfl (fun c7 => ?_) (fun c7 => ?_)
    · have h := cond_tt c7 h
      refine tr_seq ?_
      refine tr_region ?_
      refine tr1 rfl (s_assign (v := .d (.lit (.int .i64 0))) (lt_of rfl) rfl rfl) ?_
      refine tr1 rfl (s_assign (v := .d (.lit (.int .i64 3))) (lt_of rfl) rfl rfl) ?_
      refine tr_nil ?_
      have h := Option.some.inj h
      subst h
      refine tr_ent (ent_free (ble_keep (l := [2, 3]) ⟨rfl, rfl, trivial⟩)) ?_
      exact tr_ret ⟨rfl, _, .two _ _, rfl, rfl⟩
    · have h := cond_ff c7 h
      refine tr_skip ?_
      refine tr_seq ?_
      refine tr_region ?_
      refine tr1 rfl (s_move (v := .d (.lit (.int .i64 r5))) (lt_of rfl) rfl rfl) ?_
      refine tr1 rfl (s_assign (v := .d (.lit (.int .i64 r5))) (lt_of rfl) rfl rfl) ?_
      refine tr1 rfl (s_assign (v := .d (.lit (.int .i64 0))) (lt_of rfl) rfl rfl) ?_
      refine tr_nil ?_
      have h := Option.some.inj h
      subst h
      refine tr_ent (ent_free (ble_keep (l := [2, 3]) ⟨rfl, rfl, trivial⟩)) ?_
      exact tr_ret ⟨rfl, _, .two _ _, rfl, rfl⟩

theorem deuceref08_Fewest_c (p_0 : ApiProgram) (old_1 : List ApiSeat) {r : Int × Int} (h : deuceref08_Fewest p_0 old_1 = some r) : Fn Try.prog 37 [.agg (encApiProgram p_0), .d (.sl 3 (old_1.map encApiSeat))] (.tup [.d (.lit (.int .i64 r.1)), .d (.lit (.int .i64 r.2))]) := by
  unfold deuceref08_Fewest at h
  refine Fn.of_tr Try.func37 rfl (rs := [.tmp 4, .tmp 5]) Try.results37 Try.ntmps37 (Nat.le_of_ble_eq_true rfl) ?_
  refine tr_seq ?_
  refine tr_region ?_
  refine tr_op rfl (s_box (v := .agg (encApiProgram p_0)) (lt_of rfl) rfl rfl rfl) ?_
  rintro _ ⟨b1, rfl⟩
  refine tr1 rfl (s_assign (v := .d (.lit (.int .i64 0))) (lt_of rfl) rfl rfl) ?_
  refine tr1 rfl (s_assign (v := .d (.lit (.int .i64 0))) (lt_of rfl) rfl rfl) ?_
  refine tr_nil ?_
  refine tr_seq ?_
  refine tr_seq ?_
  refine tr_region ?_
  refine tr1 rfl (s_loada_bp (lt_of rfl) rfl (i := 0) rfl agg_25 (es := (encApiProgram p_0)) rfl rfl) ?_
  obtain ⟨r2, h3, h⟩ := bind_some h
  refine tr1 rfl (s_call (lt_of rfl) (.func _ _ Try.call14) rfl rfl (BVs.refl _ _) (deuceref08_Check_c _ h3) rfl) ?_
  refine tr1 rfl (s_cmp (lt_of rfl) rfl rfl rfl) ?_
  refine tr_nil ?_
  refine tr_if rfl (fun c4 => ?_) (fun c4 => ?_)
  · have h := cond_tt c4 h
    refine tr_seq ?_
    refine tr_region ?_
    refine tr1 rfl (s_assign (v := .d (.lit (.int .i64 0))) (lt_of rfl) rfl rfl) ?_
    refine tr1 rfl (s_assign (v := .d (.lit (.int .i64 80))) (lt_of rfl) rfl rfl) ?_
    refine tr_nil ?_
    have h := Option.some.inj h
    subst h
    refine tr_ent (ent_free (ble_keep (l := [4, 5]) ⟨rfl, rfl, trivial⟩)) ?_
    exact tr_ret ⟨rfl, _, .two _ _, rfl, rfl⟩
  · have h := cond_ff c4 h
    refine tr_skip ?_
    refine tr_seq ?_
    refine tr_seq ?_
    refine tr_region ?_
    refine tr1 rfl (s_loada_bp (lt_of rfl) rfl (i := 0) rfl agg_25 (es := (encApiProgram p_0)) rfl rfl) ?_
    refine tr1 rfl (s_move (v := .d (.sl 3 (old_1.map encApiSeat))) (lt_of rfl) rfl rfl) ?_
    obtain ⟨r5, h6, h⟩ := bind_some h
    refine tr1 rfl (s_call (lt_of rfl) (.func _ _ Try.call31) rfl rfl (BVs.refl _ _) (deuceref08_IsOld_c _ _ h6) rfl) ?_
    refine tr1 rfl (s_not (lt_of rfl) rfl) ?_
    refine tr_nil ?_
    refine tr_if rfl (fun c7 => ?_) (fun c7 => ?_)
    · have h := cond_tt c7 h
      refine tr_seq ?_
      refine tr_region ?_
      refine tr1 rfl (s_assign (v := .d (.lit (.int .i64 0))) (lt_of rfl) rfl rfl) ?_
      refine tr1 rfl (s_assign (v := .d (.lit (.int .i64 81))) (lt_of rfl) rfl rfl) ?_
      refine tr_nil ?_
      have h := Option.some.inj h
      subst h
      refine tr_ent (ent_free (ble_keep (l := [4, 5]) ⟨rfl, rfl, trivial⟩)) ?_
      exact tr_ret ⟨rfl, _, .two _ _, rfl, rfl⟩
    · have h := cond_ff c7 h
      refine tr_skip ?_
      refine tr_seq ?_
      refine tr_region ?_
      refine tr1 rfl (s_loada_bp (lt_of rfl) rfl (i := 0) rfl agg_25 (es := (encApiProgram p_0)) rfl rfl) ?_
      refine tr1 rfl (s_move (v := .d (.sl 3 (old_1.map encApiSeat))) (lt_of rfl) rfl rfl) ?_
      refine tr1 rfl (s_field_bp (lt_of rfl) rfl fld_25_0) ?_
      refine tr1 rfl (s_load_bp (lt_of rfl) rfl (i := 0) rfl rfl one_22) ?_
      refine tr1 rfl (s_lenm (lt_of rfl) rfl sl_22.of) ?_
      refine tr1 rfl (s_field_bp (lt_of rfl) rfl fld_25_2) ?_
      refine tr1 rfl (s_load_bp (lt_of rfl) rfl (i := 0) rfl rfl one_23) ?_
      refine tr1 rfl (s_lenm (lt_of rfl) rfl sl_23.of) ?_
      refine tr1 rfl (s_arith (lt_of rfl) rfl rfl rfl) ?_
      obtain ⟨r8, h9, h⟩ := bind_some h
      refine tr1 rfl (s_call (lt_of rfl) (.func _ _ Try.call71) rfl rfl (.cons (.same _) (.cons (.d (.nil 3)) (.cons (.same _) (.cons (.same _) (.cons (.same _) .nil))))) (deuceref08_fewest_c _ _ _ _ _ h9) rfl) ?_
      refine tr1 rfl (s_assign (v := .d (.lit (.int .i64 r8))) (lt_of rfl) rfl rfl) ?_
      refine tr_nil ?_
      refine tr_seq ?_
      refine tr_seq ?_
      refine tr_region ?_
      refine tr1 rfl (s_move (v := .d (.lit (.int .i64 r8))) (lt_of rfl) rfl rfl) ?_
      refine tr1 rfl (s_field_bp (lt_of rfl) rfl fld_25_2) ?_
      refine tr1 rfl (s_load_bp (lt_of rfl) rfl (i := 0) rfl rfl one_23) ?_
      refine tr1 rfl (s_lenm (lt_of rfl) rfl sl_23.of) ?_
      refine tr1 rfl (s_cmp (lt_of rfl) rfl rfl rfl) ?_
      refine tr_nil ?_
      refine tr_if rfl (fun c10 => ?_) (fun c10 => ?_)
      · have h := cond_tt c10 h
        refine tr_seq ?_
        refine tr_region ?_
        refine tr1 rfl (s_assign (v := .d (.lit (.int .i64 0))) (lt_of rfl) rfl rfl) ?_
        refine tr1 rfl (s_assign (v := .d (.lit (.int .i64 3))) (lt_of rfl) rfl rfl) ?_
        refine tr_nil ?_
        have h := Option.some.inj h
        subst h
        refine tr_ent (ent_free (ble_keep (l := [4, 5]) ⟨rfl, rfl, trivial⟩)) ?_
        exact tr_ret ⟨rfl, _, .two _ _, rfl, rfl⟩
      · have h := cond_ff c10 h
        refine tr_skip ?_
        refine tr_seq ?_
        refine tr_region ?_
        refine tr1 rfl (s_move (v := .d (.lit (.int .i64 r8))) (lt_of rfl) rfl rfl) ?_
        refine tr1 rfl (s_assign (v := .d (.lit (.int .i64 r8))) (lt_of rfl) rfl rfl) ?_
        refine tr1 rfl (s_assign (v := .d (.lit (.int .i64 0))) (lt_of rfl) rfl rfl) ?_
        refine tr_nil ?_
        have h := Option.some.inj h
        subst h
        refine tr_ent (ent_free (ble_keep (l := [4, 5]) ⟨rfl, rfl, trivial⟩)) ?_
        exact tr_ret ⟨rfl, _, .two _ _, rfl, rfl⟩

theorem deucelaw08_fits_c (p_0 : ApiProgram) (order_1 : List ApiSeat) (days_2 : Int) {r : Bool} (h : deucelaw08_fits p_0 order_1 days_2 = some r) : Fn Try.prog 38 [.agg (encApiProgram p_0), .d (.sl 3 (order_1.map encApiSeat)), .d (.lit (.int .i64 days_2))] (.d (.lit (.bool r))) := by
  unfold deucelaw08_fits at h
  refine Fn.of_tr Try.func38 rfl (rs := [.tmp 6]) Try.results38 Try.ntmps38 (Nat.le_of_ble_eq_true rfl) ?_
  refine tr_seq ?_
  refine tr_region ?_
  refine tr_op rfl (s_box (v := .agg (encApiProgram p_0)) (lt_of rfl) rfl rfl rfl) ?_
  rintro _ ⟨b1, rfl⟩
  refine tr1 rfl (s_assign (v := .d (.lit (.bool false))) (lt_of rfl) rfl rfl) ?_
  refine tr_nil ?_
  refine tr_seq ?_
  refine tr_region ?_
  refine tr1 rfl (s_loada_bp (lt_of rfl) rfl (i := 0) rfl agg_25 (es := (encApiProgram p_0)) rfl rfl) ?_
  refine tr1 rfl (s_move (v := .d (.sl 3 (order_1.map encApiSeat))) (lt_of rfl) rfl rfl) ?_
  obtain ⟨r2, h3, h⟩ := bind_some h
  refine tr1 rfl (s_call (lt_of rfl) (.func _ _ Try.call27) rfl rfl (BVs.refl _ _) (deuceref08_Fits_c _ _ h3) rfl) ?_
  refine tr1 rfl (s_move (v := .tup [.d (.lit (.bool r2.1)), .d (.lit (.int .i64 r2.2.1)), .d (.lit (.int .i64 r2.2.2))]) (lt_of rfl) rfl rfl) ?_
  refine tr1 rfl (s_extract (lt_of rfl) rfl rfl) ?_
  refine tr1 rfl (s_extract (lt_of rfl) rfl rfl) ?_
  refine tr1 rfl (s_extract (lt_of rfl) rfl rfl) ?_
  refine tr1 rfl (s_assign (v := .d (.lit (.bool r2.1))) (lt_of rfl) rfl rfl) ?_
  refine tr1 rfl (s_assign (v := .d (.lit (.int .i64 r2.2.1))) (lt_of rfl) rfl rfl) ?_
  refine tr1 rfl (s_assign (v := .d (.lit (.int .i64 r2.2.2))) (lt_of rfl) rfl rfl) ?_
  refine tr_nil ?_
  refine tr_seq ?_
  refine tr_seq ?_
  refine tr_region ?_
  refine tr1 rfl (s_assign (v := .d (.lit (.int .i64 0))) (lt_of rfl) rfl rfl) ?_
  refine tr_nil ?_
  refine tr_blk ?_
  refine tr_loopk [1, 2, 7, 9] (fun (s4 : Int) => [(10, .d (.lit (.int .i64 s4)))]) (fun (s4 : Int) => []) (fun (k : Nat) (s4 : Int) => deucelaw08_fits_L0 order_1 days_2 r2.1 r2.2.2 k s4) (fun _ => rfl) (0) h (ent_pick [] rfl rfl (le_upd rfl (le_keep ⟨rfl, rfl, rfl, rfl, trivial⟩))) ?_
  rintro k5 i_0_4 h
  simp only [deucelaw08_fits_L0] at h
  refine tr_seq ?_
  refine tr_seq ?_
  refine tr_region ?_
  refine tr1 rfl (s_move (v := .d (.lit (.int .i64 i_0_4))) (lt_of rfl) rfl rfl) ?_
  refine tr1 rfl (s_move (v := .d (.sl 3 (order_1.map encApiSeat))) (lt_of rfl) rfl rfl) ?_
  refine tr1 rfl (s_lenm (lt_of rfl) rfl sl_26.of) ?_
  refine tr1 rfl (s_cmp (lt_of rfl) rfl rfl rfl) ?_
  refine tr_nil ?_
  refine tr_if rfl (fun c6 => ?_) (fun c6 => ?_)
  · have h := cond_tt c6 h
    refine tr_skip ?_
    refine tr_seq ?_
    refine tr_blk ?_
    refine tr_seq ?_
    refine tr_region ?_
    refine tr1 rfl (s_move (v := .d (.sl 3 (order_1.map encApiSeat))) (lt_of rfl) rfl rfl) ?_
    refine tr1 rfl (s_move (v := .d (.lit (.int .i64 i_0_4))) (lt_of rfl) rfl rfl) ?_
    obtain ⟨x7, h8, h⟩ := bind_some h
    refine tr1 rfl (s_index_sl (lt_of rfl) rfl rfl sl_26.of (idx_map encApiSeat h8)) ?_
    refine tr1 rfl (s_field_cp (lt_of rfl) rfl fld_45_1 (es := [.lit (.int .i64 x7.Day)]) rfl) ?_
    refine tr1 rfl (s_load_cp (lt_of rfl) rfl one_3) ?_
    refine tr1 rfl (s_move (v := .d (.lit (.int .i64 days_2))) (lt_of rfl) rfl rfl) ?_
    refine tr1 rfl (s_cmp (lt_of rfl) rfl rfl rfl) ?_
    refine tr_nil ?_
    refine tr_if rfl (fun c9 => ?_) (fun c9 => ?_)
    · have h := cond_tt c9 h
      refine tr_seq ?_
      refine tr_region ?_
      refine tr1 rfl (s_assign (v := .d (.lit (.bool false))) (lt_of rfl) rfl rfl) ?_
      refine tr_nil ?_
      have h := Option.some.inj h
      subst h
      exact tr_ret ⟨rfl, _, .one _, rfl, rfl⟩
    · have h := cond_ff c9 h
      refine tr_skipb ?_
      refine tr_region ?_
      refine tr1 rfl (s_move (v := .d (.lit (.int .i64 i_0_4))) (lt_of rfl) rfl rfl) ?_
      refine tr1 rfl (s_arith (lt_of rfl) rfl rfl rfl) ?_
      refine tr1 rfl (s_assign (v := .d (.lit (.int .i64 ((w64 (i_0_4 + 1)))))) (lt_of rfl) rfl rfl) ?_
      refine tr_nil ?_
      exact ⟨(w64 (i_0_4 + 1)), h, ent_pick [] rfl rfl (le_upd rfl (le_keep ⟨rfl, rfl, rfl, rfl, trivial⟩))⟩
  · have h := cond_ff c6 h
    refine tr_exit ?_
    refine .inl ⟨rfl, ?_⟩
    simp only [deucelaw08_fits_K0] at h
    refine tr_seq ?_
    refine tr_region ?_
    refine tr1 rfl (s_move (v := .d (.lit (.int .i64 r2.2.2))) (lt_of rfl) rfl rfl) ?_
    refine tr1 rfl (s_cmp (lt_of rfl) rfl rfl rfl) ?_
    refine tr1 rfl (s_move (v := .d (.lit (.bool ((decide (r2.2.2 = 0)))))) (lt_of rfl) rfl rfl) ?_
    obtain ⟨b10, h11, h⟩ := bind_some h
    refine tr_guard 2 [] 35 b10 ?_ ?_
    · refine bool_cases (decide (r2.2.2 = 0)) (fun c12 => ?_) (fun c12 => ?_)
      · have h11 := cond_tt c12 h11
        refine tr_take1 rfl rfl (lt_of rfl) rfl c12 (s_move (v := .d (.lit (.bool r2.1))) (lt_of rfl) rfl rfl) ?_
        refine tr1 rfl (s_pick_t (v := .d (.lit (.bool r2.1))) (lt_of rfl) rfl c12 rfl rfl) ?_
        have h11 := Option.some.inj h11
        subst h11
        refine tr_nil (ent_keep rfl trivial rfl)
      · have h11 := cond_ff c12 h11
        refine tr_pass rfl rfl (lt_of rfl) rfl (lt_of rfl) rfl c12 ?_
        refine tr1 rfl (s_pick_f (v := .d (.lit (.bool false))) (lt_of rfl) rfl c12 rfl rfl) ?_
        have h11 := Option.some.inj h11
        subst h11
        refine tr_nil (ent_keep rfl trivial rfl)
    · refine tr1 rfl (s_assign (v := .d (.lit (.bool b10))) (lt_of rfl) rfl rfl) ?_
      refine tr_nil ?_
      have h := Option.some.inj h
      subst h
      exact tr_ret ⟨rfl, _, .one _, rfl, rfl⟩

theorem deucelaw08_PlayBest_c (p_0 : ApiProgram) (old_1 : List ApiSeat) {r : Bool} (h : deucelaw08_PlayBest p_0 old_1 = some r) : Fn Try.prog 8 [.agg (encApiProgram p_0), .d (.sl 3 (old_1.map encApiSeat))] (.d (.lit (.bool r))) := by
  unfold deucelaw08_PlayBest at h
  refine Fn.of_tr Try.func8 rfl (rs := [.tmp 4]) Try.results8 Try.ntmps8 (Nat.le_of_ble_eq_true rfl) ?_
  refine tr_seq ?_
  refine tr_region ?_
  refine tr_op rfl (s_box (v := .agg (encApiProgram p_0)) (lt_of rfl) rfl rfl rfl) ?_
  rintro _ ⟨b1, rfl⟩
  refine tr1 rfl (s_assign (v := .d (.lit (.bool false))) (lt_of rfl) rfl rfl) ?_
  refine tr_nil ?_
  refine tr_seq ?_
  refine tr_seq ?_
  refine tr_region ?_
  refine tr1 rfl (s_loada_bp (lt_of rfl) rfl (i := 0) rfl agg_25 (es := (encApiProgram p_0)) rfl rfl) ?_
  obtain ⟨r2, h3, h⟩ := bind_some h
  refine tr1 rfl (s_call (lt_of rfl) (.func _ _ Try.call35) rfl rfl (BVs.refl _ _) (deucelaw08_Far_c _ h3) rfl) ?_
  refine tr1 rfl (s_move (v := .d (.lit (.bool r2))) (lt_of rfl) rfl rfl) ?_
  obtain ⟨b4, h5, h⟩ := bind_some h
  refine tr_guard 4 [1, 2] 19 b4 ?_ ?_
  · refine bool_cases (r2) (fun c66 => ?_) (fun c66 => ?_)
    · have h5 := cond_tt c66 h5
      refine tr_pass rfl rfl (lt_of rfl) rfl (lt_of rfl) rfl c66 ?_
      refine tr_pass rfl rfl (lt_of rfl) rfl (lt_of rfl) rfl c66 ?_
      refine tr_pass rfl rfl (lt_of rfl) rfl (lt_of rfl) rfl c66 ?_
      refine tr1 rfl (s_pick_t (v := .d (.lit (.bool true))) (lt_of rfl) rfl c66 rfl rfl) ?_
      have h5 := Option.some.inj h5
      subst h5
      refine tr_nil (ent_keep rfl ⟨rfl, rfl, trivial⟩ rfl)
    · have h5 := cond_ff c66 h5
      refine tr_take1 rfl rfl (lt_of rfl) rfl c66 (s_move (v := .d (.sl 3 (old_1.map encApiSeat))) (lt_of rfl) rfl rfl) ?_
      refine tr_take1 rfl rfl (lt_of rfl) rfl c66 (s_lenm (lt_of rfl) rfl sl_26.of) ?_
      refine tr_take1 rfl rfl (lt_of rfl) rfl c66 (s_cmp (lt_of rfl) rfl rfl rfl) ?_
      refine tr1 rfl (s_pick_f (v := .d (.lit (.bool ((decide (20 < (old_1.length : Int))))))) (lt_of rfl) rfl c66 rfl rfl) ?_
      have h5 := Option.some.inj h5
      subst h5
      refine tr_nil (ent_keep rfl ⟨rfl, rfl, trivial⟩ rfl)
  · refine tr_nil ?_
    refine tr_if rfl (fun c6 => ?_) (fun c6 => ?_)
    · have h := cond_tt c6 h
      refine tr_seq ?_
      refine tr_region ?_
      obtain ⟨r7, h8, h⟩ := bind_some h
      refine tr1 rfl (s_call (lt_of rfl) (.func _ _ Try.call16) rfl rfl (BVs.refl _ _) (deucelaw08_works_c h8) rfl) ?_
      refine tr1 rfl (s_assign (v := .d (.lit (.bool r7))) (lt_of rfl) rfl rfl) ?_
      refine tr_nil ?_
      have h := Option.some.inj h
      subst h
      refine tr_ent (ent_free (ble_keep (l := [4]) ⟨rfl, trivial⟩)) ?_
      exact tr_ret ⟨rfl, _, .one _, rfl, rfl⟩
    · have h := cond_ff c6 h
      refine tr_skip ?_
      refine tr_seq ?_
      refine tr_region ?_
      refine tr1 rfl (s_loada_bp (lt_of rfl) rfl (i := 0) rfl agg_25 (es := (encApiProgram p_0)) rfl rfl) ?_
      obtain ⟨r9, h10, h⟩ := bind_some h
      refine tr1 rfl (s_callf (lt_of rfl) (.func _ _ Try.call22) rfl rfl (deuceref08_Copy_c _ h10)) ?_
      obtain ⟨r11, h12, h⟩ := bind_some h
      refine tr1 rfl (s_callf (lt_of rfl) (.func _ _ Try.call30) rfl rfl (play_Best_c _ h12)) ?_
      refine tr1 rfl (s_move (v := .tup [.d (.sl 3 (r11.1.map encApiSeat)), .d (.lit (.int .i64 r11.2))]) (lt_of rfl) rfl rfl) ?_
      refine tr1 rfl (s_extract (lt_of rfl) rfl rfl) ?_
      refine tr1 rfl (s_extract (lt_of rfl) rfl rfl) ?_
      refine tr1 rfl (s_assign (v := .d (.sl 3 (r11.1.map encApiSeat))) (lt_of rfl) rfl rfl) ?_
      refine tr1 rfl (s_assign (v := .d (.lit (.int .i64 r11.2))) (lt_of rfl) rfl rfl) ?_
      refine tr_nil ?_
      refine tr_seq ?_
      refine tr_region ?_
      refine tr1 rfl (s_loada_bp (lt_of rfl) rfl (i := 0) rfl agg_25 (es := (encApiProgram p_0)) rfl rfl) ?_
      obtain ⟨r13, h14, h⟩ := bind_some h
      refine tr1 rfl (s_call (lt_of rfl) (.func _ _ Try.call36) rfl rfl (BVs.refl _ _) (deuceref08_Days_c _ h14) rfl) ?_
      refine tr1 rfl (s_move (v := .tup [.d (.lit (.int .i64 r13.1)), .d (.lit (.int .i64 r13.2))]) (lt_of rfl) rfl rfl) ?_
      refine tr1 rfl (s_extract (lt_of rfl) rfl rfl) ?_
      refine tr1 rfl (s_extract (lt_of rfl) rfl rfl) ?_
      refine tr1 rfl (s_assign (v := .d (.lit (.int .i64 r13.1))) (lt_of rfl) rfl rfl) ?_
      refine tr1 rfl (s_assign (v := .d (.lit (.int .i64 r13.2))) (lt_of rfl) rfl rfl) ?_
      refine tr_nil ?_
      refine tr_seq ?_
      refine tr_region ?_
      refine tr1 rfl (s_loada_bp (lt_of rfl) rfl (i := 0) rfl agg_25 (es := (encApiProgram p_0)) rfl rfl) ?_
      obtain ⟨r15, h16, h⟩ := bind_some h
      refine tr1 rfl (s_callf (lt_of rfl) (.func _ _ Try.call22) rfl rfl (deuceref08_Copy_c _ h16)) ?_
      refine tr1 rfl (s_move (v := .d (.sl 3 (old_1.map encApiSeat))) (lt_of rfl) rfl rfl) ?_
      obtain ⟨r17, h18, h⟩ := bind_some h
      refine tr1 rfl (s_callf (lt_of rfl) (.func _ _ Try.call24) rfl rfl (deucelaw08_copied_c _ h18)) ?_
      obtain ⟨r19, h20, h⟩ := bind_some h
      refine tr1 rfl (s_callf (lt_of rfl) (.func _ _ Try.call33) rfl rfl (play_Repair_c _ _ h20)) ?_
      refine tr1 rfl (s_move (v := .tup [.d (.sl 3 (r19.1.map encApiSeat)), .d (.lit (.int .i64 r19.2))]) (lt_of rfl) rfl rfl) ?_
      refine tr1 rfl (s_extract (lt_of rfl) rfl rfl) ?_
      refine tr1 rfl (s_extract (lt_of rfl) rfl rfl) ?_
      refine tr1 rfl (s_assign (v := .d (.sl 3 (r19.1.map encApiSeat))) (lt_of rfl) rfl rfl) ?_
      refine tr1 rfl (s_assign (v := .d (.lit (.int .i64 r19.2))) (lt_of rfl) rfl rfl) ?_
      refine tr_nil ?_
      refine tr_seq ?_
      refine tr_region ?_
      refine tr1 rfl (s_loada_bp (lt_of rfl) rfl (i := 0) rfl agg_25 (es := (encApiProgram p_0)) rfl rfl) ?_
      refine tr1 rfl (s_move (v := .d (.sl 3 (old_1.map encApiSeat))) (lt_of rfl) rfl rfl) ?_
      obtain ⟨r21, h22, h⟩ := bind_some h
      refine tr1 rfl (s_call (lt_of rfl) (.func _ _ Try.call37) rfl rfl (BVs.refl _ _) (deuceref08_Fewest_c _ _ h22) rfl) ?_
      refine tr1 rfl (s_move (v := .tup [.d (.lit (.int .i64 r21.1)), .d (.lit (.int .i64 r21.2))]) (lt_of rfl) rfl rfl) ?_
      refine tr1 rfl (s_extract (lt_of rfl) rfl rfl) ?_
      refine tr1 rfl (s_extract (lt_of rfl) rfl rfl) ?_
      refine tr1 rfl (s_assign (v := .d (.lit (.int .i64 r21.1))) (lt_of rfl) rfl rfl) ?_
      refine tr1 rfl (s_assign (v := .d (.lit (.int .i64 r21.2))) (lt_of rfl) rfl rfl) ?_
      refine tr_nil ?_
      refine tr_seq ?_
      refine tr_seq ?_
      refine tr_region ?_
      refine tr1 rfl (s_move (v := .d (.lit (.int .i64 r11.2))) (lt_of rfl) rfl rfl) ?_
      refine tr1 rfl (s_move (v := .d (.lit (.int .i64 r13.2))) (lt_of rfl) rfl rfl) ?_
      refine tr1 rfl (s_cmp (lt_of rfl) rfl rfl rfl) ?_
      refine tr1 rfl (s_move (v := .d (.lit (.bool ((!decide (r11.2 = r13.2)))))) (lt_of rfl) rfl rfl) ?_
      obtain ⟨b23, h24, h⟩ := bind_some h
      refine tr_guard 4 [1, 2, 5, 6, 7, 9, 10, 11] 53 b23 ?_ ?_
      · refine bool_cases (!decide (r11.2 = r13.2)) (fun c65 => ?_) (fun c65 => ?_)
        · have h24 := cond_tt c65 h24
          refine tr_pass rfl rfl (lt_of rfl) rfl (lt_of rfl) rfl c65 ?_
          refine tr_pass rfl rfl (lt_of rfl) rfl (lt_of rfl) rfl c65 ?_
          refine tr_pass rfl rfl (lt_of rfl) rfl (lt_of rfl) rfl c65 ?_
          refine tr1 rfl (s_pick_t (v := .d (.lit (.bool true))) (lt_of rfl) rfl c65 rfl rfl) ?_
          have h24 := Option.some.inj h24
          subst h24
          refine tr_nil (ent_keep rfl ⟨rfl, rfl, rfl, rfl, rfl, rfl, rfl, rfl, trivial⟩ rfl)
        · have h24 := cond_ff c65 h24
          refine tr_take1 rfl rfl (lt_of rfl) rfl c65 (s_move (v := .d (.lit (.int .i64 r19.2))) (lt_of rfl) rfl rfl) ?_
          refine tr_take1 rfl rfl (lt_of rfl) rfl c65 (s_move (v := .d (.lit (.int .i64 r21.2))) (lt_of rfl) rfl rfl) ?_
          refine tr_take1 rfl rfl (lt_of rfl) rfl c65 (s_cmp (lt_of rfl) rfl rfl rfl) ?_
          refine tr1 rfl (s_pick_f (v := .d (.lit (.bool ((!decide (r19.2 = r21.2)))))) (lt_of rfl) rfl c65 rfl rfl) ?_
          have h24 := Option.some.inj h24
          subst h24
          refine tr_nil (ent_keep rfl ⟨rfl, rfl, rfl, rfl, rfl, rfl, rfl, rfl, trivial⟩ rfl)
      · refine tr1 rfl (s_move (v := .d (.lit (.bool b23))) (lt_of rfl) rfl rfl) ?_
        obtain ⟨b25, h26, h⟩ := bind_some h
        refine tr_guard 4 [1, 2, 5, 6, 7, 9, 10, 11] 58 b25 ?_ ?_
        · refine bool_cases (b23) (fun c64 => ?_) (fun c64 => ?_)
          · have h26 := cond_tt c64 h26
            refine tr_pass rfl rfl (lt_of rfl) rfl (lt_of rfl) rfl c64 ?_
            refine tr_pass rfl rfl (lt_of rfl) rfl (lt_of rfl) rfl c64 ?_
            refine tr_pass rfl rfl (lt_of rfl) rfl (lt_of rfl) rfl c64 ?_
            refine tr1 rfl (s_pick_t (v := .d (.lit (.bool true))) (lt_of rfl) rfl c64 rfl rfl) ?_
            have h26 := Option.some.inj h26
            subst h26
            refine tr_nil (ent_keep rfl ⟨rfl, rfl, rfl, rfl, rfl, rfl, rfl, rfl, trivial⟩ rfl)
          · have h26 := cond_ff c64 h26
            refine tr_take1 rfl rfl (lt_of rfl) rfl c64 (s_move (v := .d (.sl 3 (r11.1.map encApiSeat))) (lt_of rfl) rfl rfl) ?_
            refine tr_take1 rfl rfl (lt_of rfl) rfl c64 (s_lenm (lt_of rfl) rfl sl_26.of) ?_
            refine tr_take1 rfl rfl (lt_of rfl) rfl c64 (s_cmp (lt_of rfl) rfl rfl rfl) ?_
            refine tr1 rfl (s_pick_f (v := .d (.lit (.bool ((decide (20 < (r11.1.length : Int))))))) (lt_of rfl) rfl c64 rfl rfl) ?_
            have h26 := Option.some.inj h26
            subst h26
            refine tr_nil (ent_keep rfl ⟨rfl, rfl, rfl, rfl, rfl, rfl, rfl, rfl, trivial⟩ rfl)
        · refine tr1 rfl (s_move (v := .d (.lit (.bool b25))) (lt_of rfl) rfl rfl) ?_
          obtain ⟨b27, h28, h⟩ := bind_some h
          refine tr_guard 4 [1, 2, 5, 6, 7, 9, 10, 11] 63 b27 ?_ ?_
          · refine bool_cases (b25) (fun c63 => ?_) (fun c63 => ?_)
            · have h28 := cond_tt c63 h28
              refine tr_pass rfl rfl (lt_of rfl) rfl (lt_of rfl) rfl c63 ?_
              refine tr_pass rfl rfl (lt_of rfl) rfl (lt_of rfl) rfl c63 ?_
              refine tr_pass rfl rfl (lt_of rfl) rfl (lt_of rfl) rfl c63 ?_
              refine tr1 rfl (s_pick_t (v := .d (.lit (.bool true))) (lt_of rfl) rfl c63 rfl rfl) ?_
              have h28 := Option.some.inj h28
              subst h28
              refine tr_nil (ent_keep rfl ⟨rfl, rfl, rfl, rfl, rfl, rfl, rfl, rfl, trivial⟩ rfl)
            · have h28 := cond_ff c63 h28
              refine tr_take1 rfl rfl (lt_of rfl) rfl c63 (s_move (v := .d (.sl 3 (r19.1.map encApiSeat))) (lt_of rfl) rfl rfl) ?_
              refine tr_take1 rfl rfl (lt_of rfl) rfl c63 (s_lenm (lt_of rfl) rfl sl_26.of) ?_
              refine tr_take1 rfl rfl (lt_of rfl) rfl c63 (s_cmp (lt_of rfl) rfl rfl rfl) ?_
              refine tr1 rfl (s_pick_f (v := .d (.lit (.bool ((decide (20 < (r19.1.length : Int))))))) (lt_of rfl) rfl c63 rfl rfl) ?_
              have h28 := Option.some.inj h28
              subst h28
              refine tr_nil (ent_keep rfl ⟨rfl, rfl, rfl, rfl, rfl, rfl, rfl, rfl, trivial⟩ rfl)
          · refine tr1 rfl (s_move (v := .d (.lit (.bool b27))) (lt_of rfl) rfl rfl) ?_
            obtain ⟨b29, h30, h⟩ := bind_some h
            refine tr_guard 8 [1, 2, 5, 6, 7, 9, 10, 11] 72 b29 ?_ ?_
            · refine bool_cases (b27) (fun c59 => ?_) (fun c59 => ?_)
              · have h30 := cond_tt c59 h30
                refine tr_pass rfl rfl (lt_of rfl) rfl (lt_of rfl) rfl c59 ?_
                refine tr_pass rfl rfl (lt_of rfl) rfl (lt_of rfl) rfl c59 ?_
                refine tr_pass rfl rfl (lt_of rfl) rfl (lt_of rfl) rfl c59 ?_
                refine tr_pass' rfl rfl (lt_of rfl) rfl (lt_of rfl) rfl ?_
                refine tr_pass' rfl rfl (lt_of rfl) rfl (lt_of rfl) rfl ?_
                refine tr_pass' rfl rfl (lt_of rfl) rfl (lt_of rfl) rfl ?_
                refine tr_pass rfl rfl (lt_of rfl) rfl (lt_of rfl) rfl c59 ?_
                refine tr1 rfl (s_pick_t (v := .d (.lit (.bool true))) (lt_of rfl) rfl c59 rfl rfl) ?_
                have h30 := Option.some.inj h30
                subst h30
                refine tr_nil (ent_keep rfl ⟨rfl, rfl, rfl, rfl, rfl, rfl, rfl, rfl, trivial⟩ rfl)
              · have h30 := cond_ff c59 h30
                refine tr_take1 rfl rfl (lt_of rfl) rfl c59 (s_move (v := .d (.lit (.int .i64 r11.2))) (lt_of rfl) rfl rfl) ?_
                refine tr_take1 rfl rfl (lt_of rfl) rfl c59 (s_cmp (lt_of rfl) rfl rfl rfl) ?_
                refine tr_take1 rfl rfl (lt_of rfl) rfl c59 (s_move (v := .d (.lit (.bool ((!decide (r11.2 = 0)))))) (lt_of rfl) rfl rfl) ?_
                obtain ⟨b60, h61, h30⟩ := bind_some h30
                refine tr_guard 4 [1, 2, 5, 6, 7, 9, 10, 11, 64] 71 b60 ?_ ?_
                · refine bool_cases (!decide (r11.2 = 0)) (fun c62 => ?_) (fun c62 => ?_)
                  · have h61 := cond_tt c62 h61
                    refine tr_take1 rfl rfl (lt_of rfl) rfl c62 (s_move (v := .d (.sl 3 (r11.1.map encApiSeat))) (lt_of rfl) rfl rfl) ?_
                    refine tr_take1 rfl rfl (lt_of rfl) rfl c62 (s_lenm (lt_of rfl) rfl sl_26.of) ?_
                    refine tr_take1 rfl rfl (lt_of rfl) rfl c62 (s_cmp (lt_of rfl) rfl rfl rfl) ?_
                    refine tr_take1 rfl rfl (lt_of rfl) rfl c59 (s_pick_t (v := .d (.lit (.bool ((decide (0 < (r11.1.length : Int))))))) (lt_of rfl) rfl c62 rfl rfl) ?_
                    have h61 := Option.some.inj h61
                    subst h61
                    refine tr_nil (ent_keep rfl ⟨rfl, rfl, rfl, rfl, rfl, rfl, rfl, rfl, rfl, trivial⟩ rfl)
                  · have h61 := cond_ff c62 h61
                    refine tr_pass rfl rfl (lt_of rfl) rfl (lt_of rfl) rfl c62 ?_
                    refine tr_pass rfl rfl (lt_of rfl) rfl (lt_of rfl) rfl c62 ?_
                    refine tr_pass rfl rfl (lt_of rfl) rfl (lt_of rfl) rfl c62 ?_
                    refine tr_take1 rfl rfl (lt_of rfl) rfl c59 (s_pick_f (v := .d (.lit (.bool false))) (lt_of rfl) rfl c62 rfl rfl) ?_
                    have h61 := Option.some.inj h61
                    subst h61
                    refine tr_nil (ent_keep rfl ⟨rfl, rfl, rfl, rfl, rfl, rfl, rfl, rfl, rfl, trivial⟩ rfl)
                · refine tr1 rfl (s_pick_f (v := .d (.lit (.bool b60))) (lt_of rfl) rfl c59 rfl rfl) ?_
                  have h30 := Option.some.inj h30
                  subst h30
                  refine tr_nil (ent_keep rfl ⟨rfl, rfl, rfl, rfl, rfl, rfl, rfl, rfl, trivial⟩ rfl)
            · refine tr1 rfl (s_move (v := .d (.lit (.bool b29))) (lt_of rfl) rfl rfl) ?_
              obtain ⟨b31, h32, h⟩ := bind_some h
              refine tr_guard 8 [1, 2, 5, 6, 7, 9, 10, 11] 81 b31 ?_ ?_
              · refine bool_cases (b29) (fun c55 => ?_) (fun c55 => ?_)
                · have h32 := cond_tt c55 h32
                  refine tr_pass rfl rfl (lt_of rfl) rfl (lt_of rfl) rfl c55 ?_
                  refine tr_pass rfl rfl (lt_of rfl) rfl (lt_of rfl) rfl c55 ?_
                  refine tr_pass rfl rfl (lt_of rfl) rfl (lt_of rfl) rfl c55 ?_
                  refine tr_pass' rfl rfl (lt_of rfl) rfl (lt_of rfl) rfl ?_
                  refine tr_pass' rfl rfl (lt_of rfl) rfl (lt_of rfl) rfl ?_
                  refine tr_pass' rfl rfl (lt_of rfl) rfl (lt_of rfl) rfl ?_
                  refine tr_pass rfl rfl (lt_of rfl) rfl (lt_of rfl) rfl c55 ?_
                  refine tr1 rfl (s_pick_t (v := .d (.lit (.bool true))) (lt_of rfl) rfl c55 rfl rfl) ?_
                  have h32 := Option.some.inj h32
                  subst h32
                  refine tr_nil (ent_keep rfl ⟨rfl, rfl, rfl, rfl, rfl, rfl, rfl, rfl, trivial⟩ rfl)
                · have h32 := cond_ff c55 h32
                  refine tr_take1 rfl rfl (lt_of rfl) rfl c55 (s_move (v := .d (.lit (.int .i64 r19.2))) (lt_of rfl) rfl rfl) ?_
                  refine tr_take1 rfl rfl (lt_of rfl) rfl c55 (s_cmp (lt_of rfl) rfl rfl rfl) ?_
                  refine tr_take1 rfl rfl (lt_of rfl) rfl c55 (s_move (v := .d (.lit (.bool ((!decide (r19.2 = 0)))))) (lt_of rfl) rfl rfl) ?_
                  obtain ⟨b56, h57, h32⟩ := bind_some h32
                  refine tr_guard 4 [1, 2, 5, 6, 7, 9, 10, 11, 73] 80 b56 ?_ ?_
                  · refine bool_cases (!decide (r19.2 = 0)) (fun c58 => ?_) (fun c58 => ?_)
                    · have h57 := cond_tt c58 h57
                      refine tr_take1 rfl rfl (lt_of rfl) rfl c58 (s_move (v := .d (.sl 3 (r19.1.map encApiSeat))) (lt_of rfl) rfl rfl) ?_
                      refine tr_take1 rfl rfl (lt_of rfl) rfl c58 (s_lenm (lt_of rfl) rfl sl_26.of) ?_
                      refine tr_take1 rfl rfl (lt_of rfl) rfl c58 (s_cmp (lt_of rfl) rfl rfl rfl) ?_
                      refine tr_take1 rfl rfl (lt_of rfl) rfl c55 (s_pick_t (v := .d (.lit (.bool ((decide (0 < (r19.1.length : Int))))))) (lt_of rfl) rfl c58 rfl rfl) ?_
                      have h57 := Option.some.inj h57
                      subst h57
                      refine tr_nil (ent_keep rfl ⟨rfl, rfl, rfl, rfl, rfl, rfl, rfl, rfl, rfl, trivial⟩ rfl)
                    · have h57 := cond_ff c58 h57
                      refine tr_pass rfl rfl (lt_of rfl) rfl (lt_of rfl) rfl c58 ?_
                      refine tr_pass rfl rfl (lt_of rfl) rfl (lt_of rfl) rfl c58 ?_
                      refine tr_pass rfl rfl (lt_of rfl) rfl (lt_of rfl) rfl c58 ?_
                      refine tr_take1 rfl rfl (lt_of rfl) rfl c55 (s_pick_f (v := .d (.lit (.bool false))) (lt_of rfl) rfl c58 rfl rfl) ?_
                      have h57 := Option.some.inj h57
                      subst h57
                      refine tr_nil (ent_keep rfl ⟨rfl, rfl, rfl, rfl, rfl, rfl, rfl, rfl, rfl, trivial⟩ rfl)
                  · refine tr1 rfl (s_pick_f (v := .d (.lit (.bool b56))) (lt_of rfl) rfl c55 rfl rfl) ?_
                    have h32 := Option.some.inj h32
                    subst h32
                    refine tr_nil (ent_keep rfl ⟨rfl, rfl, rfl, rfl, rfl, rfl, rfl, rfl, trivial⟩ rfl)
              · refine tr_nil ?_
                refine tr_if rfl (fun c33 => ?_) (fun c33 => ?_)
                · have h := cond_tt c33 h
                  refine tr_seq ?_
                  refine tr_region ?_
                  refine tr1 rfl (s_assign (v := .d (.lit (.bool false))) (lt_of rfl) rfl rfl) ?_
                  refine tr_nil ?_
                  have h := Option.some.inj h
                  subst h
                  refine tr_ent (ent_free (ble_keep (l := [4]) ⟨rfl, trivial⟩)) ?_
                  exact tr_ret ⟨rfl, _, .one _, rfl, rfl⟩
                · have h := cond_ff c33 h
                  refine tr_skip ?_
                  refine tr_seq ?_
                  refine tr_seq ?_
                  refine tr_region ?_
                  refine tr1 rfl (s_move (v := .d (.lit (.int .i64 r11.2))) (lt_of rfl) rfl rfl) ?_
                  refine tr1 rfl (s_cmp (lt_of rfl) rfl rfl rfl) ?_
                  refine tr1 rfl (s_move (v := .d (.lit (.bool ((decide (r11.2 = 0)))))) (lt_of rfl) rfl rfl) ?_
                  obtain ⟨b34, h35, h⟩ := bind_some h
                  refine tr_guard 6 [1, 2, 9, 10, 11] 90 b34 ?_ ?_
                  · refine bool_cases (decide (r11.2 = 0)) (fun c52 => ?_) (fun c52 => ?_)
                    · have h35 := cond_tt c52 h35
                      refine tr_take1 rfl rfl (lt_of rfl) rfl c52 (s_loada_bp (lt_of rfl) rfl (i := 0) rfl agg_25 (es := (encApiProgram p_0)) rfl rfl) ?_
                      refine tr_take1 rfl rfl (lt_of rfl) rfl c52 (s_move (v := .d (.sl 3 (r11.1.map encApiSeat))) (lt_of rfl) rfl rfl) ?_
                      refine tr_take1 rfl rfl (lt_of rfl) rfl c52 (s_move (v := .d (.lit (.int .i64 r13.1))) (lt_of rfl) rfl rfl) ?_
                      obtain ⟨r53, h54, h35⟩ := bind_some h35
                      refine tr_take1 rfl rfl (lt_of rfl) rfl c52 (s_call (lt_of rfl) (.func _ _ Try.call38) rfl rfl (BVs.refl _ _) (deucelaw08_fits_c _ _ _ h54) rfl) ?_
                      refine tr_take1 rfl rfl (lt_of rfl) rfl c52 (s_not (lt_of rfl) rfl) ?_
                      refine tr1 rfl (s_pick_t (v := .d (.lit (.bool (!r53)))) (lt_of rfl) rfl c52 rfl rfl) ?_
                      have h35 := Option.some.inj h35
                      subst h35
                      refine tr_nil (ent_keep rfl ⟨rfl, rfl, rfl, rfl, rfl, trivial⟩ rfl)
                    · have h35 := cond_ff c52 h35
                      refine tr_pass rfl rfl (lt_of rfl) rfl (lt_of rfl) rfl c52 ?_
                      refine tr_pass rfl rfl (lt_of rfl) rfl (lt_of rfl) rfl c52 ?_
                      refine tr_pass rfl rfl (lt_of rfl) rfl (lt_of rfl) rfl c52 ?_
                      refine tr_pass rfl rfl (lt_of rfl) rfl (lt_of rfl) rfl c52 ?_
                      refine tr_pass rfl rfl (lt_of rfl) rfl (lt_of rfl) rfl c52 ?_
                      refine tr1 rfl (s_pick_f (v := .d (.lit (.bool false))) (lt_of rfl) rfl c52 rfl rfl) ?_
                      have h35 := Option.some.inj h35
                      subst h35
                      refine tr_nil (ent_keep rfl ⟨rfl, rfl, rfl, rfl, rfl, trivial⟩ rfl)
                  · refine tr1 rfl (s_move (v := .d (.lit (.bool b34))) (lt_of rfl) rfl rfl) ?_
                    obtain ⟨b36, h37, h⟩ := bind_some h
                    refine tr_guard 16 [] 107 b36 ?_ ?_
                    · refine bool_cases (b34) (fun c41 => ?_) (fun c41 => ?_)
                      · have h37 := cond_tt c41 h37
                        refine tr_pass rfl rfl (lt_of rfl) rfl (lt_of rfl) rfl c41 ?_
                        refine tr_pass rfl rfl (lt_of rfl) rfl (lt_of rfl) rfl c41 ?_
                        refine tr_pass rfl rfl (lt_of rfl) rfl (lt_of rfl) rfl c41 ?_
                        refine tr_pass' rfl rfl (lt_of rfl) rfl (lt_of rfl) rfl ?_
                        refine tr_pass' rfl rfl (lt_of rfl) rfl (lt_of rfl) rfl ?_
                        refine tr_pass' rfl rfl (lt_of rfl) rfl (lt_of rfl) rfl ?_
                        refine tr_pass' rfl rfl (lt_of rfl) rfl (lt_of rfl) rfl ?_
                        refine tr_pass' rfl rfl (lt_of rfl) rfl (lt_of rfl) rfl ?_
                        refine tr_pass' rfl rfl (lt_of rfl) rfl (lt_of rfl) rfl ?_
                        refine tr_pass' rfl rfl (lt_of rfl) rfl (lt_of rfl) rfl ?_
                        refine tr_pass' rfl rfl (lt_of rfl) rfl (lt_of rfl) rfl ?_
                        refine tr_pass' rfl rfl (lt_of rfl) rfl (lt_of rfl) rfl ?_
                        refine tr_pass' rfl rfl (lt_of rfl) rfl (lt_of rfl) rfl ?_
                        refine tr_pass' rfl rfl (lt_of rfl) rfl (lt_of rfl) rfl ?_
                        refine tr_pass rfl rfl (lt_of rfl) rfl (lt_of rfl) rfl c41 ?_
                        refine tr1 rfl (s_pick_t (v := .d (.lit (.bool true))) (lt_of rfl) rfl c41 rfl rfl) ?_
                        have h37 := Option.some.inj h37
                        subst h37
                        refine tr_nil (ent_keep rfl trivial rfl)
                      · have h37 := cond_ff c41 h37
                        refine tr_take1 rfl rfl (lt_of rfl) rfl c41 (s_move (v := .d (.lit (.int .i64 r19.2))) (lt_of rfl) rfl rfl) ?_
                        refine tr_take1 rfl rfl (lt_of rfl) rfl c41 (s_cmp (lt_of rfl) rfl rfl rfl) ?_
                        refine tr_take1 rfl rfl (lt_of rfl) rfl c41 (s_move (v := .d (.lit (.bool ((decide (r19.2 = 0)))))) (lt_of rfl) rfl rfl) ?_
                        obtain ⟨b42, h43, h37⟩ := bind_some h37
                        refine tr_guard 12 [91] 106 b42 ?_ ?_
                        · refine bool_cases (decide (r19.2 = 0)) (fun c44 => ?_) (fun c44 => ?_)
                          · have h43 := cond_tt c44 h43
                            refine tr_take1 rfl rfl (lt_of rfl) rfl c44 (s_loada_bp (lt_of rfl) rfl (i := 0) rfl agg_25 (es := (encApiProgram p_0)) rfl rfl) ?_
                            refine tr_take1 rfl rfl (lt_of rfl) rfl c44 (s_move (v := .d (.sl 3 (r19.1.map encApiSeat))) (lt_of rfl) rfl rfl) ?_
                            obtain ⟨r45, h46, h43⟩ := bind_some h43
                            refine tr_take1 rfl rfl (lt_of rfl) rfl c44 (s_call (lt_of rfl) (.func _ _ Try.call38) rfl rfl (BVs.refl _ _) (deucelaw08_fits_c _ _ _ h46) rfl) ?_
                            refine tr_take1 rfl rfl (lt_of rfl) rfl c44 (s_not (lt_of rfl) rfl) ?_
                            refine tr_take1 rfl rfl (lt_of rfl) rfl c44 (s_move (v := .d (.lit (.bool (!r45)))) (lt_of rfl) rfl rfl) ?_
                            obtain ⟨b47, h48, h43⟩ := bind_some h43
                            refine tr_guard 6 [91, 94] 105 b47 ?_ ?_
                            · refine bool_cases (!r45) (fun c49 => ?_) (fun c49 => ?_)
                              · have h48 := cond_tt c49 h48
                                refine tr_pass rfl rfl (lt_of rfl) rfl (lt_of rfl) rfl c49 ?_
                                refine tr_pass rfl rfl (lt_of rfl) rfl (lt_of rfl) rfl c49 ?_
                                refine tr_pass rfl rfl (lt_of rfl) rfl (lt_of rfl) rfl c49 ?_
                                refine tr_pass rfl rfl (lt_of rfl) rfl (lt_of rfl) rfl c49 ?_
                                refine tr_pass rfl rfl (lt_of rfl) rfl (lt_of rfl) rfl c49 ?_
                                refine tr_take1 rfl rfl (lt_of rfl) rfl c44 (s_pick_t (v := .d (.lit (.bool true))) (lt_of rfl) rfl c49 rfl rfl) ?_
                                have h48 := Option.some.inj h48
                                subst h48
                                refine tr_nil (ent_keep rfl ⟨rfl, rfl, trivial⟩ rfl)
                              · have h48 := cond_ff c49 h48
                                refine tr_take1 rfl rfl (lt_of rfl) rfl c49 (s_move (v := .d (.sl 3 (r19.1.map encApiSeat))) (lt_of rfl) rfl rfl) ?_
                                refine tr_take1 rfl rfl (lt_of rfl) rfl c49 (s_move (v := .d (.sl 3 (old_1.map encApiSeat))) (lt_of rfl) rfl rfl) ?_
                                obtain ⟨r50, h51, h48⟩ := bind_some h48
                                refine tr_take1 rfl rfl (lt_of rfl) rfl c49 (s_call (lt_of rfl) (.func _ _ Try.call34) rfl rfl (BVs.refl _ _) (deuceref08_Moved_c _ _ h51) rfl) ?_
                                refine tr_take1 rfl rfl (lt_of rfl) rfl c49 (s_move (v := .d (.lit (.int .i64 r21.1))) (lt_of rfl) rfl rfl) ?_
                                refine tr_take1 rfl rfl (lt_of rfl) rfl c49 (s_cmp (lt_of rfl) rfl rfl rfl) ?_
                                refine tr_take1 rfl rfl (lt_of rfl) rfl c44 (s_pick_f (v := .d (.lit (.bool ((!decide (r50 = r21.1)))))) (lt_of rfl) rfl c49 rfl rfl) ?_
                                have h48 := Option.some.inj h48
                                subst h48
                                refine tr_nil (ent_keep rfl ⟨rfl, rfl, trivial⟩ rfl)
                            · refine tr_take1 rfl rfl (lt_of rfl) rfl c41 (s_pick_t (v := .d (.lit (.bool b47))) (lt_of rfl) rfl c44 rfl rfl) ?_
                              have h43 := Option.some.inj h43
                              subst h43
                              refine tr_nil (ent_keep rfl ⟨rfl, trivial⟩ rfl)
                          · have h43 := cond_ff c44 h43
                            refine tr_pass rfl rfl (lt_of rfl) rfl (lt_of rfl) rfl c44 ?_
                            refine tr_pass rfl rfl (lt_of rfl) rfl (lt_of rfl) rfl c44 ?_
                            refine tr_pass rfl rfl (lt_of rfl) rfl (lt_of rfl) rfl c44 ?_
                            refine tr_pass rfl rfl (lt_of rfl) rfl (lt_of rfl) rfl c44 ?_
                            refine tr_pass rfl rfl (lt_of rfl) rfl (lt_of rfl) rfl c44 ?_
                            refine tr_pass' rfl rfl (lt_of rfl) rfl (lt_of rfl) rfl ?_
                            refine tr_pass' rfl rfl (lt_of rfl) rfl (lt_of rfl) rfl ?_
                            refine tr_pass' rfl rfl (lt_of rfl) rfl (lt_of rfl) rfl ?_
                            refine tr_pass' rfl rfl (lt_of rfl) rfl (lt_of rfl) rfl ?_
                            refine tr_pass' rfl rfl (lt_of rfl) rfl (lt_of rfl) rfl ?_
                            refine tr_pass rfl rfl (lt_of rfl) rfl (lt_of rfl) rfl c44 ?_
                            refine tr_take1 rfl rfl (lt_of rfl) rfl c41 (s_pick_f (v := .d (.lit (.bool false))) (lt_of rfl) rfl c44 rfl rfl) ?_
                            have h43 := Option.some.inj h43
                            subst h43
                            refine tr_nil (ent_keep rfl ⟨rfl, trivial⟩ rfl)
                        · refine tr1 rfl (s_pick_f (v := .d (.lit (.bool b42))) (lt_of rfl) rfl c41 rfl rfl) ?_
                          have h37 := Option.some.inj h37
                          subst h37
                          refine tr_nil (ent_keep rfl trivial rfl)
                    · refine tr_nil ?_
                      refine tr_if rfl (fun c38 => ?_) (fun c38 => ?_)
                      · have h := cond_tt c38 h
                        refine tr_seq ?_
                        refine tr_region ?_
                        refine tr1 rfl (s_assign (v := .d (.lit (.bool false))) (lt_of rfl) rfl rfl) ?_
                        refine tr_nil ?_
                        have h := Option.some.inj h
                        subst h
                        refine tr_ent (ent_free (ble_keep (l := [4]) ⟨rfl, trivial⟩)) ?_
                        exact tr_ret ⟨rfl, _, .one _, rfl, rfl⟩
                      · have h := cond_ff c38 h
                        refine tr_skip ?_
                        refine tr_seq ?_
                        refine tr_region ?_
                        obtain ⟨r39, h40, h⟩ := bind_some h
                        refine tr1 rfl (s_call (lt_of rfl) (.func _ _ Try.call16) rfl rfl (BVs.refl _ _) (deucelaw08_works_c h40) rfl) ?_
                        refine tr1 rfl (s_assign (v := .d (.lit (.bool r39))) (lt_of rfl) rfl rfl) ?_
                        refine tr_nil ?_
                        have h := Option.some.inj h
                        subst h
                        refine tr_ent (ent_free (ble_keep (l := [4]) ⟨rfl, trivial⟩)) ?_
                        exact tr_ret ⟨rfl, _, .one _, rfl, rfl⟩

end Go.Am
