/- The functions compute what the shallow ones say: printed by program. -/
import Derived.Test.YtikcmpflkibomaaPlayTimesSimP2
namespace Go.Am
open Go.Proofs
set_option maxRecDepth 100000
set_option maxHeartbeats 4000000

theorem deuceref08_Times_c (p_0 : ApiProgram) (order_1 : List ApiSeat) {r : (List ApiSpan) × (List ApiSpan) × Int} (h : deuceref08_Times p_0 order_1 = some r) : Fn Try.prog 26 [.agg (encApiProgram p_0), .d (.sl 3 (order_1.map encApiSeat))] (.tup [.d (.sl 2 (r.1.map encApiSpan)), .d (.sl 2 (r.2.1.map encApiSpan)), .d (.lit (.int .i64 r.2.2))]) := by
  unfold deuceref08_Times at h
  refine Fn.of_tr Try.func26 rfl (rs := [.tmp 4, .tmp 5, .tmp 6]) Try.results26 Try.ntmps26 (Nat.le_of_ble_eq_true rfl) ?_
  refine tr_seq ?_
  refine tr_region ?_
  refine tr_op rfl (s_box (v := .agg (encApiProgram p_0)) (lt_of rfl) rfl rfl rfl) ?_
  rintro _ ⟨b1, rfl⟩
  refine tr1 rfl (s_nil_arr 34 2 (.inl rfl) (lt_of rfl)) ?_
  refine tr1 rfl (s_nil_arr 34 2 (.inl rfl) (lt_of rfl)) ?_
  refine tr1 rfl (s_assign (v := .d (.lit (.int .i64 0))) (lt_of rfl) rfl rfl) ?_
  refine tr_nil ?_
  refine tr_seq ?_
  refine tr_seq ?_
  refine tr_region ?_
  refine tr1 rfl (s_loada_bp (lt_of rfl) rfl (i := 0) rfl agg_25 (es := (encApiProgram p_0)) rfl rfl) ?_
  obtain ⟨r4, h5, h⟩ := bind_some h
  refine tr1 rfl (s_call (lt_of rfl) (.func _ _ Try.call14) rfl rfl (BVs.refl _ _) (deuceref08_Check_c _ h5) rfl) ?_
  refine tr1 rfl (s_cmp (lt_of rfl) rfl rfl rfl) ?_
  refine tr_nil ?_
  refine tr_if rfl (fun c6 => ?_) (fun c6 => ?_)
  · have h := cond_tt c6 h
    refine tr_seq ?_
    refine tr_region ?_
    refine tr1 rfl (s_nil_arr 34 2 (.inl rfl) (lt_of rfl)) ?_
    refine tr1 rfl (s_nil_arr 34 2 (.inl rfl) (lt_of rfl)) ?_
    refine tr1 rfl (s_assign (v := .d (.lit (.int .i64 80))) (lt_of rfl) rfl rfl) ?_
    refine tr_nil ?_
    have h := Option.some.inj h
    subst h
    refine tr_ent (ent_free (ble_upd (k := 6) (v := .d (.lit (.int .i64 80))) (.same _) (ble_upd (k := 5) (v := .d (.sl 2 ((([] : List ApiSpan)).map encApiSpan))) (.d (dv_arr 4 rfl (map_len (f := encApiSpan) fun _ => rfl))) (ble_upd (k := 4) (v := .d (.sl 2 ((([] : List ApiSpan)).map encApiSpan))) (.d (dv_arr 3 rfl (map_len (f := encApiSpan) fun _ => rfl))) (ble_emp))))) ?_
    exact tr_ret ⟨rfl, _, .three _ _ _, rfl, rfl⟩
  · have h := cond_ff c6 h
    refine tr_skip ?_
    refine tr_seq ?_
    refine tr_seq ?_
    refine tr_region ?_
    refine tr1 rfl (s_loada_bp (lt_of rfl) rfl (i := 0) rfl agg_25 (es := (encApiProgram p_0)) rfl rfl) ?_
    refine tr1 rfl (s_move (v := .d (.sl 3 (order_1.map encApiSeat))) (lt_of rfl) rfl rfl) ?_
    obtain ⟨r9, h10, h⟩ := bind_some h
    refine tr1 rfl (s_call (lt_of rfl) (.func _ _ Try.call15) rfl rfl (BVs.refl _ _) (deuceref08_IsOrder_c _ _ h10) rfl) ?_
    refine tr1 rfl (s_not (lt_of rfl) rfl) ?_
    refine tr_nil ?_
    refine tr_if rfl (fun c11 => ?_) (fun c11 => ?_)
    · have h := cond_tt c11 h
      refine tr_seq ?_
      refine tr_region ?_
      refine tr1 rfl (s_nil_arr 34 2 (.inl rfl) (lt_of rfl)) ?_
      refine tr1 rfl (s_nil_arr 34 2 (.inl rfl) (lt_of rfl)) ?_
      refine tr1 rfl (s_assign (v := .d (.lit (.int .i64 81))) (lt_of rfl) rfl rfl) ?_
      refine tr_nil ?_
      have h := Option.some.inj h
      subst h
      refine tr_ent (ent_free (ble_upd (k := 6) (v := .d (.lit (.int .i64 81))) (.same _) (ble_upd (k := 5) (v := .d (.sl 2 ((([] : List ApiSpan)).map encApiSpan))) (.d (dv_arr 4 rfl (map_len (f := encApiSpan) fun _ => rfl))) (ble_upd (k := 4) (v := .d (.sl 2 ((([] : List ApiSpan)).map encApiSpan))) (.d (dv_arr 3 rfl (map_len (f := encApiSpan) fun _ => rfl))) (ble_emp))))) ?_
      exact tr_ret ⟨rfl, _, .three _ _ _, rfl, rfl⟩
    · have h := cond_ff c11 h
      refine tr_skip ?_
      refine tr_seq ?_
      obtain ⟨r14, h15, h⟩ := bind_some h
      obtain ⟨r16, h17, h⟩ := bind_some h
      refine tr_drawk mix 9 [1, 2, 4, 5] [(7, .d (.sl 1 (r16.1.map encI))), (26, .d (.sl 1 (r16.2.map encI)))] ?_ ?_
      · refine ⟨[(20, 0, .agg (encApiProgram p_0)), (21, 1, .d (.sl 3 (order_1.map encApiSeat))), (22, 2, .agg (encApiProgram p_0)), (23, 3, .d (.sl 1 (r14.map encI))), (24, 4, .tup [.d (.sl 1 (r16.1.map encI)), .d (.sl 1 (r16.2.map encI))]), (19, 5, .tup [.d (.sl 1 (r16.1.map encI)), .d (.sl 1 (r16.2.map encI))]), (25, 6, .d (.sl 1 (r16.1.map encI))), (26, 7, .d (.sl 1 (r16.2.map encI))), (7, 8, .d (.sl 1 (r16.1.map encI)))], ?_, ?_⟩
        · exact ⟨by kernel_rfl, by kernel_rfl, by kernel_rfl, by kernel_rfl, by kernel_rfl, [([], []), ([], []), ([], []), ([2], []), ([0, 1, 3], []), ([4], []), ([5], []), ([5], []), ([6], [])], by kernel_rfl, ⟨fun S hS => g_fin rfl (g_op rfl (s_loada_bp (lt_of rfl) (ov_ev hS rfl) (i := 0) rfl agg_25 (es := (encApiProgram p_0)) rfl rfl)),
      fun S hS => g_fin rfl (g_op rfl (s_move (v := .d (.sl 3 (order_1.map encApiSeat))) (lt_of rfl) (ov_ev hS rfl) rfl)),
      fun S hS => g_fin rfl (g_op rfl (s_loada_bp (lt_of rfl) (ov_ev hS rfl) (i := 0) rfl agg_25 (es := (encApiProgram p_0)) rfl rfl)),
      fun S hS => g_fin rfl (g_op rfl (s_callf (lt_of rfl) (.func _ _ Try.call64) (ev2 (ov_ev hS rfl) (ev2 rfl evn)) rfl (deuceref08_lengths_c _ _ h15))),
      fun S hS => g_fin rfl (g_op rfl (s_callf (lt_of rfl) (.func _ _ Try.call19) (ev2 (ov_ev hS rfl) (ev2 (ov_ev hS rfl) (ev2 (ov_ev hS rfl) evn))) rfl (deuceref08_Run_c _ _ _ h17))),
      fun S hS => g_fin rfl (g_op rfl (s_move (v := .tup [.d (.sl 1 (r16.1.map encI)), .d (.sl 1 (r16.2.map encI))]) (lt_of rfl) (ov_ev hS rfl) rfl)),
      fun S hS => g_fin rfl (g_op rfl (s_extract (lt_of rfl) (ov_ev hS rfl) rfl)),
      fun S hS => g_fin rfl (g_op rfl (s_extract (lt_of rfl) (ov_ev hS rfl) rfl)),
      fun S hS => g_fin rfl (g_op rfl (s_assign (v := .d (.sl 1 (r16.1.map encI))) (lt_of rfl) (ov_ev hS rfl) rfl)), trivial⟩⟩
        · exact ent_le (le_upd rfl (le_upd rfl (le_keep ⟨rfl, rfl, rfl, rfl, trivial⟩)))
      · refine tr1 rfl (s_assign (v := .d (.sl 1 (r16.2.map encI))) (lt_of rfl) rfl rfl) ?_
        refine tr_nil ?_
        refine tr_seq ?_
        obtain ⟨r18, h19, h⟩ := bind_some h
        obtain ⟨r20, h21, h⟩ := bind_some h
        refine tr_drawk mix 9 [2, 4, 5, 7, 8] [(9, .d (.sl 1 (r20.1.map encI))), (34, .d (.sl 1 (r20.2.map encI)))] ?_ ?_
        · refine ⟨[(28, 0, .agg (encApiProgram p_0)), (29, 1, .d (.sl 3 (order_1.map encApiSeat))), (30, 2, .agg (encApiProgram p_0)), (31, 3, .d (.sl 1 (r18.map encI))), (32, 4, .tup [.d (.sl 1 (r20.1.map encI)), .d (.sl 1 (r20.2.map encI))]), (27, 5, .tup [.d (.sl 1 (r20.1.map encI)), .d (.sl 1 (r20.2.map encI))]), (33, 6, .d (.sl 1 (r20.1.map encI))), (34, 7, .d (.sl 1 (r20.2.map encI))), (9, 8, .d (.sl 1 (r20.1.map encI)))], ?_, ?_⟩
          · exact ⟨by kernel_rfl, by kernel_rfl, by kernel_rfl, by kernel_rfl, by kernel_rfl, [([], []), ([], []), ([], []), ([2], []), ([0, 1, 3], []), ([4], []), ([5], []), ([5], []), ([6], [])], by kernel_rfl, ⟨fun S hS => g_fin rfl (g_op rfl (s_loada_bp (lt_of rfl) (ov_ev hS rfl) (i := 0) rfl agg_25 (es := (encApiProgram p_0)) rfl rfl)),
      fun S hS => g_fin rfl (g_op rfl (s_move (v := .d (.sl 3 (order_1.map encApiSeat))) (lt_of rfl) (ov_ev hS rfl) rfl)),
      fun S hS => g_fin rfl (g_op rfl (s_loada_bp (lt_of rfl) (ov_ev hS rfl) (i := 0) rfl agg_25 (es := (encApiProgram p_0)) rfl rfl)),
      fun S hS => g_fin rfl (g_op rfl (s_callf (lt_of rfl) (.func _ _ Try.call64) (ev2 (ov_ev hS rfl) (ev2 rfl evn)) rfl (deuceref08_lengths_c _ _ h19))),
      fun S hS => g_fin rfl (g_op rfl (s_callf (lt_of rfl) (.func _ _ Try.call19) (ev2 (ov_ev hS rfl) (ev2 (ov_ev hS rfl) (ev2 (ov_ev hS rfl) evn))) rfl (deuceref08_Run_c _ _ _ h21))),
      fun S hS => g_fin rfl (g_op rfl (s_move (v := .tup [.d (.sl 1 (r20.1.map encI)), .d (.sl 1 (r20.2.map encI))]) (lt_of rfl) (ov_ev hS rfl) rfl)),
      fun S hS => g_fin rfl (g_op rfl (s_extract (lt_of rfl) (ov_ev hS rfl) rfl)),
      fun S hS => g_fin rfl (g_op rfl (s_extract (lt_of rfl) (ov_ev hS rfl) rfl)),
      fun S hS => g_fin rfl (g_op rfl (s_assign (v := .d (.sl 1 (r20.1.map encI))) (lt_of rfl) (ov_ev hS rfl) rfl)), trivial⟩⟩
          · exact ent_le (le_upd rfl (le_upd rfl (le_keep ⟨rfl, rfl, rfl, rfl, rfl, trivial⟩)))
        · refine tr1 rfl (s_assign (v := .d (.sl 1 (r20.2.map encI))) (lt_of rfl) rfl rfl) ?_
          refine tr_nil ?_
          refine tr_seq ?_
          refine tr_seq ?_
          refine tr_region ?_
          refine tr1 rfl (s_assign (v := .d (.lit (.int .i64 0))) (lt_of rfl) rfl rfl) ?_
          refine tr_nil ?_
          refine tr_blk ?_
          refine tr_loopk [2, 7, 8, 9, 10] (fun (s22 : Int × (List ApiSpan) × (List ApiSpan) × Value × Value) => [(4, .d (.lit s22.2.2.2.1)), (5, .d (.lit s22.2.2.2.2)), (11, .d (.lit (.int .i64 s22.1)))]) (fun (s22 : Int × (List ApiSpan) × (List ApiSpan) × Value × Value) => [.box b1 0 (encApiProgram p_0), .arr s22.2.2.2.1 34 2 (s22.2.1.map encApiSpan), .arr s22.2.2.2.2 34 2 (s22.2.2.1.map encApiSpan)]) (fun (k : Nat) (s22 : Int × (List ApiSpan) × (List ApiSpan) × Value × Value) => deuceref08_Times_L0 r16.1 r16.2 r20.1 r20.2 p_0 k s22.1 s22.2.1 s22.2.2.1) (fun _ => rfl) (0, ([] : List ApiSpan), ([] : List ApiSpan), (.slice none 0 0), (.slice none 0 0)) h (ent_pick [0, 1, 2] rfl rfl (le_upd rfl (le_upd rfl (le_upd rfl (le_keep ⟨rfl, rfl, rfl, rfl, rfl, trivial⟩))))) ?_
          rintro k25 ⟨i_0_22, begins_0_22, ends_0_22, w23, w24⟩ h
          simp only [deuceref08_Times_L0] at h
          refine tr_seq ?_
          refine tr_seq ?_
          refine tr_region ?_
          refine tr1 rfl (s_move (v := .d (.lit (.int .i64 i_0_22))) (lt_of rfl) rfl rfl) ?_
          refine tr1 rfl (s_field_bp (lt_of rfl) rfl fld_25_2) ?_
          refine tr1 rfl (s_load_bp (lt_of rfl) rfl (i := 0) rfl rfl one_23) ?_
          refine tr1 rfl (s_lenm (lt_of rfl) rfl sl_23.of) ?_
          refine tr1 rfl (s_cmp (lt_of rfl) rfl rfl rfl) ?_
          refine tr_nil ?_
          refine tr_if rfl (fun c26 => ?_) (fun c26 => ?_)
          · have h := cond_tt c26 h
            refine tr_skip ?_
            refine tr_seq ?_
            refine tr_blk ?_
            refine tr_seq ?_
            obtain ⟨x27, h28, h⟩ := bind_some h
            obtain ⟨x29, h30, h⟩ := bind_some h
            refine tr_drawk mix 11 [2, 5, 7, 8, 9, 10, 11] [(42, .d (.lit w23)), (52, .d (.sl 2 ((([(ApiSpan.mk x27 x29)])).map encApiSpan)))] ?_ ?_
            · refine ⟨[(42, 0, .d (.lit w23)), (43, 1, .d (.sl 1 (r16.1.map encI))), (44, 2, .d (.lit (.int .i64 i_0_22))), (45, 3, .cp [.lit (.int .i64 x27)]), (46, 4, .d (.lit (.int .i64 x27))), (47, 5, .d (.sl 1 (r20.1.map encI))), (48, 6, .d (.lit (.int .i64 i_0_22))), (49, 7, .cp [.lit (.int .i64 x29)]), (50, 8, .d (.lit (.int .i64 x29))), (51, 9, .agg (encApiSpan (ApiSpan.mk x27 x29))), (52, 10, .d (.sl 2 ((([(ApiSpan.mk x27 x29)])).map encApiSpan)))], ?_, ?_⟩
              · exact ⟨by kernel_rfl, by kernel_rfl, by kernel_rfl, by kernel_rfl, by kernel_rfl, [([], []), ([], []), ([], []), ([1, 2], []), ([3], []), ([], []), ([], []), ([5, 6], []), ([7], []), ([4, 8], []), ([9], [])], by kernel_rfl, ⟨fun S hS => g_fin rfl (g_op rfl (s_move (v := .d (.lit w23)) (lt_of rfl) (ov_ev hS rfl) rfl)),
      fun S hS => g_fin rfl (g_op rfl (s_move (v := .d (.sl 1 (r16.1.map encI))) (lt_of rfl) (ov_ev hS rfl) rfl)),
      fun S hS => g_fin rfl (g_op rfl (s_move (v := .d (.lit (.int .i64 i_0_22))) (lt_of rfl) (ov_ev hS rfl) rfl)),
      fun S hS => g_fin rfl (g_op rfl (s_index_sl (lt_of rfl) (ov_ev hS rfl) (ov_ev hS rfl) sl_27.of (idx_map encI h28))),
      fun S hS => g_fin rfl (g_op rfl (s_load_cp (lt_of rfl) (ov_ev hS rfl) one_3)),
      fun S hS => g_fin rfl (g_op rfl (s_move (v := .d (.sl 1 (r20.1.map encI))) (lt_of rfl) (ov_ev hS rfl) rfl)),
      fun S hS => g_fin rfl (g_op rfl (s_move (v := .d (.lit (.int .i64 i_0_22))) (lt_of rfl) (ov_ev hS rfl) rfl)),
      fun S hS => g_fin rfl (g_op rfl (s_index_sl (lt_of rfl) (ov_ev hS rfl) (ov_ev hS rfl) sl_27.of (idx_map encI h30))),
      fun S hS => g_fin rfl (g_op rfl (s_load_cp (lt_of rfl) (ov_ev hS rfl) one_3)),
      fun S hS => g_fin rfl (g_op rfl (s_build (lt_of rfl) stu_34 (zs := [.lit (.int .i64 0), .lit (.int .i64 0)]) rfl rfl rfl (pa2 (ov_ev hS rfl) (pa2 (ov_ev hS rfl) pan)) (es := [.lit (.int .i64 x27), .lit (.int .i64 x29)]) rfl)),
      fun S hS => g_fin rfl (g_op rfl (s_lit_sl (lt_of rfl) sl_37 rfl (pa2 (ov_ev hS rfl) pan) (rows := ([(ApiSpan.mk x27 x29)]).map encApiSpan) rfl (map_len (f := encApiSpan) fun _ => rfl) rfl (by decide))), trivial⟩⟩
              · exact ent_le (le_upd rfl (le_upd rfl (le_keep ⟨rfl, rfl, rfl, rfl, rfl, rfl, rfl, trivial⟩)))
            · obtain ⟨x31, h32, h⟩ := bind_some h
              refine tr_op rfl (s_appendm (i := 1) (lt_of rfl) sl_37 rfl rfl rfl (fun _ => rfl) h32 rfl) ?_
              rintro _ ⟨v33, rfl⟩
              refine tr1 rfl (s_assign (v := .d (.lit v33)) (lt_of rfl) rfl rfl) ?_
              refine tr_nil ?_
              obtain ⟨x34, h35, h⟩ := bind_some h
              obtain ⟨x36, h37, h⟩ := bind_some h
              refine tr_drawk mix 11 [2, 4, 7, 8, 9, 10, 11] [(54, .d (.lit w24)), (64, .d (.sl 2 ((([(ApiSpan.mk x34 x36)])).map encApiSpan)))] ?_ ?_
              · refine ⟨[(54, 0, .d (.lit w24)), (55, 1, .d (.sl 1 (r16.2.map encI))), (56, 2, .d (.lit (.int .i64 i_0_22))), (57, 3, .cp [.lit (.int .i64 x34)]), (58, 4, .d (.lit (.int .i64 x34))), (59, 5, .d (.sl 1 (r20.2.map encI))), (60, 6, .d (.lit (.int .i64 i_0_22))), (61, 7, .cp [.lit (.int .i64 x36)]), (62, 8, .d (.lit (.int .i64 x36))), (63, 9, .agg (encApiSpan (ApiSpan.mk x34 x36))), (64, 10, .d (.sl 2 ((([(ApiSpan.mk x34 x36)])).map encApiSpan)))], ?_, ?_⟩
                · exact ⟨by kernel_rfl, by kernel_rfl, by kernel_rfl, by kernel_rfl, by kernel_rfl, [([], []), ([], []), ([], []), ([1, 2], []), ([3], []), ([], []), ([], []), ([5, 6], []), ([7], []), ([4, 8], []), ([9], [])], by kernel_rfl, ⟨fun S hS => g_fin rfl (g_op rfl (s_move (v := .d (.lit w24)) (lt_of rfl) (ov_ev hS rfl) rfl)),
      fun S hS => g_fin rfl (g_op rfl (s_move (v := .d (.sl 1 (r16.2.map encI))) (lt_of rfl) (ov_ev hS rfl) rfl)),
      fun S hS => g_fin rfl (g_op rfl (s_move (v := .d (.lit (.int .i64 i_0_22))) (lt_of rfl) (ov_ev hS rfl) rfl)),
      fun S hS => g_fin rfl (g_op rfl (s_index_sl (lt_of rfl) (ov_ev hS rfl) (ov_ev hS rfl) sl_27.of (idx_map encI h35))),
      fun S hS => g_fin rfl (g_op rfl (s_load_cp (lt_of rfl) (ov_ev hS rfl) one_3)),
      fun S hS => g_fin rfl (g_op rfl (s_move (v := .d (.sl 1 (r20.2.map encI))) (lt_of rfl) (ov_ev hS rfl) rfl)),
      fun S hS => g_fin rfl (g_op rfl (s_move (v := .d (.lit (.int .i64 i_0_22))) (lt_of rfl) (ov_ev hS rfl) rfl)),
      fun S hS => g_fin rfl (g_op rfl (s_index_sl (lt_of rfl) (ov_ev hS rfl) (ov_ev hS rfl) sl_27.of (idx_map encI h37))),
      fun S hS => g_fin rfl (g_op rfl (s_load_cp (lt_of rfl) (ov_ev hS rfl) one_3)),
      fun S hS => g_fin rfl (g_op rfl (s_build (lt_of rfl) stu_34 (zs := [.lit (.int .i64 0), .lit (.int .i64 0)]) rfl rfl rfl (pa2 (ov_ev hS rfl) (pa2 (ov_ev hS rfl) pan)) (es := [.lit (.int .i64 x34), .lit (.int .i64 x36)]) rfl)),
      fun S hS => g_fin rfl (g_op rfl (s_lit_sl (lt_of rfl) sl_37 rfl (pa2 (ov_ev hS rfl) pan) (rows := ([(ApiSpan.mk x34 x36)]).map encApiSpan) rfl (map_len (f := encApiSpan) fun _ => rfl) rfl (by decide))), trivial⟩⟩
                · exact ent_le (le_upd rfl (le_upd rfl (le_keep ⟨rfl, rfl, rfl, rfl, rfl, rfl, rfl, trivial⟩)))
              · obtain ⟨x38, h39, h⟩ := bind_some h
                refine tr_op rfl (s_appendm (i := 2) (lt_of rfl) sl_37 rfl rfl rfl (fun _ => rfl) h39 rfl) ?_
                rintro _ ⟨v40, rfl⟩
                refine tr1 rfl (s_assign (v := .d (.lit v40)) (lt_of rfl) rfl rfl) ?_
                refine tr_nilb ?_
                refine tr_region ?_
                refine tr1 rfl (s_move (v := .d (.lit (.int .i64 i_0_22))) (lt_of rfl) rfl rfl) ?_
                refine tr1 rfl (s_arith (lt_of rfl) rfl rfl rfl) ?_
                refine tr1 rfl (s_assign (v := .d (.lit (.int .i64 ((w64 (i_0_22 + 1)))))) (lt_of rfl) rfl rfl) ?_
                refine tr_nil ?_
                exact ⟨(w64 (i_0_22 + 1), x31, x38, v33, v40), h, ent_pick [0, 1, 2] rfl rfl (le_upd rfl (le_upd rfl (le_upd rfl (le_keep ⟨rfl, rfl, rfl, rfl, rfl, trivial⟩))))⟩
          · have h := cond_ff c26 h
            refine tr_exit ?_
            refine .inl ⟨rfl, ?_⟩
            simp only [deuceref08_Times_K0] at h
            refine tr_seq ?_
            refine tr_region ?_
            refine tr1 rfl (s_move (v := .d (.lit w23)) (lt_of rfl) rfl rfl) ?_
            refine tr1 rfl (s_move (v := .d (.lit w24)) (lt_of rfl) rfl rfl) ?_
            refine tr1 rfl (s_assign (v := .d (.lit w23)) (lt_of rfl) rfl rfl) ?_
            refine tr1 rfl (s_assign (v := .d (.lit w24)) (lt_of rfl) rfl rfl) ?_
            refine tr1 rfl (s_assign (v := .d (.lit (.int .i64 0))) (lt_of rfl) rfl rfl) ?_
            refine tr_nil ?_
            have h := Option.some.inj h
            subst h
            refine tr_ent (ent_free (ble_upd (k := 6) (v := .d (.lit (.int .i64 0))) (.same _) (ble_upd (k := 5) (v := .d (.sl 2 (ends_0_22.map encApiSpan))) (.d (dv_arr 2 rfl (map_len (f := encApiSpan) fun _ => rfl))) (ble_upd (k := 4) (v := .d (.sl 2 (begins_0_22.map encApiSpan))) (.d (dv_arr 1 rfl (map_len (f := encApiSpan) fun _ => rfl))) (ble_emp))))) ?_
            exact tr_ret ⟨rfl, _, .three _ _ _, rfl, rfl⟩

theorem deuceref08_late_c (p_0 : ApiProgram) (order_1 : List ApiSeat) {r : Int} (h : deuceref08_late p_0 order_1 = some r) : Fn Try.prog 65 [.agg (encApiProgram p_0), .d (.sl 3 (order_1.map encApiSeat))] (.d (.lit (.int .i64 r))) := by
  unfold deuceref08_late at h
  refine Fn.of_tr Try.func65 rfl (rs := [.tmp 4]) Try.results65 Try.ntmps65 (Nat.le_of_ble_eq_true rfl) ?_
  refine tr_seq ?_
  refine tr_region ?_
  refine tr_op rfl (s_box (v := .agg (encApiProgram p_0)) (lt_of rfl) rfl rfl rfl) ?_
  rintro _ ⟨b1, rfl⟩
  refine tr1 rfl (s_assign (v := .d (.lit (.int .i64 0))) (lt_of rfl) rfl rfl) ?_
  refine tr_nil ?_
  refine tr_seq ?_
  obtain ⟨r2, h3, h⟩ := bind_some h
  obtain ⟨r4, h5, h⟩ := bind_some h
  refine tr_drawk mix 9 [1, 2] [(16, .d (.sl 1 (r4.2.map encI)))] ?_ ?_
  · refine ⟨[(10, 0, .agg (encApiProgram p_0)), (11, 1, .d (.sl 3 (order_1.map encApiSeat))), (12, 2, .agg (encApiProgram p_0)), (13, 3, .d (.sl 1 (r2.map encI))), (14, 4, .tup [.d (.sl 1 (r4.1.map encI)), .d (.sl 1 (r4.2.map encI))]), (9, 5, .tup [.d (.sl 1 (r4.1.map encI)), .d (.sl 1 (r4.2.map encI))]), (15, 6, .d (.sl 1 (r4.1.map encI))), (16, 7, .d (.sl 1 (r4.2.map encI))), (5, 8, .d (.sl 1 (r4.1.map encI)))], ?_, ?_⟩
    · exact ⟨by kernel_rfl, by kernel_rfl, by kernel_rfl, by kernel_rfl, by kernel_rfl, [([], []), ([], []), ([], []), ([2], []), ([0, 1, 3], []), ([4], []), ([5], []), ([5], []), ([6], [])], by kernel_rfl, ⟨fun S hS => g_fin rfl (g_op rfl (s_loada_bp (lt_of rfl) (ov_ev hS rfl) (i := 0) rfl agg_25 (es := (encApiProgram p_0)) rfl rfl)),
      fun S hS => g_fin rfl (g_op rfl (s_move (v := .d (.sl 3 (order_1.map encApiSeat))) (lt_of rfl) (ov_ev hS rfl) rfl)),
      fun S hS => g_fin rfl (g_op rfl (s_loada_bp (lt_of rfl) (ov_ev hS rfl) (i := 0) rfl agg_25 (es := (encApiProgram p_0)) rfl rfl)),
      fun S hS => g_fin rfl (g_op rfl (s_callf (lt_of rfl) (.func _ _ Try.call64) (ev2 (ov_ev hS rfl) (ev2 rfl evn)) rfl (deuceref08_lengths_c _ _ h3))),
      fun S hS => g_fin rfl (g_op rfl (s_callf (lt_of rfl) (.func _ _ Try.call19) (ev2 (ov_ev hS rfl) (ev2 (ov_ev hS rfl) (ev2 (ov_ev hS rfl) evn))) rfl (deuceref08_Run_c _ _ _ h5))),
      fun S hS => g_fin rfl (g_op rfl (s_move (v := .tup [.d (.sl 1 (r4.1.map encI)), .d (.sl 1 (r4.2.map encI))]) (lt_of rfl) (ov_ev hS rfl) rfl)),
      fun S hS => g_fin rfl (g_op rfl (s_extract (lt_of rfl) (ov_ev hS rfl) rfl)),
      fun S hS => g_fin rfl (g_op rfl (s_extract (lt_of rfl) (ov_ev hS rfl) rfl)),
      fun S hS => g_fin rfl (g_op rfl (s_assign (v := .d (.sl 1 (r4.1.map encI))) (lt_of rfl) (ov_ev hS rfl) rfl)), trivial⟩⟩
    · exact ent_le (le_upd rfl (le_keep ⟨rfl, rfl, trivial⟩))
  · refine tr1 rfl (s_assign (v := .d (.sl 1 (r4.2.map encI))) (lt_of rfl) rfl rfl) ?_
    refine tr_nil ?_
    refine tr_seq ?_
    refine tr_seq ?_
    refine tr_region ?_
    refine tr1 rfl (s_assign (v := .d (.lit (.int .i64 0))) (lt_of rfl) rfl rfl) ?_
    refine tr_nil ?_
    refine tr_blk ?_
    refine tr_loopk [1, 2, 6] (fun (s6 : Int) => [(7, .d (.lit (.int .i64 s6)))]) (fun (s6 : Int) => [.box b1 0 (encApiProgram p_0)]) (fun (k : Nat) (s6 : Int) => deuceref08_late_L0 order_1 r4.2 p_0 k s6) (fun _ => rfl) (0) h (ent_pick [0] rfl rfl (le_upd rfl (le_keep ⟨rfl, rfl, rfl, trivial⟩))) ?_
    rintro k7 i_0_6 h
    simp only [deuceref08_late_L0] at h
    refine tr_seq ?_
    refine tr_seq ?_
    refine tr_region ?_
    refine tr1 rfl (s_move (v := .d (.lit (.int .i64 i_0_6))) (lt_of rfl) rfl rfl) ?_
    refine tr1 rfl (s_move (v := .d (.sl 3 (order_1.map encApiSeat))) (lt_of rfl) rfl rfl) ?_
    refine tr1 rfl (s_lenm (lt_of rfl) rfl sl_26.of) ?_
    refine tr1 rfl (s_cmp (lt_of rfl) rfl rfl rfl) ?_
    refine tr_nil ?_
    refine tr_if rfl (fun c8 => ?_) (fun c8 => ?_)
    · have h := cond_tt c8 h
      refine tr_skip ?_
      refine tr_seq ?_
      refine tr_blk ?_
      refine tr_seq ?_
      refine tr_region ?_
      refine tr1 rfl (s_move (v := .d (.sl 3 (order_1.map encApiSeat))) (lt_of rfl) rfl rfl) ?_
      refine tr1 rfl (s_move (v := .d (.lit (.int .i64 i_0_6))) (lt_of rfl) rfl rfl) ?_
      obtain ⟨x9, h10, h⟩ := bind_some h
      refine tr1 rfl (s_index_sl (lt_of rfl) rfl rfl sl_26.of (idx_map encApiSeat h10)) ?_
      refine tr1 rfl (s_loada_cp (lt_of rfl) rfl agg_45 (es := (encApiSeat x9)) rfl rfl) ?_
      refine tr_op rfl (s_alloc (zs := [.lit (.int .i64 0), .lit (.int .i64 0), .lit (.int .i64 0)]) (lt_of rfl) Try.zeroValue45 rfl rfl) ?_
      rintro _ ⟨b11, rfl⟩
      refine tr1 rfl (s_store_bp (i := 1) rfl rfl rfl rfl rfl Try.sizeOf45 rfl (lt_of rfl) (Nat.le_of_ble_eq_true rfl) (ds' := (encApiSeat x9)) rfl) ?_
      refine tr_nil ?_
      refine tr_seq ?_
      obtain ⟨x12, h13, h⟩ := bind_some h
      obtain ⟨x14, h15, h⟩ := bind_some h
      obtain ⟨x16, h17, h⟩ := bind_some h
      refine tr_drawk mix 16 [1, 2, 6, 7, 8] [(31, .d (.lit (.int .i64 x12))), (42, .d (.lit (.int .i64 x16.High)))] ?_ ?_
      · refine ⟨[(27, 0, .d (.sl 1 (r4.2.map encI))), (28, 1, .bp b11 0 0), (29, 2, .d (.lit (.int .i64 x9.Job))), (30, 3, .cp [.lit (.int .i64 x12)]), (31, 4, .d (.lit (.int .i64 x12))), (32, 5, .bp b1 0 0), (33, 6, .d (.sl 1 (p_0.Days.map encSl_ApiSpan))), (34, 7, .bp b11 0 1), (35, 8, .d (.lit (.int .i64 x9.Day))), (36, 9, .cp [.sl 2 (x14.map encApiSpan)]), (37, 10, .d (.sl 2 (x14.map encApiSpan))), (38, 11, .bp b11 0 2), (39, 12, .d (.lit (.int .i64 x9.Court))), (40, 13, .cp [.lit (.int .i64 x16.Low), .lit (.int .i64 x16.High)]), (41, 14, .cp [.lit (.int .i64 x16.High)]), (42, 15, .d (.lit (.int .i64 x16.High)))], ?_, ?_⟩
        · exact ⟨by kernel_rfl, by kernel_rfl, by kernel_rfl, by kernel_rfl, by kernel_rfl, [([], []), ([], []), ([1], []), ([0, 2], []), ([3], []), ([], []), ([5], []), ([], []), ([7], []), ([6, 8], []), ([9], []), ([], []), ([11], []), ([10, 12], []), ([13], []), ([14], [])], by kernel_rfl, ⟨fun S hS => g_fin rfl (g_op rfl (s_move (v := .d (.sl 1 (r4.2.map encI))) (lt_of rfl) (ov_ev hS rfl) rfl)),
      fun S hS => g_fin rfl (g_op rfl (s_field_bp (lt_of rfl) (ov_ev hS rfl) fld_45_0)),
      fun S hS => g_fin rfl (g_op rfl (s_load_bp (lt_of rfl) (ov_ev hS rfl) (i := 1) rfl rfl one_3)),
      fun S hS => g_fin rfl (g_op rfl (s_index_sl (lt_of rfl) (ov_ev hS rfl) (ov_ev hS rfl) sl_27.of (idx_map encI h13))),
      fun S hS => g_fin rfl (g_op rfl (s_load_cp (lt_of rfl) (ov_ev hS rfl) one_3)),
      fun S hS => g_fin rfl (g_op rfl (s_field_bp (lt_of rfl) (ov_ev hS rfl) fld_25_0)),
      fun S hS => g_fin rfl (g_op rfl (s_load_bp (lt_of rfl) (ov_ev hS rfl) (i := 0) rfl rfl one_22)),
      fun S hS => g_fin rfl (g_op rfl (s_field_bp (lt_of rfl) (ov_ev hS rfl) fld_45_1)),
      fun S hS => g_fin rfl (g_op rfl (s_load_bp (lt_of rfl) (ov_ev hS rfl) (i := 1) rfl rfl one_3)),
      fun S hS => g_fin rfl (g_op rfl (s_index_sl (lt_of rfl) (ov_ev hS rfl) (ov_ev hS rfl) sl_22.of (idx_map encSl_ApiSpan h15))),
      fun S hS => g_fin rfl (g_op rfl (s_load_cp (lt_of rfl) (ov_ev hS rfl) one_37)),
      fun S hS => g_fin rfl (g_op rfl (s_field_bp (lt_of rfl) (ov_ev hS rfl) fld_45_2)),
      fun S hS => g_fin rfl (g_op rfl (s_load_bp (lt_of rfl) (ov_ev hS rfl) (i := 1) rfl rfl one_3)),
      fun S hS => g_fin rfl (g_op rfl (s_index_sl (lt_of rfl) (ov_ev hS rfl) (ov_ev hS rfl) sl_37.of (idx_map encApiSpan h17))),
      fun S hS => g_fin rfl (g_op rfl (s_field_cp (lt_of rfl) (ov_ev hS rfl) fld_34_1 (es := [.lit (.int .i64 x16.High)]) rfl)),
      fun S hS => g_fin rfl (g_op rfl (s_load_cp (lt_of rfl) (ov_ev hS rfl) one_3)), trivial⟩⟩
        · exact ent_le (le_upd rfl (le_upd rfl (le_keep ⟨rfl, rfl, rfl, rfl, rfl, trivial⟩)))
      · refine tr1 rfl (s_cmp (lt_of rfl) rfl rfl rfl) ?_
        refine tr_nil ?_
        refine tr_if rfl (fun c18 => ?_) (fun c18 => ?_)
        · have h := cond_tt c18 h
          refine tr_seq ?_
          refine tr_region ?_
          refine tr1 rfl (s_field_bp (lt_of rfl) rfl fld_45_0) ?_
          refine tr1 rfl (s_load_bp (lt_of rfl) rfl (i := 1) rfl rfl one_3) ?_
          refine tr1 rfl (s_assign (v := .d (.lit (.int .i64 x9.Job))) (lt_of rfl) rfl rfl) ?_
          refine tr_nil ?_
          have h := Option.some.inj h
          subst h
          refine tr_ent (ent_free (ble_keep (l := [4]) ⟨rfl, trivial⟩)) ?_
          exact tr_ret ⟨rfl, _, .one _, rfl, rfl⟩
        · have h := cond_ff c18 h
          refine tr_skipb ?_
          refine tr_region ?_
          refine tr1 rfl (s_move (v := .d (.lit (.int .i64 i_0_6))) (lt_of rfl) rfl rfl) ?_
          refine tr1 rfl (s_arith (lt_of rfl) rfl rfl rfl) ?_
          refine tr1 rfl (s_assign (v := .d (.lit (.int .i64 ((w64 (i_0_6 + 1)))))) (lt_of rfl) rfl rfl) ?_
          refine tr_nil ?_
          exact ⟨(w64 (i_0_6 + 1)), h, ent_pick [0] rfl rfl (le_upd rfl (le_keep ⟨rfl, rfl, rfl, trivial⟩))⟩
    · have h := cond_ff c8 h
      refine tr_exit ?_
      refine .inl ⟨rfl, ?_⟩
      simp only [deuceref08_late_K0] at h
      refine tr_seq ?_
      refine tr_region ?_
      refine tr1 rfl (s_assign (v := .d (.lit (.int .i64 (-1)))) (lt_of rfl) rfl rfl) ?_
      refine tr_nil ?_
      have h := Option.some.inj h
      subst h
      refine tr_ent (ent_free (ble_keep (l := [4]) ⟨rfl, trivial⟩)) ?_
      exact tr_ret ⟨rfl, _, .one _, rfl, rfl⟩

theorem deuceref08_Fits_c (p_0 : ApiProgram) (order_1 : List ApiSeat) {r : Bool × Int × Int} (h : deuceref08_Fits p_0 order_1 = some r) : Fn Try.prog 27 [.agg (encApiProgram p_0), .d (.sl 3 (order_1.map encApiSeat))] (.tup [.d (.lit (.bool r.1)), .d (.lit (.int .i64 r.2.1)), .d (.lit (.int .i64 r.2.2))]) := by
  unfold deuceref08_Fits at h
  refine Fn.of_tr Try.func27 rfl (rs := [.tmp 4, .tmp 5, .tmp 6]) Try.results27 Try.ntmps27 (Nat.le_of_ble_eq_true rfl) ?_
  refine tr_seq ?_
  refine tr_region ?_
  refine tr_op rfl (s_box (v := .agg (encApiProgram p_0)) (lt_of rfl) rfl rfl rfl) ?_
  rintro _ ⟨b1, rfl⟩
  refine tr1 rfl (s_assign (v := .d (.lit (.bool false))) (lt_of rfl) rfl rfl) ?_
  refine tr1 rfl (s_assign (v := .d (.lit (.int .i64 0))) (lt_of rfl) rfl rfl) ?_
  refine tr1 rfl (s_assign (v := .d (.lit (.int .i64 0))) (lt_of rfl) rfl rfl) ?_
  refine tr_nil ?_
  refine tr_seq ?_
  refine tr_seq ?_
  refine tr_region ?_
  refine tr1 rfl (s_loada_bp (lt_of rfl) rfl (i := 0) rfl agg_25 (es := (encApiProgram p_0)) rfl rfl) ?_
  obtain ⟨r2, h3, h⟩ := bind_some h
  refine tr1 rfl (s_call (lt_of rfl) (.func _ _ Try.call14) rfl rfl (BVs.refl _ _) (deuceref08_Check_c _ h3) rfl) ?_
  refine tr1 rfl (s_cmp (lt_of rfl) rfl rfl rfl) ?_
  refine tr_nil ?_
  refine tr_if rfl (fun c4 => ?_) (fun c4 => ?_)
  · have h := cond_tt c4 h
    refine tr_seq ?_
    refine tr_region ?_
    refine tr1 rfl (s_assign (v := .d (.lit (.bool false))) (lt_of rfl) rfl rfl) ?_
    refine tr1 rfl (s_assign (v := .d (.lit (.int .i64 0))) (lt_of rfl) rfl rfl) ?_
    refine tr1 rfl (s_assign (v := .d (.lit (.int .i64 80))) (lt_of rfl) rfl rfl) ?_
    refine tr_nil ?_
    have h := Option.some.inj h
    subst h
    refine tr_ent (ent_free (ble_keep (l := [4, 5, 6]) ⟨rfl, rfl, rfl, trivial⟩)) ?_
    exact tr_ret ⟨rfl, _, .three _ _ _, rfl, rfl⟩
  · have h := cond_ff c4 h
    refine tr_skip ?_
    refine tr_seq ?_
    refine tr_seq ?_
    refine tr_region ?_
    refine tr1 rfl (s_loada_bp (lt_of rfl) rfl (i := 0) rfl agg_25 (es := (encApiProgram p_0)) rfl rfl) ?_
    refine tr1 rfl (s_move (v := .d (.sl 3 (order_1.map encApiSeat))) (lt_of rfl) rfl rfl) ?_
    obtain ⟨r5, h6, h⟩ := bind_some h
    refine tr1 rfl (s_call (lt_of rfl) (.func _ _ Try.call15) rfl rfl (BVs.refl _ _) (deuceref08_IsOrder_c _ _ h6) rfl) ?_
    refine tr1 rfl (s_not (lt_of rfl) rfl) ?_
    refine tr_nil ?_
    refine tr_if rfl (fun c7 => ?_) (fun c7 => ?_)
    · have h := cond_tt c7 h
      refine tr_seq ?_
      refine tr_region ?_
      refine tr1 rfl (s_assign (v := .d (.lit (.bool false))) (lt_of rfl) rfl rfl) ?_
      refine tr1 rfl (s_assign (v := .d (.lit (.int .i64 0))) (lt_of rfl) rfl rfl) ?_
      refine tr1 rfl (s_assign (v := .d (.lit (.int .i64 81))) (lt_of rfl) rfl rfl) ?_
      refine tr_nil ?_
      have h := Option.some.inj h
      subst h
      refine tr_ent (ent_free (ble_keep (l := [4, 5, 6]) ⟨rfl, rfl, rfl, trivial⟩)) ?_
      exact tr_ret ⟨rfl, _, .three _ _ _, rfl, rfl⟩
    · have h := cond_ff c7 h
      refine tr_skip ?_
      refine tr_seq ?_
      refine tr_region ?_
      refine tr1 rfl (s_loada_bp (lt_of rfl) rfl (i := 0) rfl agg_25 (es := (encApiProgram p_0)) rfl rfl) ?_
      refine tr1 rfl (s_move (v := .d (.sl 3 (order_1.map encApiSeat))) (lt_of rfl) rfl rfl) ?_
      obtain ⟨r8, h9, h⟩ := bind_some h
      refine tr1 rfl (s_call (lt_of rfl) (.func _ _ Try.call65) rfl rfl (BVs.refl _ _) (deuceref08_late_c _ _ h9) rfl) ?_
      refine tr1 rfl (s_assign (v := .d (.lit (.int .i64 r8))) (lt_of rfl) rfl rfl) ?_
      refine tr_nil ?_
      refine tr_seq ?_
      refine tr_region ?_
      refine tr1 rfl (s_move (v := .d (.lit (.int .i64 r8))) (lt_of rfl) rfl rfl) ?_
      refine tr1 rfl (s_cmp (lt_of rfl) rfl rfl rfl) ?_
      refine tr1 rfl (s_move (v := .d (.lit (.int .i64 r8))) (lt_of rfl) rfl rfl) ?_
      refine tr1 rfl (s_assign (v := .d (.lit (.bool ((decide (r8 < 0)))))) (lt_of rfl) rfl rfl) ?_
      refine tr1 rfl (s_assign (v := .d (.lit (.int .i64 r8))) (lt_of rfl) rfl rfl) ?_
      refine tr1 rfl (s_assign (v := .d (.lit (.int .i64 0))) (lt_of rfl) rfl rfl) ?_
      refine tr_nil ?_
      have h := Option.some.inj h
      subst h
      refine tr_ent (ent_free (ble_keep (l := [4, 5, 6]) ⟨rfl, rfl, rfl, trivial⟩)) ?_
      exact tr_ret ⟨rfl, _, .three _ _ _, rfl, rfl⟩

theorem deucelaw08_sameSpans_c (a_0 : List ApiSpan) (b_1 : List ApiSpan) {r : Bool} (h : deucelaw08_sameSpans a_0 b_1 = some r) : Fn Try.prog 28 [.d (.sl 2 (a_0.map encApiSpan)), .d (.sl 2 (b_1.map encApiSpan))] (.d (.lit (.bool r))) := by
  unfold deucelaw08_sameSpans at h
  refine Fn.of_tr Try.func28 rfl (rs := [.tmp 4]) Try.results28 Try.ntmps28 (Nat.le_of_ble_eq_true rfl) ?_
  refine tr_seq ?_
  refine tr_region ?_
  refine tr1 rfl (s_assign (v := .d (.lit (.bool false))) (lt_of rfl) rfl rfl) ?_
  refine tr_nil ?_
  refine tr_seq ?_
  refine tr_seq ?_
  refine tr_region ?_
  refine tr1 rfl (s_move (v := .d (.sl 2 (a_0.map encApiSpan))) (lt_of rfl) rfl rfl) ?_
  refine tr1 rfl (s_lenm (lt_of rfl) rfl sl_37.of) ?_
  refine tr1 rfl (s_move (v := .d (.sl 2 (b_1.map encApiSpan))) (lt_of rfl) rfl rfl) ?_
  refine tr1 rfl (s_lenm (lt_of rfl) rfl sl_37.of) ?_
  refine tr1 rfl (s_cmp (lt_of rfl) rfl rfl rfl) ?_
  refine tr_nil ?_
  refine tr_if rfl (fun c1 => ?_) (fun c1 => ?_)
  · have h := cond_tt c1 h
    refine tr_seq ?_
    refine tr_region ?_
    refine tr1 rfl (s_assign (v := .d (.lit (.bool false))) (lt_of rfl) rfl rfl) ?_
    refine tr_nil ?_
    have h := Option.some.inj h
    subst h
    exact tr_ret ⟨rfl, _, .one _, rfl, rfl⟩
  · have h := cond_ff c1 h
    refine tr_skip ?_
    refine tr_seq ?_
    refine tr_seq ?_
    refine tr_region ?_
    refine tr1 rfl (s_assign (v := .d (.lit (.int .i64 0))) (lt_of rfl) rfl rfl) ?_
    refine tr_nil ?_
    refine tr_blk ?_
    refine tr_loopk [0, 1] (fun (s2 : Int) => [(5, .d (.lit (.int .i64 s2)))]) (fun (s2 : Int) => []) (fun (k : Nat) (s2 : Int) => deucelaw08_sameSpans_L0 a_0 b_1 k s2) (fun _ => rfl) (0) h (ent_pick [] rfl rfl (le_upd rfl (le_keep ⟨rfl, rfl, trivial⟩))) ?_
    rintro k3 i_0_2 h
    simp only [deucelaw08_sameSpans_L0] at h
    refine tr_seq ?_
    refine tr_seq ?_
    refine tr_region ?_
    refine tr1 rfl (s_move (v := .d (.lit (.int .i64 i_0_2))) (lt_of rfl) rfl rfl) ?_
    refine tr1 rfl (s_move (v := .d (.sl 2 (a_0.map encApiSpan))) (lt_of rfl) rfl rfl) ?_
    refine tr1 rfl (s_lenm (lt_of rfl) rfl sl_37.of) ?_
    refine tr1 rfl (s_cmp (lt_of rfl) rfl rfl rfl) ?_
    refine tr_nil ?_
    refine tr_if rfl (fun c4 => ?_) (fun c4 => ?_)
    · have h := cond_tt c4 h
      refine tr_skip ?_
      refine tr_seq ?_
      refine tr_blk ?_
      refine tr_seq ?_
      obtain ⟨x5, h6, h⟩ := bind_some h
      obtain ⟨x7, h8, h⟩ := bind_some h
      refine tr_drawk mix 8 [0, 1, 5] [(20, .agg (encApiSpan x5)), (24, .agg (encApiSpan x7))] ?_ ?_
      · refine ⟨[(17, 0, .d (.sl 2 (a_0.map encApiSpan))), (18, 1, .d (.lit (.int .i64 i_0_2))), (19, 2, .cp [.lit (.int .i64 x5.Low), .lit (.int .i64 x5.High)]), (20, 3, .agg (encApiSpan x5)), (21, 4, .d (.sl 2 (b_1.map encApiSpan))), (22, 5, .d (.lit (.int .i64 i_0_2))), (23, 6, .cp [.lit (.int .i64 x7.Low), .lit (.int .i64 x7.High)]), (24, 7, .agg (encApiSpan x7))], ?_, ?_⟩
        · exact ⟨by kernel_rfl, by kernel_rfl, by kernel_rfl, by kernel_rfl, by kernel_rfl, [([], []), ([], []), ([0, 1], []), ([2], []), ([], []), ([], []), ([4, 5], []), ([6], [])], by kernel_rfl, ⟨fun S hS => g_fin rfl (g_op rfl (s_move (v := .d (.sl 2 (a_0.map encApiSpan))) (lt_of rfl) (ov_ev hS rfl) rfl)),
      fun S hS => g_fin rfl (g_op rfl (s_move (v := .d (.lit (.int .i64 i_0_2))) (lt_of rfl) (ov_ev hS rfl) rfl)),
      fun S hS => g_fin rfl (g_op rfl (s_index_sl (lt_of rfl) (ov_ev hS rfl) (ov_ev hS rfl) sl_37.of (idx_map encApiSpan h6))),
      fun S hS => g_fin rfl (g_op rfl (s_loada_cp (lt_of rfl) (ov_ev hS rfl) agg_34 (es := (encApiSpan x5)) rfl rfl)),
      fun S hS => g_fin rfl (g_op rfl (s_move (v := .d (.sl 2 (b_1.map encApiSpan))) (lt_of rfl) (ov_ev hS rfl) rfl)),
      fun S hS => g_fin rfl (g_op rfl (s_move (v := .d (.lit (.int .i64 i_0_2))) (lt_of rfl) (ov_ev hS rfl) rfl)),
      fun S hS => g_fin rfl (g_op rfl (s_index_sl (lt_of rfl) (ov_ev hS rfl) (ov_ev hS rfl) sl_37.of (idx_map encApiSpan h8))),
      fun S hS => g_fin rfl (g_op rfl (s_loada_cp (lt_of rfl) (ov_ev hS rfl) agg_34 (es := (encApiSpan x7)) rfl rfl)), trivial⟩⟩
        · exact ent_le (le_upd rfl (le_upd rfl (le_keep ⟨rfl, rfl, rfl, trivial⟩)))
      · refine tr1 rfl (s_nes (a := x5) (b := x7) (lt_of rfl) rfl rfl rfl rfl Try.eqGuardType34 eqt_34) ?_
        refine tr_nil ?_
        refine tr_if rfl (fun c9 => ?_) (fun c9 => ?_)
        · have h := cond_tt c9 h
          refine tr_seq ?_
          refine tr_region ?_
          refine tr1 rfl (s_assign (v := .d (.lit (.bool false))) (lt_of rfl) rfl rfl) ?_
          refine tr_nil ?_
          have h := Option.some.inj h
          subst h
          exact tr_ret ⟨rfl, _, .one _, rfl, rfl⟩
        · have h := cond_ff c9 h
          refine tr_skipb ?_
          refine tr_region ?_
          refine tr1 rfl (s_move (v := .d (.lit (.int .i64 i_0_2))) (lt_of rfl) rfl rfl) ?_
          refine tr1 rfl (s_arith (lt_of rfl) rfl rfl rfl) ?_
          refine tr1 rfl (s_assign (v := .d (.lit (.int .i64 ((w64 (i_0_2 + 1)))))) (lt_of rfl) rfl rfl) ?_
          refine tr_nil ?_
          exact ⟨(w64 (i_0_2 + 1)), h, ent_pick [] rfl rfl (le_upd rfl (le_keep ⟨rfl, rfl, trivial⟩))⟩
    · have h := cond_ff c4 h
      refine tr_exit ?_
      refine .inl ⟨rfl, ?_⟩
      simp only [deucelaw08_sameSpans_K0] at h
      refine tr_seq ?_
      refine tr_region ?_
      refine tr1 rfl (s_assign (v := .d (.lit (.bool true))) (lt_of rfl) rfl rfl) ?_
      refine tr_nil ?_
      have h := Option.some.inj h
      subst h
      exact tr_ret ⟨rfl, _, .one _, rfl, rfl⟩

theorem deucelaw08_sameInts_c (a_0 : List Int) (b_1 : List Int) {r : Bool} (h : deucelaw08_sameInts a_0 b_1 = some r) : Fn Try.prog 66 [.d (.sl 1 (a_0.map encI)), .d (.sl 1 (b_1.map encI))] (.d (.lit (.bool r))) := by
  unfold deucelaw08_sameInts at h
  refine Fn.of_tr Try.func66 rfl (rs := [.tmp 4]) Try.results66 Try.ntmps66 (Nat.le_of_ble_eq_true rfl) ?_
  refine tr_seq ?_
  refine tr_region ?_
  refine tr1 rfl (s_assign (v := .d (.lit (.bool false))) (lt_of rfl) rfl rfl) ?_
  refine tr_nil ?_
  refine tr_seq ?_
  refine tr_seq ?_
  refine tr_region ?_
  refine tr1 rfl (s_move (v := .d (.sl 1 (a_0.map encI))) (lt_of rfl) rfl rfl) ?_
  refine tr1 rfl (s_lenm (lt_of rfl) rfl sl_27.of) ?_
  refine tr1 rfl (s_move (v := .d (.sl 1 (b_1.map encI))) (lt_of rfl) rfl rfl) ?_
  refine tr1 rfl (s_lenm (lt_of rfl) rfl sl_27.of) ?_
  refine tr1 rfl (s_cmp (lt_of rfl) rfl rfl rfl) ?_
  refine tr_nil ?_
  refine tr_if rfl (fun c1 => ?_) (fun c1 => ?_)
  · have h := cond_tt c1 h
    refine tr_seq ?_
    refine tr_region ?_
    refine tr1 rfl (s_assign (v := .d (.lit (.bool false))) (lt_of rfl) rfl rfl) ?_
    refine tr_nil ?_
    have h := Option.some.inj h
    subst h
    exact tr_ret ⟨rfl, _, .one _, rfl, rfl⟩
  · have h := cond_ff c1 h
    refine tr_skip ?_
    refine tr_seq ?_
    refine tr_seq ?_
    refine tr_region ?_
    refine tr1 rfl (s_assign (v := .d (.lit (.int .i64 0))) (lt_of rfl) rfl rfl) ?_
    refine tr_nil ?_
    refine tr_blk ?_
    refine tr_loopk [0, 1] (fun (s2 : Int) => [(5, .d (.lit (.int .i64 s2)))]) (fun (s2 : Int) => []) (fun (k : Nat) (s2 : Int) => deucelaw08_sameInts_L0 a_0 b_1 k s2) (fun _ => rfl) (0) h (ent_pick [] rfl rfl (le_upd rfl (le_keep ⟨rfl, rfl, trivial⟩))) ?_
    rintro k3 i_0_2 h
    simp only [deucelaw08_sameInts_L0] at h
    refine tr_seq ?_
    refine tr_seq ?_
    refine tr_region ?_
    refine tr1 rfl (s_move (v := .d (.lit (.int .i64 i_0_2))) (lt_of rfl) rfl rfl) ?_
    refine tr1 rfl (s_move (v := .d (.sl 1 (a_0.map encI))) (lt_of rfl) rfl rfl) ?_
    refine tr1 rfl (s_lenm (lt_of rfl) rfl sl_27.of) ?_
    refine tr1 rfl (s_cmp (lt_of rfl) rfl rfl rfl) ?_
    refine tr_nil ?_
    refine tr_if rfl (fun c4 => ?_) (fun c4 => ?_)
    · have h := cond_tt c4 h
      refine tr_skip ?_
      refine tr_seq ?_
      refine tr_blk ?_
      refine tr_seq ?_
      obtain ⟨x5, h6, h⟩ := bind_some h
      obtain ⟨x7, h8, h⟩ := bind_some h
      refine tr_drawk mix 8 [0, 1, 5] [(20, .d (.lit (.int .i64 x5))), (24, .d (.lit (.int .i64 x7)))] ?_ ?_
      · refine ⟨[(17, 0, .d (.sl 1 (a_0.map encI))), (18, 1, .d (.lit (.int .i64 i_0_2))), (19, 2, .cp [.lit (.int .i64 x5)]), (20, 3, .d (.lit (.int .i64 x5))), (21, 4, .d (.sl 1 (b_1.map encI))), (22, 5, .d (.lit (.int .i64 i_0_2))), (23, 6, .cp [.lit (.int .i64 x7)]), (24, 7, .d (.lit (.int .i64 x7)))], ?_, ?_⟩
        · exact ⟨by kernel_rfl, by kernel_rfl, by kernel_rfl, by kernel_rfl, by kernel_rfl, [([], []), ([], []), ([0, 1], []), ([2], []), ([], []), ([], []), ([4, 5], []), ([6], [])], by kernel_rfl, ⟨fun S hS => g_fin rfl (g_op rfl (s_move (v := .d (.sl 1 (a_0.map encI))) (lt_of rfl) (ov_ev hS rfl) rfl)),
      fun S hS => g_fin rfl (g_op rfl (s_move (v := .d (.lit (.int .i64 i_0_2))) (lt_of rfl) (ov_ev hS rfl) rfl)),
      fun S hS => g_fin rfl (g_op rfl (s_index_sl (lt_of rfl) (ov_ev hS rfl) (ov_ev hS rfl) sl_27.of (idx_map encI h6))),
      fun S hS => g_fin rfl (g_op rfl (s_load_cp (lt_of rfl) (ov_ev hS rfl) one_3)),
      fun S hS => g_fin rfl (g_op rfl (s_move (v := .d (.sl 1 (b_1.map encI))) (lt_of rfl) (ov_ev hS rfl) rfl)),
      fun S hS => g_fin rfl (g_op rfl (s_move (v := .d (.lit (.int .i64 i_0_2))) (lt_of rfl) (ov_ev hS rfl) rfl)),
      fun S hS => g_fin rfl (g_op rfl (s_index_sl (lt_of rfl) (ov_ev hS rfl) (ov_ev hS rfl) sl_27.of (idx_map encI h8))),
      fun S hS => g_fin rfl (g_op rfl (s_load_cp (lt_of rfl) (ov_ev hS rfl) one_3)), trivial⟩⟩
        · exact ent_le (le_upd rfl (le_upd rfl (le_keep ⟨rfl, rfl, rfl, trivial⟩)))
      · refine tr1 rfl (s_cmp (lt_of rfl) rfl rfl rfl) ?_
        refine tr_nil ?_
        refine tr_if rfl (fun c9 => ?_) (fun c9 => ?_)
        · have h := cond_tt c9 h
          refine tr_seq ?_
          refine tr_region ?_
          refine tr1 rfl (s_assign (v := .d (.lit (.bool false))) (lt_of rfl) rfl rfl) ?_
          refine tr_nil ?_
          have h := Option.some.inj h
          subst h
          exact tr_ret ⟨rfl, _, .one _, rfl, rfl⟩
        · have h := cond_ff c9 h
          refine tr_skipb ?_
          refine tr_region ?_
          refine tr1 rfl (s_move (v := .d (.lit (.int .i64 i_0_2))) (lt_of rfl) rfl rfl) ?_
          refine tr1 rfl (s_arith (lt_of rfl) rfl rfl rfl) ?_
          refine tr1 rfl (s_assign (v := .d (.lit (.int .i64 ((w64 (i_0_2 + 1)))))) (lt_of rfl) rfl rfl) ?_
          refine tr_nil ?_
          exact ⟨(w64 (i_0_2 + 1)), h, ent_pick [] rfl rfl (le_upd rfl (le_keep ⟨rfl, rfl, trivial⟩))⟩
    · have h := cond_ff c4 h
      refine tr_exit ?_
      refine .inl ⟨rfl, ?_⟩
      simp only [deucelaw08_sameInts_K0] at h
      refine tr_seq ?_
      refine tr_region ?_
      refine tr1 rfl (s_assign (v := .d (.lit (.bool true))) (lt_of rfl) rfl rfl) ?_
      refine tr_nil ?_
      have h := Option.some.inj h
      subst h
      exact tr_ret ⟨rfl, _, .one _, rfl, rfl⟩

theorem deucelaw08_sameJobs_c (a_0 : List ApiJob) (b_1 : List ApiJob) {r : Bool} (h : deucelaw08_sameJobs a_0 b_1 = some r) : Fn Try.prog 29 [.d (.sl 6 (a_0.map encApiJob)), .d (.sl 6 (b_1.map encApiJob))] (.d (.lit (.bool r))) := by
  unfold deucelaw08_sameJobs at h
  refine Fn.of_tr Try.func29 rfl (rs := [.tmp 4]) Try.results29 Try.ntmps29 (Nat.le_of_ble_eq_true rfl) ?_
  refine tr_seq ?_
  refine tr_region ?_
  refine tr1 rfl (s_assign (v := .d (.lit (.bool false))) (lt_of rfl) rfl rfl) ?_
  refine tr_nil ?_
  refine tr_seq ?_
  refine tr_seq ?_
  refine tr_region ?_
  refine tr1 rfl (s_move (v := .d (.sl 6 (a_0.map encApiJob))) (lt_of rfl) rfl rfl) ?_
  refine tr1 rfl (s_lenm (lt_of rfl) rfl sl_23.of) ?_
  refine tr1 rfl (s_move (v := .d (.sl 6 (b_1.map encApiJob))) (lt_of rfl) rfl rfl) ?_
  refine tr1 rfl (s_lenm (lt_of rfl) rfl sl_23.of) ?_
  refine tr1 rfl (s_cmp (lt_of rfl) rfl rfl rfl) ?_
  refine tr_nil ?_
  refine tr_if rfl (fun c1 => ?_) (fun c1 => ?_)
  · have h := cond_tt c1 h
    refine tr_seq ?_
    refine tr_region ?_
    refine tr1 rfl (s_assign (v := .d (.lit (.bool false))) (lt_of rfl) rfl rfl) ?_
    refine tr_nil ?_
    have h := Option.some.inj h
    subst h
    exact tr_ret ⟨rfl, _, .one _, rfl, rfl⟩
  · have h := cond_ff c1 h
    refine tr_skip ?_
    refine tr_seq ?_
    refine tr_seq ?_
    refine tr_region ?_
    refine tr1 rfl (s_assign (v := .d (.lit (.int .i64 0))) (lt_of rfl) rfl rfl) ?_
    refine tr_nil ?_
    refine tr_blk ?_
    refine tr_loopk [0, 1] (fun (s2 : Int) => [(5, .d (.lit (.int .i64 s2)))]) (fun (s2 : Int) => []) (fun (k : Nat) (s2 : Int) => deucelaw08_sameJobs_L0 a_0 b_1 k s2) (fun _ => rfl) (0) h (ent_pick [] rfl rfl (le_upd rfl (le_keep ⟨rfl, rfl, trivial⟩))) ?_
    rintro k3 i_0_2 h
    simp only [deucelaw08_sameJobs_L0] at h
    refine tr_seq ?_
    refine tr_seq ?_
    refine tr_region ?_
    refine tr1 rfl (s_move (v := .d (.lit (.int .i64 i_0_2))) (lt_of rfl) rfl rfl) ?_
    refine tr1 rfl (s_move (v := .d (.sl 6 (a_0.map encApiJob))) (lt_of rfl) rfl rfl) ?_
    refine tr1 rfl (s_lenm (lt_of rfl) rfl sl_23.of) ?_
    refine tr1 rfl (s_cmp (lt_of rfl) rfl rfl rfl) ?_
    refine tr_nil ?_
    refine tr_if rfl (fun c4 => ?_) (fun c4 => ?_)
    · have h := cond_tt c4 h
      refine tr_skip ?_
      refine tr_seq ?_
      refine tr_blk ?_
      refine tr_seq ?_
      obtain ⟨x5, h6, h⟩ := bind_some h
      obtain ⟨x7, h8, h⟩ := bind_some h
      obtain ⟨b9, h10, h⟩ := bind_some h
      obtain ⟨b18, h19, h⟩ := bind_some h
      obtain ⟨b27, h28, h⟩ := bind_some h
      obtain ⟨b34, h35, h⟩ := bind_some h
      refine tr_drawk mix 65 [0, 1, 5] [(81, .d (.lit (.bool b34)))] ?_ ?_
      · refine bool_cases (!decide (x5.Length = x7.Length)) (fun c11 => ?_) (fun c11 => ?_)
        · have h10 := cond_tt c11 h10
          have h10 := Option.some.inj h10
          subst h10
          have c20 : true = true := rfl
          have h19 := cond_tt c20 h19
          have h19 := Option.some.inj h19
          subst h19
          have c29 : true = true := rfl
          have h28 := cond_tt c29 h28
          have h28 := Option.some.inj h28
          subst h28
          have c36 : true = true := rfl
          have h35 := cond_tt c36 h35
          have h35 := Option.some.inj h35
          subst h35
          refine ⟨[(17, 0, .d (.sl 6 (a_0.map encApiJob))), (18, 1, .d (.lit (.int .i64 i_0_2))), (19, 2, .cp [.lit (.int .i64 x5.Length.Low), .lit (.int .i64 x5.Length.High), .sl 1 (x5.After.map encI), .sl 1 (x5.With.map encI), .lit (.int .i64 x5.Due), .lit (.int .i64 x5.Earliest)]), (20, 3, .cp [.lit (.int .i64 x5.Length.Low), .lit (.int .i64 x5.Length.High)]), (21, 4, .agg (encApiSpan x5.Length)), (22, 5, .d (.sl 6 (b_1.map encApiJob))), (23, 6, .d (.lit (.int .i64 i_0_2))), (24, 7, .cp [.lit (.int .i64 x7.Length.Low), .lit (.int .i64 x7.Length.High), .sl 1 (x7.After.map encI), .sl 1 (x7.With.map encI), .lit (.int .i64 x7.Due), .lit (.int .i64 x7.Earliest)]), (25, 8, .cp [.lit (.int .i64 x7.Length.Low), .lit (.int .i64 x7.Length.High)]), (26, 9, .agg (encApiSpan x7.Length)), (27, 10, .d (.lit (.bool ((!decide (x5.Length = x7.Length)))))), (28, 11, .d (.lit (.bool ((!decide (x5.Length = x7.Length)))))), (29, 12, .tup []), (30, 13, .tup []), (31, 14, .tup []), (32, 15, .tup []), (33, 16, .tup []), (34, 17, .tup []), (35, 18, .tup []), (36, 19, .tup []), (37, 20, .tup []), (38, 21, .tup []), (39, 22, .tup []), (40, 23, .tup []), (41, 24, .d (.lit (.bool true))), (42, 25, .d (.lit (.bool (true)))), (43, 26, .tup []), (44, 27, .tup []), (45, 28, .tup []), (46, 29, .tup []), (47, 30, .tup []), (48, 31, .tup []), (49, 32, .tup []), (50, 33, .tup []), (51, 34, .tup []), (52, 35, .tup []), (53, 36, .tup []), (54, 37, .tup []), (55, 38, .d (.lit (.bool true))), (56, 39, .d (.lit (.bool (true)))), (57, 40, .tup []), (58, 41, .tup []), (59, 42, .tup []), (60, 43, .tup []), (61, 44, .tup []), (62, 45, .tup []), (63, 46, .tup []), (64, 47, .tup []), (65, 48, .tup []), (66, 49, .tup []), (67, 50, .tup []), (68, 51, .d (.lit (.bool true))), (69, 52, .d (.lit (.bool (true)))), (70, 53, .tup []), (71, 54, .tup []), (72, 55, .tup []), (73, 56, .tup []), (74, 57, .tup []), (75, 58, .tup []), (76, 59, .tup []), (77, 60, .tup []), (78, 61, .tup []), (79, 62, .tup []), (80, 63, .tup []), (81, 64, .d (.lit (.bool true)))], ?_, ?_⟩
          · exact ⟨by kernel_rfl, by kernel_rfl, by kernel_rfl, by kernel_rfl, by kernel_rfl, [([], []), ([], []), ([0, 1], []), ([2], []), ([3], []), ([], []), ([], []), ([5, 6], []), ([7], []), ([8], []), ([4, 9], []), ([10], []), ([11], []), ([11], []), ([11, 12, 13], []), ([11, 14], []), ([11, 15], []), ([11], []), ([11], []), ([11, 17, 18], []), ([11, 19], []), ([11, 20], []), ([11, 16, 21], []), ([11, 22], []), ([11, 23], []), ([24], []), ([25], []), ([25], []), ([25, 26, 27], []), ([25, 28], []), ([25, 29], []), ([25], []), ([25], []), ([25, 31, 32], []), ([25, 33], []), ([25, 34], []), ([25, 30, 35], []), ([25, 36], []), ([25, 37], []), ([38], []), ([39], []), ([39], []), ([39, 40, 41], []), ([39, 42], []), ([39, 43], []), ([39], []), ([39], []), ([39, 45, 46], []), ([39, 47], []), ([39, 48], []), ([39, 44, 49], []), ([39, 50], []), ([51], []), ([52], []), ([52], []), ([52, 53, 54], []), ([52, 55], []), ([52, 56], []), ([52], []), ([52], []), ([52, 58, 59], []), ([52, 60], []), ([52, 61], []), ([52, 57, 62], []), ([52, 63], [])], by kernel_rfl, ⟨fun S hS => g_fin rfl (g_op rfl (s_move (v := .d (.sl 6 (a_0.map encApiJob))) (lt_of rfl) (ov_ev hS rfl) rfl)),
      fun S hS => g_fin rfl (g_op rfl (s_move (v := .d (.lit (.int .i64 i_0_2))) (lt_of rfl) (ov_ev hS rfl) rfl)),
      fun S hS => g_fin rfl (g_op rfl (s_index_sl (lt_of rfl) (ov_ev hS rfl) (ov_ev hS rfl) sl_23.of (idx_map encApiJob h6))),
      fun S hS => g_fin rfl (g_op rfl (s_field_cp (lt_of rfl) (ov_ev hS rfl) fld_36_0 (es := [.lit (.int .i64 x5.Length.Low), .lit (.int .i64 x5.Length.High)]) rfl)),
      fun S hS => g_fin rfl (g_op rfl (s_loada_cp (lt_of rfl) (ov_ev hS rfl) agg_34 (es := (encApiSpan x5.Length)) rfl rfl)),
      fun S hS => g_fin rfl (g_op rfl (s_move (v := .d (.sl 6 (b_1.map encApiJob))) (lt_of rfl) (ov_ev hS rfl) rfl)),
      fun S hS => g_fin rfl (g_op rfl (s_move (v := .d (.lit (.int .i64 i_0_2))) (lt_of rfl) (ov_ev hS rfl) rfl)),
      fun S hS => g_fin rfl (g_op rfl (s_index_sl (lt_of rfl) (ov_ev hS rfl) (ov_ev hS rfl) sl_23.of (idx_map encApiJob h8))),
      fun S hS => g_fin rfl (g_op rfl (s_field_cp (lt_of rfl) (ov_ev hS rfl) fld_36_0 (es := [.lit (.int .i64 x7.Length.Low), .lit (.int .i64 x7.Length.High)]) rfl)),
      fun S hS => g_fin rfl (g_op rfl (s_loada_cp (lt_of rfl) (ov_ev hS rfl) agg_34 (es := (encApiSpan x7.Length)) rfl rfl)),
      fun S hS => g_fin rfl (g_op rfl (s_nes (a := x5.Length) (b := x7.Length) (lt_of rfl) (ov_ev hS rfl) (ov_ev hS rfl) rfl rfl Try.eqGuardType34 eqt_34)),
      fun S hS => g_fin rfl (g_op rfl (s_move (v := .d (.lit (.bool ((!decide (x5.Length = x7.Length)))))) (lt_of rfl) (ov_ev hS rfl) rfl)),
      fun S hS => g_fin rfl (g_pass rfl rfl (lt_of rfl) rfl (lt_of rfl) (ov_en hS rfl) c11),
      fun S hS => g_fin rfl (g_pass rfl rfl (lt_of rfl) rfl (lt_of rfl) (ov_en hS rfl) c11),
      fun S hS => g_fin rfl (g_pass rfl rfl (lt_of rfl) rfl (lt_of rfl) (ov_en hS rfl) c11),
      fun S hS => g_fin rfl (g_pass rfl rfl (lt_of rfl) rfl (lt_of rfl) (ov_en hS rfl) c11),
      fun S hS => g_fin rfl (g_pass rfl rfl (lt_of rfl) rfl (lt_of rfl) (ov_en hS rfl) c11),
      fun S hS => g_fin rfl (g_pass rfl rfl (lt_of rfl) rfl (lt_of rfl) (ov_en hS rfl) c11),
      fun S hS => g_fin rfl (g_pass rfl rfl (lt_of rfl) rfl (lt_of rfl) (ov_en hS rfl) c11),
      fun S hS => g_fin rfl (g_pass rfl rfl (lt_of rfl) rfl (lt_of rfl) (ov_en hS rfl) c11),
      fun S hS => g_fin rfl (g_pass rfl rfl (lt_of rfl) rfl (lt_of rfl) (ov_en hS rfl) c11),
      fun S hS => g_fin rfl (g_pass rfl rfl (lt_of rfl) rfl (lt_of rfl) (ov_en hS rfl) c11),
      fun S hS => g_fin rfl (g_pass rfl rfl (lt_of rfl) rfl (lt_of rfl) (ov_en hS rfl) c11),
      fun S hS => g_fin rfl (g_pass rfl rfl (lt_of rfl) rfl (lt_of rfl) (ov_en hS rfl) c11),
      fun S hS => g_fin rfl (g_op rfl (s_pick_t (v := .d (.lit (.bool true))) (lt_of rfl) (ov_ev hS rfl) c11 rfl rfl)),
      fun S hS => g_fin rfl (g_op rfl (s_move (v := .d (.lit (.bool (true)))) (lt_of rfl) (ov_ev hS rfl) rfl)),
      fun S hS => g_fin rfl (g_pass rfl rfl (lt_of rfl) rfl (lt_of rfl) (ov_en hS rfl) c20),
      fun S hS => g_fin rfl (g_pass rfl rfl (lt_of rfl) rfl (lt_of rfl) (ov_en hS rfl) c20),
      fun S hS => g_fin rfl (g_pass rfl rfl (lt_of rfl) rfl (lt_of rfl) (ov_en hS rfl) c20),
      fun S hS => g_fin rfl (g_pass rfl rfl (lt_of rfl) rfl (lt_of rfl) (ov_en hS rfl) c20),
      fun S hS => g_fin rfl (g_pass rfl rfl (lt_of rfl) rfl (lt_of rfl) (ov_en hS rfl) c20),
      fun S hS => g_fin rfl (g_pass rfl rfl (lt_of rfl) rfl (lt_of rfl) (ov_en hS rfl) c20),
      fun S hS => g_fin rfl (g_pass rfl rfl (lt_of rfl) rfl (lt_of rfl) (ov_en hS rfl) c20),
      fun S hS => g_fin rfl (g_pass rfl rfl (lt_of rfl) rfl (lt_of rfl) (ov_en hS rfl) c20),
      fun S hS => g_fin rfl (g_pass rfl rfl (lt_of rfl) rfl (lt_of rfl) (ov_en hS rfl) c20),
      fun S hS => g_fin rfl (g_pass rfl rfl (lt_of rfl) rfl (lt_of rfl) (ov_en hS rfl) c20),
      fun S hS => g_fin rfl (g_pass rfl rfl (lt_of rfl) rfl (lt_of rfl) (ov_en hS rfl) c20),
      fun S hS => g_fin rfl (g_pass rfl rfl (lt_of rfl) rfl (lt_of rfl) (ov_en hS rfl) c20),
      fun S hS => g_fin rfl (g_op rfl (s_pick_t (v := .d (.lit (.bool true))) (lt_of rfl) (ov_ev hS rfl) c20 rfl rfl)),
      fun S hS => g_fin rfl (g_op rfl (s_move (v := .d (.lit (.bool (true)))) (lt_of rfl) (ov_ev hS rfl) rfl)),
      fun S hS => g_fin rfl (g_pass rfl rfl (lt_of rfl) rfl (lt_of rfl) (ov_en hS rfl) c29),
      fun S hS => g_fin rfl (g_pass rfl rfl (lt_of rfl) rfl (lt_of rfl) (ov_en hS rfl) c29),
      fun S hS => g_fin rfl (g_pass rfl rfl (lt_of rfl) rfl (lt_of rfl) (ov_en hS rfl) c29),
      fun S hS => g_fin rfl (g_pass rfl rfl (lt_of rfl) rfl (lt_of rfl) (ov_en hS rfl) c29),
      fun S hS => g_fin rfl (g_pass rfl rfl (lt_of rfl) rfl (lt_of rfl) (ov_en hS rfl) c29),
      fun S hS => g_fin rfl (g_pass rfl rfl (lt_of rfl) rfl (lt_of rfl) (ov_en hS rfl) c29),
      fun S hS => g_fin rfl (g_pass rfl rfl (lt_of rfl) rfl (lt_of rfl) (ov_en hS rfl) c29),
      fun S hS => g_fin rfl (g_pass rfl rfl (lt_of rfl) rfl (lt_of rfl) (ov_en hS rfl) c29),
      fun S hS => g_fin rfl (g_pass rfl rfl (lt_of rfl) rfl (lt_of rfl) (ov_en hS rfl) c29),
      fun S hS => g_fin rfl (g_pass rfl rfl (lt_of rfl) rfl (lt_of rfl) (ov_en hS rfl) c29),
      fun S hS => g_fin rfl (g_pass rfl rfl (lt_of rfl) rfl (lt_of rfl) (ov_en hS rfl) c29),
      fun S hS => g_fin rfl (g_op rfl (s_pick_t (v := .d (.lit (.bool true))) (lt_of rfl) (ov_ev hS rfl) c29 rfl rfl)),
      fun S hS => g_fin rfl (g_op rfl (s_move (v := .d (.lit (.bool (true)))) (lt_of rfl) (ov_ev hS rfl) rfl)),
      fun S hS => g_fin rfl (g_pass rfl rfl (lt_of rfl) rfl (lt_of rfl) (ov_en hS rfl) c36),
      fun S hS => g_fin rfl (g_pass rfl rfl (lt_of rfl) rfl (lt_of rfl) (ov_en hS rfl) c36),
      fun S hS => g_fin rfl (g_pass rfl rfl (lt_of rfl) rfl (lt_of rfl) (ov_en hS rfl) c36),
      fun S hS => g_fin rfl (g_pass rfl rfl (lt_of rfl) rfl (lt_of rfl) (ov_en hS rfl) c36),
      fun S hS => g_fin rfl (g_pass rfl rfl (lt_of rfl) rfl (lt_of rfl) (ov_en hS rfl) c36),
      fun S hS => g_fin rfl (g_pass rfl rfl (lt_of rfl) rfl (lt_of rfl) (ov_en hS rfl) c36),
      fun S hS => g_fin rfl (g_pass rfl rfl (lt_of rfl) rfl (lt_of rfl) (ov_en hS rfl) c36),
      fun S hS => g_fin rfl (g_pass rfl rfl (lt_of rfl) rfl (lt_of rfl) (ov_en hS rfl) c36),
      fun S hS => g_fin rfl (g_pass rfl rfl (lt_of rfl) rfl (lt_of rfl) (ov_en hS rfl) c36),
      fun S hS => g_fin rfl (g_pass rfl rfl (lt_of rfl) rfl (lt_of rfl) (ov_en hS rfl) c36),
      fun S hS => g_fin rfl (g_pass rfl rfl (lt_of rfl) rfl (lt_of rfl) (ov_en hS rfl) c36),
      fun S hS => g_fin rfl (g_op rfl (s_pick_t (v := .d (.lit (.bool true))) (lt_of rfl) (ov_ev hS rfl) c36 rfl rfl)), trivial⟩⟩
          · exact ent_le (le_upd rfl (le_keep ⟨rfl, rfl, rfl, trivial⟩))
        · have h10 := cond_ff c11 h10
          obtain ⟨x12, h13, h10⟩ := bind_some h10
          obtain ⟨x14, h15, h10⟩ := bind_some h10
          obtain ⟨r16, h17, h10⟩ := bind_some h10
          have h10 := Option.some.inj h10
          subst h10
          refine bool_cases (!r16) (fun c20 => ?_) (fun c20 => ?_)
          · have h19 := cond_tt c20 h19
            have h19 := Option.some.inj h19
            subst h19
            have c29 : true = true := rfl
            have h28 := cond_tt c29 h28
            have h28 := Option.some.inj h28
            subst h28
            have c36 : true = true := rfl
            have h35 := cond_tt c36 h35
            have h35 := Option.some.inj h35
            subst h35
            refine ⟨[(17, 0, .d (.sl 6 (a_0.map encApiJob))), (18, 1, .d (.lit (.int .i64 i_0_2))), (19, 2, .cp [.lit (.int .i64 x5.Length.Low), .lit (.int .i64 x5.Length.High), .sl 1 (x5.After.map encI), .sl 1 (x5.With.map encI), .lit (.int .i64 x5.Due), .lit (.int .i64 x5.Earliest)]), (20, 3, .cp [.lit (.int .i64 x5.Length.Low), .lit (.int .i64 x5.Length.High)]), (21, 4, .agg (encApiSpan x5.Length)), (22, 5, .d (.sl 6 (b_1.map encApiJob))), (23, 6, .d (.lit (.int .i64 i_0_2))), (24, 7, .cp [.lit (.int .i64 x7.Length.Low), .lit (.int .i64 x7.Length.High), .sl 1 (x7.After.map encI), .sl 1 (x7.With.map encI), .lit (.int .i64 x7.Due), .lit (.int .i64 x7.Earliest)]), (25, 8, .cp [.lit (.int .i64 x7.Length.Low), .lit (.int .i64 x7.Length.High)]), (26, 9, .agg (encApiSpan x7.Length)), (27, 10, .d (.lit (.bool ((!decide (x5.Length = x7.Length)))))), (28, 11, .d (.lit (.bool ((!decide (x5.Length = x7.Length)))))), (29, 12, .d (.sl 6 (a_0.map encApiJob))), (30, 13, .d (.lit (.int .i64 i_0_2))), (31, 14, .cp [.lit (.int .i64 x12.Length.Low), .lit (.int .i64 x12.Length.High), .sl 1 (x12.After.map encI), .sl 1 (x12.With.map encI), .lit (.int .i64 x12.Due), .lit (.int .i64 x12.Earliest)]), (32, 15, .cp [.sl 1 (x12.After.map encI)]), (33, 16, .d (.sl 1 (x12.After.map encI))), (34, 17, .d (.sl 6 (b_1.map encApiJob))), (35, 18, .d (.lit (.int .i64 i_0_2))), (36, 19, .cp [.lit (.int .i64 x14.Length.Low), .lit (.int .i64 x14.Length.High), .sl 1 (x14.After.map encI), .sl 1 (x14.With.map encI), .lit (.int .i64 x14.Due), .lit (.int .i64 x14.Earliest)]), (37, 20, .cp [.sl 1 (x14.After.map encI)]), (38, 21, .d (.sl 1 (x14.After.map encI))), (39, 22, .d (.lit (.bool r16))), (40, 23, .d (.lit (.bool (!r16)))), (41, 24, .d (.lit (.bool (!r16)))), (42, 25, .d (.lit (.bool (!r16)))), (43, 26, .tup []), (44, 27, .tup []), (45, 28, .tup []), (46, 29, .tup []), (47, 30, .tup []), (48, 31, .tup []), (49, 32, .tup []), (50, 33, .tup []), (51, 34, .tup []), (52, 35, .tup []), (53, 36, .tup []), (54, 37, .tup []), (55, 38, .d (.lit (.bool true))), (56, 39, .d (.lit (.bool (true)))), (57, 40, .tup []), (58, 41, .tup []), (59, 42, .tup []), (60, 43, .tup []), (61, 44, .tup []), (62, 45, .tup []), (63, 46, .tup []), (64, 47, .tup []), (65, 48, .tup []), (66, 49, .tup []), (67, 50, .tup []), (68, 51, .d (.lit (.bool true))), (69, 52, .d (.lit (.bool (true)))), (70, 53, .tup []), (71, 54, .tup []), (72, 55, .tup []), (73, 56, .tup []), (74, 57, .tup []), (75, 58, .tup []), (76, 59, .tup []), (77, 60, .tup []), (78, 61, .tup []), (79, 62, .tup []), (80, 63, .tup []), (81, 64, .d (.lit (.bool true)))], ?_, ?_⟩
            · exact ⟨by kernel_rfl, by kernel_rfl, by kernel_rfl, by kernel_rfl, by kernel_rfl, [([], []), ([], []), ([0, 1], []), ([2], []), ([3], []), ([], []), ([], []), ([5, 6], []), ([7], []), ([8], []), ([4, 9], []), ([10], []), ([11], []), ([11], []), ([11, 12, 13], []), ([11, 14], []), ([11, 15], []), ([11], []), ([11], []), ([11, 17, 18], []), ([11, 19], []), ([11, 20], []), ([11, 16, 21], []), ([11, 22], []), ([11, 23], []), ([24], []), ([25], []), ([25], []), ([25, 26, 27], []), ([25, 28], []), ([25, 29], []), ([25], []), ([25], []), ([25, 31, 32], []), ([25, 33], []), ([25, 34], []), ([25, 30, 35], []), ([25, 36], []), ([25, 37], []), ([38], []), ([39], []), ([39], []), ([39, 40, 41], []), ([39, 42], []), ([39, 43], []), ([39], []), ([39], []), ([39, 45, 46], []), ([39, 47], []), ([39, 48], []), ([39, 44, 49], []), ([39, 50], []), ([51], []), ([52], []), ([52], []), ([52, 53, 54], []), ([52, 55], []), ([52, 56], []), ([52], []), ([52], []), ([52, 58, 59], []), ([52, 60], []), ([52, 61], []), ([52, 57, 62], []), ([52, 63], [])], by kernel_rfl, ⟨fun S hS => g_fin rfl (g_op rfl (s_move (v := .d (.sl 6 (a_0.map encApiJob))) (lt_of rfl) (ov_ev hS rfl) rfl)),
      fun S hS => g_fin rfl (g_op rfl (s_move (v := .d (.lit (.int .i64 i_0_2))) (lt_of rfl) (ov_ev hS rfl) rfl)),
      fun S hS => g_fin rfl (g_op rfl (s_index_sl (lt_of rfl) (ov_ev hS rfl) (ov_ev hS rfl) sl_23.of (idx_map encApiJob h6))),
      fun S hS => g_fin rfl (g_op rfl (s_field_cp (lt_of rfl) (ov_ev hS rfl) fld_36_0 (es := [.lit (.int .i64 x5.Length.Low), .lit (.int .i64 x5.Length.High)]) rfl)),
      fun S hS => g_fin rfl (g_op rfl (s_loada_cp (lt_of rfl) (ov_ev hS rfl) agg_34 (es := (encApiSpan x5.Length)) rfl rfl)),
      fun S hS => g_fin rfl (g_op rfl (s_move (v := .d (.sl 6 (b_1.map encApiJob))) (lt_of rfl) (ov_ev hS rfl) rfl)),
      fun S hS => g_fin rfl (g_op rfl (s_move (v := .d (.lit (.int .i64 i_0_2))) (lt_of rfl) (ov_ev hS rfl) rfl)),
      fun S hS => g_fin rfl (g_op rfl (s_index_sl (lt_of rfl) (ov_ev hS rfl) (ov_ev hS rfl) sl_23.of (idx_map encApiJob h8))),
      fun S hS => g_fin rfl (g_op rfl (s_field_cp (lt_of rfl) (ov_ev hS rfl) fld_36_0 (es := [.lit (.int .i64 x7.Length.Low), .lit (.int .i64 x7.Length.High)]) rfl)),
      fun S hS => g_fin rfl (g_op rfl (s_loada_cp (lt_of rfl) (ov_ev hS rfl) agg_34 (es := (encApiSpan x7.Length)) rfl rfl)),
      fun S hS => g_fin rfl (g_op rfl (s_nes (a := x5.Length) (b := x7.Length) (lt_of rfl) (ov_ev hS rfl) (ov_ev hS rfl) rfl rfl Try.eqGuardType34 eqt_34)),
      fun S hS => g_fin rfl (g_op rfl (s_move (v := .d (.lit (.bool ((!decide (x5.Length = x7.Length)))))) (lt_of rfl) (ov_ev hS rfl) rfl)),
      fun S hS => g_fin rfl (g_take rfl rfl (lt_of rfl) (ov_en hS rfl) c11 (s_move (v := .d (.sl 6 (a_0.map encApiJob))) (lt_of rfl) (ov_ev hS rfl) rfl)),
      fun S hS => g_fin rfl (g_take rfl rfl (lt_of rfl) (ov_en hS rfl) c11 (s_move (v := .d (.lit (.int .i64 i_0_2))) (lt_of rfl) (ov_ev hS rfl) rfl)),
      fun S hS => g_fin rfl (g_take rfl rfl (lt_of rfl) (ov_en hS rfl) c11 (s_index_sl (lt_of rfl) (ov_ev hS rfl) (ov_ev hS rfl) sl_23.of (idx_map encApiJob h13))),
      fun S hS => g_fin rfl (g_take rfl rfl (lt_of rfl) (ov_en hS rfl) c11 (s_field_cp (lt_of rfl) (ov_ev hS rfl) fld_36_1 (es := [.sl 1 (x12.After.map encI)]) rfl)),
      fun S hS => g_fin rfl (g_take rfl rfl (lt_of rfl) (ov_en hS rfl) c11 (s_load_cp (lt_of rfl) (ov_ev hS rfl) one_27)),
      fun S hS => g_fin rfl (g_take rfl rfl (lt_of rfl) (ov_en hS rfl) c11 (s_move (v := .d (.sl 6 (b_1.map encApiJob))) (lt_of rfl) (ov_ev hS rfl) rfl)),
      fun S hS => g_fin rfl (g_take rfl rfl (lt_of rfl) (ov_en hS rfl) c11 (s_move (v := .d (.lit (.int .i64 i_0_2))) (lt_of rfl) (ov_ev hS rfl) rfl)),
      fun S hS => g_fin rfl (g_take rfl rfl (lt_of rfl) (ov_en hS rfl) c11 (s_index_sl (lt_of rfl) (ov_ev hS rfl) (ov_ev hS rfl) sl_23.of (idx_map encApiJob h15))),
      fun S hS => g_fin rfl (g_take rfl rfl (lt_of rfl) (ov_en hS rfl) c11 (s_field_cp (lt_of rfl) (ov_ev hS rfl) fld_36_1 (es := [.sl 1 (x14.After.map encI)]) rfl)),
      fun S hS => g_fin rfl (g_take rfl rfl (lt_of rfl) (ov_en hS rfl) c11 (s_load_cp (lt_of rfl) (ov_ev hS rfl) one_27)),
      fun S hS => g_fin rfl (g_take rfl rfl (lt_of rfl) (ov_en hS rfl) c11 (s_call (lt_of rfl) (.func _ _ Try.call66) (ev2 (ov_ev hS rfl) (ev2 (ov_ev hS rfl) evn)) rfl (BVs.refl _ _) (deucelaw08_sameInts_c _ _ h17) rfl)),
      fun S hS => g_fin rfl (g_take rfl rfl (lt_of rfl) (ov_en hS rfl) c11 (s_not (lt_of rfl) (ov_ev hS rfl))),
      fun S hS => g_fin rfl (g_op rfl (s_pick_f (v := .d (.lit (.bool (!r16)))) (lt_of rfl) (ov_ev hS rfl) c11 (ov_ev hS rfl) rfl)),
      fun S hS => g_fin rfl (g_op rfl (s_move (v := .d (.lit (.bool (!r16)))) (lt_of rfl) (ov_ev hS rfl) rfl)),
      fun S hS => g_fin rfl (g_pass rfl rfl (lt_of rfl) rfl (lt_of rfl) (ov_en hS rfl) c20),
      fun S hS => g_fin rfl (g_pass rfl rfl (lt_of rfl) rfl (lt_of rfl) (ov_en hS rfl) c20),
      fun S hS => g_fin rfl (g_pass rfl rfl (lt_of rfl) rfl (lt_of rfl) (ov_en hS rfl) c20),
      fun S hS => g_fin rfl (g_pass rfl rfl (lt_of rfl) rfl (lt_of rfl) (ov_en hS rfl) c20),
      fun S hS => g_fin rfl (g_pass rfl rfl (lt_of rfl) rfl (lt_of rfl) (ov_en hS rfl) c20),
      fun S hS => g_fin rfl (g_pass rfl rfl (lt_of rfl) rfl (lt_of rfl) (ov_en hS rfl) c20),
      fun S hS => g_fin rfl (g_pass rfl rfl (lt_of rfl) rfl (lt_of rfl) (ov_en hS rfl) c20),
      fun S hS => g_fin rfl (g_pass rfl rfl (lt_of rfl) rfl (lt_of rfl) (ov_en hS rfl) c20),
      fun S hS => g_fin rfl (g_pass rfl rfl (lt_of rfl) rfl (lt_of rfl) (ov_en hS rfl) c20),
      fun S hS => g_fin rfl (g_pass rfl rfl (lt_of rfl) rfl (lt_of rfl) (ov_en hS rfl) c20),
      fun S hS => g_fin rfl (g_pass rfl rfl (lt_of rfl) rfl (lt_of rfl) (ov_en hS rfl) c20),
      fun S hS => g_fin rfl (g_pass rfl rfl (lt_of rfl) rfl (lt_of rfl) (ov_en hS rfl) c20),
      fun S hS => g_fin rfl (g_op rfl (s_pick_t (v := .d (.lit (.bool true))) (lt_of rfl) (ov_ev hS rfl) c20 rfl rfl)),
      fun S hS => g_fin rfl (g_op rfl (s_move (v := .d (.lit (.bool (true)))) (lt_of rfl) (ov_ev hS rfl) rfl)),
      fun S hS => g_fin rfl (g_pass rfl rfl (lt_of rfl) rfl (lt_of rfl) (ov_en hS rfl) c29),
      fun S hS => g_fin rfl (g_pass rfl rfl (lt_of rfl) rfl (lt_of rfl) (ov_en hS rfl) c29),
      fun S hS => g_fin rfl (g_pass rfl rfl (lt_of rfl) rfl (lt_of rfl) (ov_en hS rfl) c29),
      fun S hS => g_fin rfl (g_pass rfl rfl (lt_of rfl) rfl (lt_of rfl) (ov_en hS rfl) c29),
      fun S hS => g_fin rfl (g_pass rfl rfl (lt_of rfl) rfl (lt_of rfl) (ov_en hS rfl) c29),
      fun S hS => g_fin rfl (g_pass rfl rfl (lt_of rfl) rfl (lt_of rfl) (ov_en hS rfl) c29),
      fun S hS => g_fin rfl (g_pass rfl rfl (lt_of rfl) rfl (lt_of rfl) (ov_en hS rfl) c29),
      fun S hS => g_fin rfl (g_pass rfl rfl (lt_of rfl) rfl (lt_of rfl) (ov_en hS rfl) c29),
      fun S hS => g_fin rfl (g_pass rfl rfl (lt_of rfl) rfl (lt_of rfl) (ov_en hS rfl) c29),
      fun S hS => g_fin rfl (g_pass rfl rfl (lt_of rfl) rfl (lt_of rfl) (ov_en hS rfl) c29),
      fun S hS => g_fin rfl (g_pass rfl rfl (lt_of rfl) rfl (lt_of rfl) (ov_en hS rfl) c29),
      fun S hS => g_fin rfl (g_op rfl (s_pick_t (v := .d (.lit (.bool true))) (lt_of rfl) (ov_ev hS rfl) c29 rfl rfl)),
      fun S hS => g_fin rfl (g_op rfl (s_move (v := .d (.lit (.bool (true)))) (lt_of rfl) (ov_ev hS rfl) rfl)),
      fun S hS => g_fin rfl (g_pass rfl rfl (lt_of rfl) rfl (lt_of rfl) (ov_en hS rfl) c36),
      fun S hS => g_fin rfl (g_pass rfl rfl (lt_of rfl) rfl (lt_of rfl) (ov_en hS rfl) c36),
      fun S hS => g_fin rfl (g_pass rfl rfl (lt_of rfl) rfl (lt_of rfl) (ov_en hS rfl) c36),
      fun S hS => g_fin rfl (g_pass rfl rfl (lt_of rfl) rfl (lt_of rfl) (ov_en hS rfl) c36),
      fun S hS => g_fin rfl (g_pass rfl rfl (lt_of rfl) rfl (lt_of rfl) (ov_en hS rfl) c36),
      fun S hS => g_fin rfl (g_pass rfl rfl (lt_of rfl) rfl (lt_of rfl) (ov_en hS rfl) c36),
      fun S hS => g_fin rfl (g_pass rfl rfl (lt_of rfl) rfl (lt_of rfl) (ov_en hS rfl) c36),
      fun S hS => g_fin rfl (g_pass rfl rfl (lt_of rfl) rfl (lt_of rfl) (ov_en hS rfl) c36),
      fun S hS => g_fin rfl (g_pass rfl rfl (lt_of rfl) rfl (lt_of rfl) (ov_en hS rfl) c36),
      fun S hS => g_fin rfl (g_pass rfl rfl (lt_of rfl) rfl (lt_of rfl) (ov_en hS rfl) c36),
      fun S hS => g_fin rfl (g_pass rfl rfl (lt_of rfl) rfl (lt_of rfl) (ov_en hS rfl) c36),
      fun S hS => g_fin rfl (g_op rfl (s_pick_t (v := .d (.lit (.bool true))) (lt_of rfl) (ov_ev hS rfl) c36 rfl rfl)), trivial⟩⟩
            · exact ent_le (le_upd rfl (le_keep ⟨rfl, rfl, rfl, trivial⟩))
          · have h19 := cond_ff c20 h19
            obtain ⟨x21, h22, h19⟩ := bind_some h19
            obtain ⟨x23, h24, h19⟩ := bind_some h19
            obtain ⟨r25, h26, h19⟩ := bind_some h19
            have h19 := Option.some.inj h19
            subst h19
            refine bool_cases (!r25) (fun c29 => ?_) (fun c29 => ?_)
            · have h28 := cond_tt c29 h28
              have h28 := Option.some.inj h28
              subst h28
              have c36 : true = true := rfl
              have h35 := cond_tt c36 h35
              have h35 := Option.some.inj h35
              subst h35
              refine ⟨[(17, 0, .d (.sl 6 (a_0.map encApiJob))), (18, 1, .d (.lit (.int .i64 i_0_2))), (19, 2, .cp [.lit (.int .i64 x5.Length.Low), .lit (.int .i64 x5.Length.High), .sl 1 (x5.After.map encI), .sl 1 (x5.With.map encI), .lit (.int .i64 x5.Due), .lit (.int .i64 x5.Earliest)]), (20, 3, .cp [.lit (.int .i64 x5.Length.Low), .lit (.int .i64 x5.Length.High)]), (21, 4, .agg (encApiSpan x5.Length)), (22, 5, .d (.sl 6 (b_1.map encApiJob))), (23, 6, .d (.lit (.int .i64 i_0_2))), (24, 7, .cp [.lit (.int .i64 x7.Length.Low), .lit (.int .i64 x7.Length.High), .sl 1 (x7.After.map encI), .sl 1 (x7.With.map encI), .lit (.int .i64 x7.Due), .lit (.int .i64 x7.Earliest)]), (25, 8, .cp [.lit (.int .i64 x7.Length.Low), .lit (.int .i64 x7.Length.High)]), (26, 9, .agg (encApiSpan x7.Length)), (27, 10, .d (.lit (.bool ((!decide (x5.Length = x7.Length)))))), (28, 11, .d (.lit (.bool ((!decide (x5.Length = x7.Length)))))), (29, 12, .d (.sl 6 (a_0.map encApiJob))), (30, 13, .d (.lit (.int .i64 i_0_2))), (31, 14, .cp [.lit (.int .i64 x12.Length.Low), .lit (.int .i64 x12.Length.High), .sl 1 (x12.After.map encI), .sl 1 (x12.With.map encI), .lit (.int .i64 x12.Due), .lit (.int .i64 x12.Earliest)]), (32, 15, .cp [.sl 1 (x12.After.map encI)]), (33, 16, .d (.sl 1 (x12.After.map encI))), (34, 17, .d (.sl 6 (b_1.map encApiJob))), (35, 18, .d (.lit (.int .i64 i_0_2))), (36, 19, .cp [.lit (.int .i64 x14.Length.Low), .lit (.int .i64 x14.Length.High), .sl 1 (x14.After.map encI), .sl 1 (x14.With.map encI), .lit (.int .i64 x14.Due), .lit (.int .i64 x14.Earliest)]), (37, 20, .cp [.sl 1 (x14.After.map encI)]), (38, 21, .d (.sl 1 (x14.After.map encI))), (39, 22, .d (.lit (.bool r16))), (40, 23, .d (.lit (.bool (!r16)))), (41, 24, .d (.lit (.bool (!r16)))), (42, 25, .d (.lit (.bool (!r16)))), (43, 26, .d (.sl 6 (a_0.map encApiJob))), (44, 27, .d (.lit (.int .i64 i_0_2))), (45, 28, .cp [.lit (.int .i64 x21.Length.Low), .lit (.int .i64 x21.Length.High), .sl 1 (x21.After.map encI), .sl 1 (x21.With.map encI), .lit (.int .i64 x21.Due), .lit (.int .i64 x21.Earliest)]), (46, 29, .cp [.sl 1 (x21.With.map encI)]), (47, 30, .d (.sl 1 (x21.With.map encI))), (48, 31, .d (.sl 6 (b_1.map encApiJob))), (49, 32, .d (.lit (.int .i64 i_0_2))), (50, 33, .cp [.lit (.int .i64 x23.Length.Low), .lit (.int .i64 x23.Length.High), .sl 1 (x23.After.map encI), .sl 1 (x23.With.map encI), .lit (.int .i64 x23.Due), .lit (.int .i64 x23.Earliest)]), (51, 34, .cp [.sl 1 (x23.With.map encI)]), (52, 35, .d (.sl 1 (x23.With.map encI))), (53, 36, .d (.lit (.bool r25))), (54, 37, .d (.lit (.bool (!r25)))), (55, 38, .d (.lit (.bool (!r25)))), (56, 39, .d (.lit (.bool (!r25)))), (57, 40, .tup []), (58, 41, .tup []), (59, 42, .tup []), (60, 43, .tup []), (61, 44, .tup []), (62, 45, .tup []), (63, 46, .tup []), (64, 47, .tup []), (65, 48, .tup []), (66, 49, .tup []), (67, 50, .tup []), (68, 51, .d (.lit (.bool true))), (69, 52, .d (.lit (.bool (true)))), (70, 53, .tup []), (71, 54, .tup []), (72, 55, .tup []), (73, 56, .tup []), (74, 57, .tup []), (75, 58, .tup []), (76, 59, .tup []), (77, 60, .tup []), (78, 61, .tup []), (79, 62, .tup []), (80, 63, .tup []), (81, 64, .d (.lit (.bool true)))], ?_, ?_⟩
              · exact ⟨by kernel_rfl, by kernel_rfl, by kernel_rfl, by kernel_rfl, by kernel_rfl, [([], []), ([], []), ([0, 1], []), ([2], []), ([3], []), ([], []), ([], []), ([5, 6], []), ([7], []), ([8], []), ([4, 9], []), ([10], []), ([11], []), ([11], []), ([11, 12, 13], []), ([11, 14], []), ([11, 15], []), ([11], []), ([11], []), ([11, 17, 18], []), ([11, 19], []), ([11, 20], []), ([11, 16, 21], []), ([11, 22], []), ([11, 23], []), ([24], []), ([25], []), ([25], []), ([25, 26, 27], []), ([25, 28], []), ([25, 29], []), ([25], []), ([25], []), ([25, 31, 32], []), ([25, 33], []), ([25, 34], []), ([25, 30, 35], []), ([25, 36], []), ([25, 37], []), ([38], []), ([39], []), ([39], []), ([39, 40, 41], []), ([39, 42], []), ([39, 43], []), ([39], []), ([39], []), ([39, 45, 46], []), ([39, 47], []), ([39, 48], []), ([39, 44, 49], []), ([39, 50], []), ([51], []), ([52], []), ([52], []), ([52, 53, 54], []), ([52, 55], []), ([52, 56], []), ([52], []), ([52], []), ([52, 58, 59], []), ([52, 60], []), ([52, 61], []), ([52, 57, 62], []), ([52, 63], [])], by kernel_rfl, ⟨fun S hS => g_fin rfl (g_op rfl (s_move (v := .d (.sl 6 (a_0.map encApiJob))) (lt_of rfl) (ov_ev hS rfl) rfl)),
      fun S hS => g_fin rfl (g_op rfl (s_move (v := .d (.lit (.int .i64 i_0_2))) (lt_of rfl) (ov_ev hS rfl) rfl)),
      fun S hS => g_fin rfl (g_op rfl (s_index_sl (lt_of rfl) (ov_ev hS rfl) (ov_ev hS rfl) sl_23.of (idx_map encApiJob h6))),
      fun S hS => g_fin rfl (g_op rfl (s_field_cp (lt_of rfl) (ov_ev hS rfl) fld_36_0 (es := [.lit (.int .i64 x5.Length.Low), .lit (.int .i64 x5.Length.High)]) rfl)),
      fun S hS => g_fin rfl (g_op rfl (s_loada_cp (lt_of rfl) (ov_ev hS rfl) agg_34 (es := (encApiSpan x5.Length)) rfl rfl)),
      fun S hS => g_fin rfl (g_op rfl (s_move (v := .d (.sl 6 (b_1.map encApiJob))) (lt_of rfl) (ov_ev hS rfl) rfl)),
      fun S hS => g_fin rfl (g_op rfl (s_move (v := .d (.lit (.int .i64 i_0_2))) (lt_of rfl) (ov_ev hS rfl) rfl)),
      fun S hS => g_fin rfl (g_op rfl (s_index_sl (lt_of rfl) (ov_ev hS rfl) (ov_ev hS rfl) sl_23.of (idx_map encApiJob h8))),
      fun S hS => g_fin rfl (g_op rfl (s_field_cp (lt_of rfl) (ov_ev hS rfl) fld_36_0 (es := [.lit (.int .i64 x7.Length.Low), .lit (.int .i64 x7.Length.High)]) rfl)),
      fun S hS => g_fin rfl (g_op rfl (s_loada_cp (lt_of rfl) (ov_ev hS rfl) agg_34 (es := (encApiSpan x7.Length)) rfl rfl)),
      fun S hS => g_fin rfl (g_op rfl (s_nes (a := x5.Length) (b := x7.Length) (lt_of rfl) (ov_ev hS rfl) (ov_ev hS rfl) rfl rfl Try.eqGuardType34 eqt_34)),
      fun S hS => g_fin rfl (g_op rfl (s_move (v := .d (.lit (.bool ((!decide (x5.Length = x7.Length)))))) (lt_of rfl) (ov_ev hS rfl) rfl)),
      fun S hS => g_fin rfl (g_take rfl rfl (lt_of rfl) (ov_en hS rfl) c11 (s_move (v := .d (.sl 6 (a_0.map encApiJob))) (lt_of rfl) (ov_ev hS rfl) rfl)),
      fun S hS => g_fin rfl (g_take rfl rfl (lt_of rfl) (ov_en hS rfl) c11 (s_move (v := .d (.lit (.int .i64 i_0_2))) (lt_of rfl) (ov_ev hS rfl) rfl)),
      fun S hS => g_fin rfl (g_take rfl rfl (lt_of rfl) (ov_en hS rfl) c11 (s_index_sl (lt_of rfl) (ov_ev hS rfl) (ov_ev hS rfl) sl_23.of (idx_map encApiJob h13))),
      fun S hS => g_fin rfl (g_take rfl rfl (lt_of rfl) (ov_en hS rfl) c11 (s_field_cp (lt_of rfl) (ov_ev hS rfl) fld_36_1 (es := [.sl 1 (x12.After.map encI)]) rfl)),
      fun S hS => g_fin rfl (g_take rfl rfl (lt_of rfl) (ov_en hS rfl) c11 (s_load_cp (lt_of rfl) (ov_ev hS rfl) one_27)),
      fun S hS => g_fin rfl (g_take rfl rfl (lt_of rfl) (ov_en hS rfl) c11 (s_move (v := .d (.sl 6 (b_1.map encApiJob))) (lt_of rfl) (ov_ev hS rfl) rfl)),
      fun S hS => g_fin rfl (g_take rfl rfl (lt_of rfl) (ov_en hS rfl) c11 (s_move (v := .d (.lit (.int .i64 i_0_2))) (lt_of rfl) (ov_ev hS rfl) rfl)),
      fun S hS => g_fin rfl (g_take rfl rfl (lt_of rfl) (ov_en hS rfl) c11 (s_index_sl (lt_of rfl) (ov_ev hS rfl) (ov_ev hS rfl) sl_23.of (idx_map encApiJob h15))),
      fun S hS => g_fin rfl (g_take rfl rfl (lt_of rfl) (ov_en hS rfl) c11 (s_field_cp (lt_of rfl) (ov_ev hS rfl) fld_36_1 (es := [.sl 1 (x14.After.map encI)]) rfl)),
      fun S hS => g_fin rfl (g_take rfl rfl (lt_of rfl) (ov_en hS rfl) c11 (s_load_cp (lt_of rfl) (ov_ev hS rfl) one_27)),
      fun S hS => g_fin rfl (g_take rfl rfl (lt_of rfl) (ov_en hS rfl) c11 (s_call (lt_of rfl) (.func _ _ Try.call66) (ev2 (ov_ev hS rfl) (ev2 (ov_ev hS rfl) evn)) rfl (BVs.refl _ _) (deucelaw08_sameInts_c _ _ h17) rfl)),
      fun S hS => g_fin rfl (g_take rfl rfl (lt_of rfl) (ov_en hS rfl) c11 (s_not (lt_of rfl) (ov_ev hS rfl))),
      fun S hS => g_fin rfl (g_op rfl (s_pick_f (v := .d (.lit (.bool (!r16)))) (lt_of rfl) (ov_ev hS rfl) c11 (ov_ev hS rfl) rfl)),
      fun S hS => g_fin rfl (g_op rfl (s_move (v := .d (.lit (.bool (!r16)))) (lt_of rfl) (ov_ev hS rfl) rfl)),
      fun S hS => g_fin rfl (g_take rfl rfl (lt_of rfl) (ov_en hS rfl) c20 (s_move (v := .d (.sl 6 (a_0.map encApiJob))) (lt_of rfl) (ov_ev hS rfl) rfl)),
      fun S hS => g_fin rfl (g_take rfl rfl (lt_of rfl) (ov_en hS rfl) c20 (s_move (v := .d (.lit (.int .i64 i_0_2))) (lt_of rfl) (ov_ev hS rfl) rfl)),
      fun S hS => g_fin rfl (g_take rfl rfl (lt_of rfl) (ov_en hS rfl) c20 (s_index_sl (lt_of rfl) (ov_ev hS rfl) (ov_ev hS rfl) sl_23.of (idx_map encApiJob h22))),
      fun S hS => g_fin rfl (g_take rfl rfl (lt_of rfl) (ov_en hS rfl) c20 (s_field_cp (lt_of rfl) (ov_ev hS rfl) fld_36_2 (es := [.sl 1 (x21.With.map encI)]) rfl)),
      fun S hS => g_fin rfl (g_take rfl rfl (lt_of rfl) (ov_en hS rfl) c20 (s_load_cp (lt_of rfl) (ov_ev hS rfl) one_27)),
      fun S hS => g_fin rfl (g_take rfl rfl (lt_of rfl) (ov_en hS rfl) c20 (s_move (v := .d (.sl 6 (b_1.map encApiJob))) (lt_of rfl) (ov_ev hS rfl) rfl)),
      fun S hS => g_fin rfl (g_take rfl rfl (lt_of rfl) (ov_en hS rfl) c20 (s_move (v := .d (.lit (.int .i64 i_0_2))) (lt_of rfl) (ov_ev hS rfl) rfl)),
      fun S hS => g_fin rfl (g_take rfl rfl (lt_of rfl) (ov_en hS rfl) c20 (s_index_sl (lt_of rfl) (ov_ev hS rfl) (ov_ev hS rfl) sl_23.of (idx_map encApiJob h24))),
      fun S hS => g_fin rfl (g_take rfl rfl (lt_of rfl) (ov_en hS rfl) c20 (s_field_cp (lt_of rfl) (ov_ev hS rfl) fld_36_2 (es := [.sl 1 (x23.With.map encI)]) rfl)),
      fun S hS => g_fin rfl (g_take rfl rfl (lt_of rfl) (ov_en hS rfl) c20 (s_load_cp (lt_of rfl) (ov_ev hS rfl) one_27)),
      fun S hS => g_fin rfl (g_take rfl rfl (lt_of rfl) (ov_en hS rfl) c20 (s_call (lt_of rfl) (.func _ _ Try.call66) (ev2 (ov_ev hS rfl) (ev2 (ov_ev hS rfl) evn)) rfl (BVs.refl _ _) (deucelaw08_sameInts_c _ _ h26) rfl)),
      fun S hS => g_fin rfl (g_take rfl rfl (lt_of rfl) (ov_en hS rfl) c20 (s_not (lt_of rfl) (ov_ev hS rfl))),
      fun S hS => g_fin rfl (g_op rfl (s_pick_f (v := .d (.lit (.bool (!r25)))) (lt_of rfl) (ov_ev hS rfl) c20 (ov_ev hS rfl) rfl)),
      fun S hS => g_fin rfl (g_op rfl (s_move (v := .d (.lit (.bool (!r25)))) (lt_of rfl) (ov_ev hS rfl) rfl)),
      fun S hS => g_fin rfl (g_pass rfl rfl (lt_of rfl) rfl (lt_of rfl) (ov_en hS rfl) c29),
      fun S hS => g_fin rfl (g_pass rfl rfl (lt_of rfl) rfl (lt_of rfl) (ov_en hS rfl) c29),
      fun S hS => g_fin rfl (g_pass rfl rfl (lt_of rfl) rfl (lt_of rfl) (ov_en hS rfl) c29),
      fun S hS => g_fin rfl (g_pass rfl rfl (lt_of rfl) rfl (lt_of rfl) (ov_en hS rfl) c29),
      fun S hS => g_fin rfl (g_pass rfl rfl (lt_of rfl) rfl (lt_of rfl) (ov_en hS rfl) c29),
      fun S hS => g_fin rfl (g_pass rfl rfl (lt_of rfl) rfl (lt_of rfl) (ov_en hS rfl) c29),
      fun S hS => g_fin rfl (g_pass rfl rfl (lt_of rfl) rfl (lt_of rfl) (ov_en hS rfl) c29),
      fun S hS => g_fin rfl (g_pass rfl rfl (lt_of rfl) rfl (lt_of rfl) (ov_en hS rfl) c29),
      fun S hS => g_fin rfl (g_pass rfl rfl (lt_of rfl) rfl (lt_of rfl) (ov_en hS rfl) c29),
      fun S hS => g_fin rfl (g_pass rfl rfl (lt_of rfl) rfl (lt_of rfl) (ov_en hS rfl) c29),
      fun S hS => g_fin rfl (g_pass rfl rfl (lt_of rfl) rfl (lt_of rfl) (ov_en hS rfl) c29),
      fun S hS => g_fin rfl (g_op rfl (s_pick_t (v := .d (.lit (.bool true))) (lt_of rfl) (ov_ev hS rfl) c29 rfl rfl)),
      fun S hS => g_fin rfl (g_op rfl (s_move (v := .d (.lit (.bool (true)))) (lt_of rfl) (ov_ev hS rfl) rfl)),
      fun S hS => g_fin rfl (g_pass rfl rfl (lt_of rfl) rfl (lt_of rfl) (ov_en hS rfl) c36),
      fun S hS => g_fin rfl (g_pass rfl rfl (lt_of rfl) rfl (lt_of rfl) (ov_en hS rfl) c36),
      fun S hS => g_fin rfl (g_pass rfl rfl (lt_of rfl) rfl (lt_of rfl) (ov_en hS rfl) c36),
      fun S hS => g_fin rfl (g_pass rfl rfl (lt_of rfl) rfl (lt_of rfl) (ov_en hS rfl) c36),
      fun S hS => g_fin rfl (g_pass rfl rfl (lt_of rfl) rfl (lt_of rfl) (ov_en hS rfl) c36),
      fun S hS => g_fin rfl (g_pass rfl rfl (lt_of rfl) rfl (lt_of rfl) (ov_en hS rfl) c36),
      fun S hS => g_fin rfl (g_pass rfl rfl (lt_of rfl) rfl (lt_of rfl) (ov_en hS rfl) c36),
      fun S hS => g_fin rfl (g_pass rfl rfl (lt_of rfl) rfl (lt_of rfl) (ov_en hS rfl) c36),
      fun S hS => g_fin rfl (g_pass rfl rfl (lt_of rfl) rfl (lt_of rfl) (ov_en hS rfl) c36),
      fun S hS => g_fin rfl (g_pass rfl rfl (lt_of rfl) rfl (lt_of rfl) (ov_en hS rfl) c36),
      fun S hS => g_fin rfl (g_pass rfl rfl (lt_of rfl) rfl (lt_of rfl) (ov_en hS rfl) c36),
      fun S hS => g_fin rfl (g_op rfl (s_pick_t (v := .d (.lit (.bool true))) (lt_of rfl) (ov_ev hS rfl) c36 rfl rfl)), trivial⟩⟩
              · exact ent_le (le_upd rfl (le_keep ⟨rfl, rfl, rfl, trivial⟩))
            · have h28 := cond_ff c29 h28
              obtain ⟨x30, h31, h28⟩ := bind_some h28
              obtain ⟨x32, h33, h28⟩ := bind_some h28
              have h28 := Option.some.inj h28
              subst h28
              refine bool_cases (!decide (x30.Due = x32.Due)) (fun c36 => ?_) (fun c36 => ?_)
              · have h35 := cond_tt c36 h35
                have h35 := Option.some.inj h35
                subst h35
                refine ⟨[(17, 0, .d (.sl 6 (a_0.map encApiJob))), (18, 1, .d (.lit (.int .i64 i_0_2))), (19, 2, .cp [.lit (.int .i64 x5.Length.Low), .lit (.int .i64 x5.Length.High), .sl 1 (x5.After.map encI), .sl 1 (x5.With.map encI), .lit (.int .i64 x5.Due), .lit (.int .i64 x5.Earliest)]), (20, 3, .cp [.lit (.int .i64 x5.Length.Low), .lit (.int .i64 x5.Length.High)]), (21, 4, .agg (encApiSpan x5.Length)), (22, 5, .d (.sl 6 (b_1.map encApiJob))), (23, 6, .d (.lit (.int .i64 i_0_2))), (24, 7, .cp [.lit (.int .i64 x7.Length.Low), .lit (.int .i64 x7.Length.High), .sl 1 (x7.After.map encI), .sl 1 (x7.With.map encI), .lit (.int .i64 x7.Due), .lit (.int .i64 x7.Earliest)]), (25, 8, .cp [.lit (.int .i64 x7.Length.Low), .lit (.int .i64 x7.Length.High)]), (26, 9, .agg (encApiSpan x7.Length)), (27, 10, .d (.lit (.bool ((!decide (x5.Length = x7.Length)))))), (28, 11, .d (.lit (.bool ((!decide (x5.Length = x7.Length)))))), (29, 12, .d (.sl 6 (a_0.map encApiJob))), (30, 13, .d (.lit (.int .i64 i_0_2))), (31, 14, .cp [.lit (.int .i64 x12.Length.Low), .lit (.int .i64 x12.Length.High), .sl 1 (x12.After.map encI), .sl 1 (x12.With.map encI), .lit (.int .i64 x12.Due), .lit (.int .i64 x12.Earliest)]), (32, 15, .cp [.sl 1 (x12.After.map encI)]), (33, 16, .d (.sl 1 (x12.After.map encI))), (34, 17, .d (.sl 6 (b_1.map encApiJob))), (35, 18, .d (.lit (.int .i64 i_0_2))), (36, 19, .cp [.lit (.int .i64 x14.Length.Low), .lit (.int .i64 x14.Length.High), .sl 1 (x14.After.map encI), .sl 1 (x14.With.map encI), .lit (.int .i64 x14.Due), .lit (.int .i64 x14.Earliest)]), (37, 20, .cp [.sl 1 (x14.After.map encI)]), (38, 21, .d (.sl 1 (x14.After.map encI))), (39, 22, .d (.lit (.bool r16))), (40, 23, .d (.lit (.bool (!r16)))), (41, 24, .d (.lit (.bool (!r16)))), (42, 25, .d (.lit (.bool (!r16)))), (43, 26, .d (.sl 6 (a_0.map encApiJob))), (44, 27, .d (.lit (.int .i64 i_0_2))), (45, 28, .cp [.lit (.int .i64 x21.Length.Low), .lit (.int .i64 x21.Length.High), .sl 1 (x21.After.map encI), .sl 1 (x21.With.map encI), .lit (.int .i64 x21.Due), .lit (.int .i64 x21.Earliest)]), (46, 29, .cp [.sl 1 (x21.With.map encI)]), (47, 30, .d (.sl 1 (x21.With.map encI))), (48, 31, .d (.sl 6 (b_1.map encApiJob))), (49, 32, .d (.lit (.int .i64 i_0_2))), (50, 33, .cp [.lit (.int .i64 x23.Length.Low), .lit (.int .i64 x23.Length.High), .sl 1 (x23.After.map encI), .sl 1 (x23.With.map encI), .lit (.int .i64 x23.Due), .lit (.int .i64 x23.Earliest)]), (51, 34, .cp [.sl 1 (x23.With.map encI)]), (52, 35, .d (.sl 1 (x23.With.map encI))), (53, 36, .d (.lit (.bool r25))), (54, 37, .d (.lit (.bool (!r25)))), (55, 38, .d (.lit (.bool (!r25)))), (56, 39, .d (.lit (.bool (!r25)))), (57, 40, .d (.sl 6 (a_0.map encApiJob))), (58, 41, .d (.lit (.int .i64 i_0_2))), (59, 42, .cp [.lit (.int .i64 x30.Length.Low), .lit (.int .i64 x30.Length.High), .sl 1 (x30.After.map encI), .sl 1 (x30.With.map encI), .lit (.int .i64 x30.Due), .lit (.int .i64 x30.Earliest)]), (60, 43, .cp [.lit (.int .i64 x30.Due)]), (61, 44, .d (.lit (.int .i64 x30.Due))), (62, 45, .d (.sl 6 (b_1.map encApiJob))), (63, 46, .d (.lit (.int .i64 i_0_2))), (64, 47, .cp [.lit (.int .i64 x32.Length.Low), .lit (.int .i64 x32.Length.High), .sl 1 (x32.After.map encI), .sl 1 (x32.With.map encI), .lit (.int .i64 x32.Due), .lit (.int .i64 x32.Earliest)]), (65, 48, .cp [.lit (.int .i64 x32.Due)]), (66, 49, .d (.lit (.int .i64 x32.Due))), (67, 50, .d (.lit (.bool ((!decide (x30.Due = x32.Due)))))), (68, 51, .d (.lit (.bool ((!decide (x30.Due = x32.Due)))))), (69, 52, .d (.lit (.bool (!decide (x30.Due = x32.Due))))), (70, 53, .tup []), (71, 54, .tup []), (72, 55, .tup []), (73, 56, .tup []), (74, 57, .tup []), (75, 58, .tup []), (76, 59, .tup []), (77, 60, .tup []), (78, 61, .tup []), (79, 62, .tup []), (80, 63, .tup []), (81, 64, .d (.lit (.bool true)))], ?_, ?_⟩
                · exact ⟨by kernel_rfl, by kernel_rfl, by kernel_rfl, by kernel_rfl, by kernel_rfl, [([], []), ([], []), ([0, 1], []), ([2], []), ([3], []), ([], []), ([], []), ([5, 6], []), ([7], []), ([8], []), ([4, 9], []), ([10], []), ([11], []), ([11], []), ([11, 12, 13], []), ([11, 14], []), ([11, 15], []), ([11], []), ([11], []), ([11, 17, 18], []), ([11, 19], []), ([11, 20], []), ([11, 16, 21], []), ([11, 22], []), ([11, 23], []), ([24], []), ([25], []), ([25], []), ([25, 26, 27], []), ([25, 28], []), ([25, 29], []), ([25], []), ([25], []), ([25, 31, 32], []), ([25, 33], []), ([25, 34], []), ([25, 30, 35], []), ([25, 36], []), ([25, 37], []), ([38], []), ([39], []), ([39], []), ([39, 40, 41], []), ([39, 42], []), ([39, 43], []), ([39], []), ([39], []), ([39, 45, 46], []), ([39, 47], []), ([39, 48], []), ([39, 44, 49], []), ([39, 50], []), ([51], []), ([52], []), ([52], []), ([52, 53, 54], []), ([52, 55], []), ([52, 56], []), ([52], []), ([52], []), ([52, 58, 59], []), ([52, 60], []), ([52, 61], []), ([52, 57, 62], []), ([52, 63], [])], by kernel_rfl, ⟨fun S hS => g_fin rfl (g_op rfl (s_move (v := .d (.sl 6 (a_0.map encApiJob))) (lt_of rfl) (ov_ev hS rfl) rfl)),
      fun S hS => g_fin rfl (g_op rfl (s_move (v := .d (.lit (.int .i64 i_0_2))) (lt_of rfl) (ov_ev hS rfl) rfl)),
      fun S hS => g_fin rfl (g_op rfl (s_index_sl (lt_of rfl) (ov_ev hS rfl) (ov_ev hS rfl) sl_23.of (idx_map encApiJob h6))),
      fun S hS => g_fin rfl (g_op rfl (s_field_cp (lt_of rfl) (ov_ev hS rfl) fld_36_0 (es := [.lit (.int .i64 x5.Length.Low), .lit (.int .i64 x5.Length.High)]) rfl)),
      fun S hS => g_fin rfl (g_op rfl (s_loada_cp (lt_of rfl) (ov_ev hS rfl) agg_34 (es := (encApiSpan x5.Length)) rfl rfl)),
      fun S hS => g_fin rfl (g_op rfl (s_move (v := .d (.sl 6 (b_1.map encApiJob))) (lt_of rfl) (ov_ev hS rfl) rfl)),
      fun S hS => g_fin rfl (g_op rfl (s_move (v := .d (.lit (.int .i64 i_0_2))) (lt_of rfl) (ov_ev hS rfl) rfl)),
      fun S hS => g_fin rfl (g_op rfl (s_index_sl (lt_of rfl) (ov_ev hS rfl) (ov_ev hS rfl) sl_23.of (idx_map encApiJob h8))),
      fun S hS => g_fin rfl (g_op rfl (s_field_cp (lt_of rfl) (ov_ev hS rfl) fld_36_0 (es := [.lit (.int .i64 x7.Length.Low), .lit (.int .i64 x7.Length.High)]) rfl)),
      fun S hS => g_fin rfl (g_op rfl (s_loada_cp (lt_of rfl) (ov_ev hS rfl) agg_34 (es := (encApiSpan x7.Length)) rfl rfl)),
      fun S hS => g_fin rfl (g_op rfl (s_nes (a := x5.Length) (b := x7.Length) (lt_of rfl) (ov_ev hS rfl) (ov_ev hS rfl) rfl rfl Try.eqGuardType34 eqt_34)),
      fun S hS => g_fin rfl (g_op rfl (s_move (v := .d (.lit (.bool ((!decide (x5.Length = x7.Length)))))) (lt_of rfl) (ov_ev hS rfl) rfl)),
      fun S hS => g_fin rfl (g_take rfl rfl (lt_of rfl) (ov_en hS rfl) c11 (s_move (v := .d (.sl 6 (a_0.map encApiJob))) (lt_of rfl) (ov_ev hS rfl) rfl)),
      fun S hS => g_fin rfl (g_take rfl rfl (lt_of rfl) (ov_en hS rfl) c11 (s_move (v := .d (.lit (.int .i64 i_0_2))) (lt_of rfl) (ov_ev hS rfl) rfl)),
      fun S hS => g_fin rfl (g_take rfl rfl (lt_of rfl) (ov_en hS rfl) c11 (s_index_sl (lt_of rfl) (ov_ev hS rfl) (ov_ev hS rfl) sl_23.of (idx_map encApiJob h13))),
      fun S hS => g_fin rfl (g_take rfl rfl (lt_of rfl) (ov_en hS rfl) c11 (s_field_cp (lt_of rfl) (ov_ev hS rfl) fld_36_1 (es := [.sl 1 (x12.After.map encI)]) rfl)),
      fun S hS => g_fin rfl (g_take rfl rfl (lt_of rfl) (ov_en hS rfl) c11 (s_load_cp (lt_of rfl) (ov_ev hS rfl) one_27)),
      fun S hS => g_fin rfl (g_take rfl rfl (lt_of rfl) (ov_en hS rfl) c11 (s_move (v := .d (.sl 6 (b_1.map encApiJob))) (lt_of rfl) (ov_ev hS rfl) rfl)),
      fun S hS => g_fin rfl (g_take rfl rfl (lt_of rfl) (ov_en hS rfl) c11 (s_move (v := .d (.lit (.int .i64 i_0_2))) (lt_of rfl) (ov_ev hS rfl) rfl)),
      fun S hS => g_fin rfl (g_take rfl rfl (lt_of rfl) (ov_en hS rfl) c11 (s_index_sl (lt_of rfl) (ov_ev hS rfl) (ov_ev hS rfl) sl_23.of (idx_map encApiJob h15))),
      fun S hS => g_fin rfl (g_take rfl rfl (lt_of rfl) (ov_en hS rfl) c11 (s_field_cp (lt_of rfl) (ov_ev hS rfl) fld_36_1 (es := [.sl 1 (x14.After.map encI)]) rfl)),
      fun S hS => g_fin rfl (g_take rfl rfl (lt_of rfl) (ov_en hS rfl) c11 (s_load_cp (lt_of rfl) (ov_ev hS rfl) one_27)),
      fun S hS => g_fin rfl (g_take rfl rfl (lt_of rfl) (ov_en hS rfl) c11 (s_call (lt_of rfl) (.func _ _ Try.call66) (ev2 (ov_ev hS rfl) (ev2 (ov_ev hS rfl) evn)) rfl (BVs.refl _ _) (deucelaw08_sameInts_c _ _ h17) rfl)),
      fun S hS => g_fin rfl (g_take rfl rfl (lt_of rfl) (ov_en hS rfl) c11 (s_not (lt_of rfl) (ov_ev hS rfl))),
      fun S hS => g_fin rfl (g_op rfl (s_pick_f (v := .d (.lit (.bool (!r16)))) (lt_of rfl) (ov_ev hS rfl) c11 (ov_ev hS rfl) rfl)),
      fun S hS => g_fin rfl (g_op rfl (s_move (v := .d (.lit (.bool (!r16)))) (lt_of rfl) (ov_ev hS rfl) rfl)),
      fun S hS => g_fin rfl (g_take rfl rfl (lt_of rfl) (ov_en hS rfl) c20 (s_move (v := .d (.sl 6 (a_0.map encApiJob))) (lt_of rfl) (ov_ev hS rfl) rfl)),
      fun S hS => g_fin rfl (g_take rfl rfl (lt_of rfl) (ov_en hS rfl) c20 (s_move (v := .d (.lit (.int .i64 i_0_2))) (lt_of rfl) (ov_ev hS rfl) rfl)),
      fun S hS => g_fin rfl (g_take rfl rfl (lt_of rfl) (ov_en hS rfl) c20 (s_index_sl (lt_of rfl) (ov_ev hS rfl) (ov_ev hS rfl) sl_23.of (idx_map encApiJob h22))),
      fun S hS => g_fin rfl (g_take rfl rfl (lt_of rfl) (ov_en hS rfl) c20 (s_field_cp (lt_of rfl) (ov_ev hS rfl) fld_36_2 (es := [.sl 1 (x21.With.map encI)]) rfl)),
      fun S hS => g_fin rfl (g_take rfl rfl (lt_of rfl) (ov_en hS rfl) c20 (s_load_cp (lt_of rfl) (ov_ev hS rfl) one_27)),
      fun S hS => g_fin rfl (g_take rfl rfl (lt_of rfl) (ov_en hS rfl) c20 (s_move (v := .d (.sl 6 (b_1.map encApiJob))) (lt_of rfl) (ov_ev hS rfl) rfl)),
      fun S hS => g_fin rfl (g_take rfl rfl (lt_of rfl) (ov_en hS rfl) c20 (s_move (v := .d (.lit (.int .i64 i_0_2))) (lt_of rfl) (ov_ev hS rfl) rfl)),
      fun S hS => g_fin rfl (g_take rfl rfl (lt_of rfl) (ov_en hS rfl) c20 (s_index_sl (lt_of rfl) (ov_ev hS rfl) (ov_ev hS rfl) sl_23.of (idx_map encApiJob h24))),
      fun S hS => g_fin rfl (g_take rfl rfl (lt_of rfl) (ov_en hS rfl) c20 (s_field_cp (lt_of rfl) (ov_ev hS rfl) fld_36_2 (es := [.sl 1 (x23.With.map encI)]) rfl)),
      fun S hS => g_fin rfl (g_take rfl rfl (lt_of rfl) (ov_en hS rfl) c20 (s_load_cp (lt_of rfl) (ov_ev hS rfl) one_27)),
      fun S hS => g_fin rfl (g_take rfl rfl (lt_of rfl) (ov_en hS rfl) c20 (s_call (lt_of rfl) (.func _ _ Try.call66) (ev2 (ov_ev hS rfl) (ev2 (ov_ev hS rfl) evn)) rfl (BVs.refl _ _) (deucelaw08_sameInts_c _ _ h26) rfl)),
      fun S hS => g_fin rfl (g_take rfl rfl (lt_of rfl) (ov_en hS rfl) c20 (s_not (lt_of rfl) (ov_ev hS rfl))),
      fun S hS => g_fin rfl (g_op rfl (s_pick_f (v := .d (.lit (.bool (!r25)))) (lt_of rfl) (ov_ev hS rfl) c20 (ov_ev hS rfl) rfl)),
      fun S hS => g_fin rfl (g_op rfl (s_move (v := .d (.lit (.bool (!r25)))) (lt_of rfl) (ov_ev hS rfl) rfl)),
      fun S hS => g_fin rfl (g_take rfl rfl (lt_of rfl) (ov_en hS rfl) c29 (s_move (v := .d (.sl 6 (a_0.map encApiJob))) (lt_of rfl) (ov_ev hS rfl) rfl)),
      fun S hS => g_fin rfl (g_take rfl rfl (lt_of rfl) (ov_en hS rfl) c29 (s_move (v := .d (.lit (.int .i64 i_0_2))) (lt_of rfl) (ov_ev hS rfl) rfl)),
      fun S hS => g_fin rfl (g_take rfl rfl (lt_of rfl) (ov_en hS rfl) c29 (s_index_sl (lt_of rfl) (ov_ev hS rfl) (ov_ev hS rfl) sl_23.of (idx_map encApiJob h31))),
      fun S hS => g_fin rfl (g_take rfl rfl (lt_of rfl) (ov_en hS rfl) c29 (s_field_cp (lt_of rfl) (ov_ev hS rfl) fld_36_3 (es := [.lit (.int .i64 x30.Due)]) rfl)),
      fun S hS => g_fin rfl (g_take rfl rfl (lt_of rfl) (ov_en hS rfl) c29 (s_load_cp (lt_of rfl) (ov_ev hS rfl) one_3)),
      fun S hS => g_fin rfl (g_take rfl rfl (lt_of rfl) (ov_en hS rfl) c29 (s_move (v := .d (.sl 6 (b_1.map encApiJob))) (lt_of rfl) (ov_ev hS rfl) rfl)),
      fun S hS => g_fin rfl (g_take rfl rfl (lt_of rfl) (ov_en hS rfl) c29 (s_move (v := .d (.lit (.int .i64 i_0_2))) (lt_of rfl) (ov_ev hS rfl) rfl)),
      fun S hS => g_fin rfl (g_take rfl rfl (lt_of rfl) (ov_en hS rfl) c29 (s_index_sl (lt_of rfl) (ov_ev hS rfl) (ov_ev hS rfl) sl_23.of (idx_map encApiJob h33))),
      fun S hS => g_fin rfl (g_take rfl rfl (lt_of rfl) (ov_en hS rfl) c29 (s_field_cp (lt_of rfl) (ov_ev hS rfl) fld_36_3 (es := [.lit (.int .i64 x32.Due)]) rfl)),
      fun S hS => g_fin rfl (g_take rfl rfl (lt_of rfl) (ov_en hS rfl) c29 (s_load_cp (lt_of rfl) (ov_ev hS rfl) one_3)),
      fun S hS => g_fin rfl (g_take rfl rfl (lt_of rfl) (ov_en hS rfl) c29 (s_cmp (lt_of rfl) (ov_ev hS rfl) (ov_ev hS rfl) rfl)),
      fun S hS => g_fin rfl (g_op rfl (s_pick_f (v := .d (.lit (.bool ((!decide (x30.Due = x32.Due)))))) (lt_of rfl) (ov_ev hS rfl) c29 (ov_ev hS rfl) rfl)),
      fun S hS => g_fin rfl (g_op rfl (s_move (v := .d (.lit (.bool (!decide (x30.Due = x32.Due))))) (lt_of rfl) (ov_ev hS rfl) rfl)),
      fun S hS => g_fin rfl (g_pass rfl rfl (lt_of rfl) rfl (lt_of rfl) (ov_en hS rfl) c36),
      fun S hS => g_fin rfl (g_pass rfl rfl (lt_of rfl) rfl (lt_of rfl) (ov_en hS rfl) c36),
      fun S hS => g_fin rfl (g_pass rfl rfl (lt_of rfl) rfl (lt_of rfl) (ov_en hS rfl) c36),
      fun S hS => g_fin rfl (g_pass rfl rfl (lt_of rfl) rfl (lt_of rfl) (ov_en hS rfl) c36),
      fun S hS => g_fin rfl (g_pass rfl rfl (lt_of rfl) rfl (lt_of rfl) (ov_en hS rfl) c36),
      fun S hS => g_fin rfl (g_pass rfl rfl (lt_of rfl) rfl (lt_of rfl) (ov_en hS rfl) c36),
      fun S hS => g_fin rfl (g_pass rfl rfl (lt_of rfl) rfl (lt_of rfl) (ov_en hS rfl) c36),
      fun S hS => g_fin rfl (g_pass rfl rfl (lt_of rfl) rfl (lt_of rfl) (ov_en hS rfl) c36),
      fun S hS => g_fin rfl (g_pass rfl rfl (lt_of rfl) rfl (lt_of rfl) (ov_en hS rfl) c36),
      fun S hS => g_fin rfl (g_pass rfl rfl (lt_of rfl) rfl (lt_of rfl) (ov_en hS rfl) c36),
      fun S hS => g_fin rfl (g_pass rfl rfl (lt_of rfl) rfl (lt_of rfl) (ov_en hS rfl) c36),
      fun S hS => g_fin rfl (g_op rfl (s_pick_t (v := .d (.lit (.bool true))) (lt_of rfl) (ov_ev hS rfl) c36 rfl rfl)), trivial⟩⟩
                · exact ent_le (le_upd rfl (le_keep ⟨rfl, rfl, rfl, trivial⟩))
              · have h35 := cond_ff c36 h35
                obtain ⟨x37, h38, h35⟩ := bind_some h35
                obtain ⟨x39, h40, h35⟩ := bind_some h35
                have h35 := Option.some.inj h35
                subst h35
                refine ⟨[(17, 0, .d (.sl 6 (a_0.map encApiJob))), (18, 1, .d (.lit (.int .i64 i_0_2))), (19, 2, .cp [.lit (.int .i64 x5.Length.Low), .lit (.int .i64 x5.Length.High), .sl 1 (x5.After.map encI), .sl 1 (x5.With.map encI), .lit (.int .i64 x5.Due), .lit (.int .i64 x5.Earliest)]), (20, 3, .cp [.lit (.int .i64 x5.Length.Low), .lit (.int .i64 x5.Length.High)]), (21, 4, .agg (encApiSpan x5.Length)), (22, 5, .d (.sl 6 (b_1.map encApiJob))), (23, 6, .d (.lit (.int .i64 i_0_2))), (24, 7, .cp [.lit (.int .i64 x7.Length.Low), .lit (.int .i64 x7.Length.High), .sl 1 (x7.After.map encI), .sl 1 (x7.With.map encI), .lit (.int .i64 x7.Due), .lit (.int .i64 x7.Earliest)]), (25, 8, .cp [.lit (.int .i64 x7.Length.Low), .lit (.int .i64 x7.Length.High)]), (26, 9, .agg (encApiSpan x7.Length)), (27, 10, .d (.lit (.bool ((!decide (x5.Length = x7.Length)))))), (28, 11, .d (.lit (.bool ((!decide (x5.Length = x7.Length)))))), (29, 12, .d (.sl 6 (a_0.map encApiJob))), (30, 13, .d (.lit (.int .i64 i_0_2))), (31, 14, .cp [.lit (.int .i64 x12.Length.Low), .lit (.int .i64 x12.Length.High), .sl 1 (x12.After.map encI), .sl 1 (x12.With.map encI), .lit (.int .i64 x12.Due), .lit (.int .i64 x12.Earliest)]), (32, 15, .cp [.sl 1 (x12.After.map encI)]), (33, 16, .d (.sl 1 (x12.After.map encI))), (34, 17, .d (.sl 6 (b_1.map encApiJob))), (35, 18, .d (.lit (.int .i64 i_0_2))), (36, 19, .cp [.lit (.int .i64 x14.Length.Low), .lit (.int .i64 x14.Length.High), .sl 1 (x14.After.map encI), .sl 1 (x14.With.map encI), .lit (.int .i64 x14.Due), .lit (.int .i64 x14.Earliest)]), (37, 20, .cp [.sl 1 (x14.After.map encI)]), (38, 21, .d (.sl 1 (x14.After.map encI))), (39, 22, .d (.lit (.bool r16))), (40, 23, .d (.lit (.bool (!r16)))), (41, 24, .d (.lit (.bool (!r16)))), (42, 25, .d (.lit (.bool (!r16)))), (43, 26, .d (.sl 6 (a_0.map encApiJob))), (44, 27, .d (.lit (.int .i64 i_0_2))), (45, 28, .cp [.lit (.int .i64 x21.Length.Low), .lit (.int .i64 x21.Length.High), .sl 1 (x21.After.map encI), .sl 1 (x21.With.map encI), .lit (.int .i64 x21.Due), .lit (.int .i64 x21.Earliest)]), (46, 29, .cp [.sl 1 (x21.With.map encI)]), (47, 30, .d (.sl 1 (x21.With.map encI))), (48, 31, .d (.sl 6 (b_1.map encApiJob))), (49, 32, .d (.lit (.int .i64 i_0_2))), (50, 33, .cp [.lit (.int .i64 x23.Length.Low), .lit (.int .i64 x23.Length.High), .sl 1 (x23.After.map encI), .sl 1 (x23.With.map encI), .lit (.int .i64 x23.Due), .lit (.int .i64 x23.Earliest)]), (51, 34, .cp [.sl 1 (x23.With.map encI)]), (52, 35, .d (.sl 1 (x23.With.map encI))), (53, 36, .d (.lit (.bool r25))), (54, 37, .d (.lit (.bool (!r25)))), (55, 38, .d (.lit (.bool (!r25)))), (56, 39, .d (.lit (.bool (!r25)))), (57, 40, .d (.sl 6 (a_0.map encApiJob))), (58, 41, .d (.lit (.int .i64 i_0_2))), (59, 42, .cp [.lit (.int .i64 x30.Length.Low), .lit (.int .i64 x30.Length.High), .sl 1 (x30.After.map encI), .sl 1 (x30.With.map encI), .lit (.int .i64 x30.Due), .lit (.int .i64 x30.Earliest)]), (60, 43, .cp [.lit (.int .i64 x30.Due)]), (61, 44, .d (.lit (.int .i64 x30.Due))), (62, 45, .d (.sl 6 (b_1.map encApiJob))), (63, 46, .d (.lit (.int .i64 i_0_2))), (64, 47, .cp [.lit (.int .i64 x32.Length.Low), .lit (.int .i64 x32.Length.High), .sl 1 (x32.After.map encI), .sl 1 (x32.With.map encI), .lit (.int .i64 x32.Due), .lit (.int .i64 x32.Earliest)]), (65, 48, .cp [.lit (.int .i64 x32.Due)]), (66, 49, .d (.lit (.int .i64 x32.Due))), (67, 50, .d (.lit (.bool ((!decide (x30.Due = x32.Due)))))), (68, 51, .d (.lit (.bool ((!decide (x30.Due = x32.Due)))))), (69, 52, .d (.lit (.bool (!decide (x30.Due = x32.Due))))), (70, 53, .d (.sl 6 (a_0.map encApiJob))), (71, 54, .d (.lit (.int .i64 i_0_2))), (72, 55, .cp [.lit (.int .i64 x37.Length.Low), .lit (.int .i64 x37.Length.High), .sl 1 (x37.After.map encI), .sl 1 (x37.With.map encI), .lit (.int .i64 x37.Due), .lit (.int .i64 x37.Earliest)]), (73, 56, .cp [.lit (.int .i64 x37.Earliest)]), (74, 57, .d (.lit (.int .i64 x37.Earliest))), (75, 58, .d (.sl 6 (b_1.map encApiJob))), (76, 59, .d (.lit (.int .i64 i_0_2))), (77, 60, .cp [.lit (.int .i64 x39.Length.Low), .lit (.int .i64 x39.Length.High), .sl 1 (x39.After.map encI), .sl 1 (x39.With.map encI), .lit (.int .i64 x39.Due), .lit (.int .i64 x39.Earliest)]), (78, 61, .cp [.lit (.int .i64 x39.Earliest)]), (79, 62, .d (.lit (.int .i64 x39.Earliest))), (80, 63, .d (.lit (.bool ((!decide (x37.Earliest = x39.Earliest)))))), (81, 64, .d (.lit (.bool ((!decide (x37.Earliest = x39.Earliest))))))], ?_, ?_⟩
                · exact ⟨by kernel_rfl, by kernel_rfl, by kernel_rfl, by kernel_rfl, by kernel_rfl, [([], []), ([], []), ([0, 1], []), ([2], []), ([3], []), ([], []), ([], []), ([5, 6], []), ([7], []), ([8], []), ([4, 9], []), ([10], []), ([11], []), ([11], []), ([11, 12, 13], []), ([11, 14], []), ([11, 15], []), ([11], []), ([11], []), ([11, 17, 18], []), ([11, 19], []), ([11, 20], []), ([11, 16, 21], []), ([11, 22], []), ([11, 23], []), ([24], []), ([25], []), ([25], []), ([25, 26, 27], []), ([25, 28], []), ([25, 29], []), ([25], []), ([25], []), ([25, 31, 32], []), ([25, 33], []), ([25, 34], []), ([25, 30, 35], []), ([25, 36], []), ([25, 37], []), ([38], []), ([39], []), ([39], []), ([39, 40, 41], []), ([39, 42], []), ([39, 43], []), ([39], []), ([39], []), ([39, 45, 46], []), ([39, 47], []), ([39, 48], []), ([39, 44, 49], []), ([39, 50], []), ([51], []), ([52], []), ([52], []), ([52, 53, 54], []), ([52, 55], []), ([52, 56], []), ([52], []), ([52], []), ([52, 58, 59], []), ([52, 60], []), ([52, 61], []), ([52, 57, 62], []), ([52, 63], [])], by kernel_rfl, ⟨fun S hS => g_fin rfl (g_op rfl (s_move (v := .d (.sl 6 (a_0.map encApiJob))) (lt_of rfl) (ov_ev hS rfl) rfl)),
      fun S hS => g_fin rfl (g_op rfl (s_move (v := .d (.lit (.int .i64 i_0_2))) (lt_of rfl) (ov_ev hS rfl) rfl)),
      fun S hS => g_fin rfl (g_op rfl (s_index_sl (lt_of rfl) (ov_ev hS rfl) (ov_ev hS rfl) sl_23.of (idx_map encApiJob h6))),
      fun S hS => g_fin rfl (g_op rfl (s_field_cp (lt_of rfl) (ov_ev hS rfl) fld_36_0 (es := [.lit (.int .i64 x5.Length.Low), .lit (.int .i64 x5.Length.High)]) rfl)),
      fun S hS => g_fin rfl (g_op rfl (s_loada_cp (lt_of rfl) (ov_ev hS rfl) agg_34 (es := (encApiSpan x5.Length)) rfl rfl)),
      fun S hS => g_fin rfl (g_op rfl (s_move (v := .d (.sl 6 (b_1.map encApiJob))) (lt_of rfl) (ov_ev hS rfl) rfl)),
      fun S hS => g_fin rfl (g_op rfl (s_move (v := .d (.lit (.int .i64 i_0_2))) (lt_of rfl) (ov_ev hS rfl) rfl)),
      fun S hS => g_fin rfl (g_op rfl (s_index_sl (lt_of rfl) (ov_ev hS rfl) (ov_ev hS rfl) sl_23.of (idx_map encApiJob h8))),
      fun S hS => g_fin rfl (g_op rfl (s_field_cp (lt_of rfl) (ov_ev hS rfl) fld_36_0 (es := [.lit (.int .i64 x7.Length.Low), .lit (.int .i64 x7.Length.High)]) rfl)),
      fun S hS => g_fin rfl (g_op rfl (s_loada_cp (lt_of rfl) (ov_ev hS rfl) agg_34 (es := (encApiSpan x7.Length)) rfl rfl)),
      fun S hS => g_fin rfl (g_op rfl (s_nes (a := x5.Length) (b := x7.Length) (lt_of rfl) (ov_ev hS rfl) (ov_ev hS rfl) rfl rfl Try.eqGuardType34 eqt_34)),
      fun S hS => g_fin rfl (g_op rfl (s_move (v := .d (.lit (.bool ((!decide (x5.Length = x7.Length)))))) (lt_of rfl) (ov_ev hS rfl) rfl)),
      fun S hS => g_fin rfl (g_take rfl rfl (lt_of rfl) (ov_en hS rfl) c11 (s_move (v := .d (.sl 6 (a_0.map encApiJob))) (lt_of rfl) (ov_ev hS rfl) rfl)),
      fun S hS => g_fin rfl (g_take rfl rfl (lt_of rfl) (ov_en hS rfl) c11 (s_move (v := .d (.lit (.int .i64 i_0_2))) (lt_of rfl) (ov_ev hS rfl) rfl)),
      fun S hS => g_fin rfl (g_take rfl rfl (lt_of rfl) (ov_en hS rfl) c11 (s_index_sl (lt_of rfl) (ov_ev hS rfl) (ov_ev hS rfl) sl_23.of (idx_map encApiJob h13))),
      fun S hS => g_fin rfl (g_take rfl rfl (lt_of rfl) (ov_en hS rfl) c11 (s_field_cp (lt_of rfl) (ov_ev hS rfl) fld_36_1 (es := [.sl 1 (x12.After.map encI)]) rfl)),
      fun S hS => g_fin rfl (g_take rfl rfl (lt_of rfl) (ov_en hS rfl) c11 (s_load_cp (lt_of rfl) (ov_ev hS rfl) one_27)),
      fun S hS => g_fin rfl (g_take rfl rfl (lt_of rfl) (ov_en hS rfl) c11 (s_move (v := .d (.sl 6 (b_1.map encApiJob))) (lt_of rfl) (ov_ev hS rfl) rfl)),
      fun S hS => g_fin rfl (g_take rfl rfl (lt_of rfl) (ov_en hS rfl) c11 (s_move (v := .d (.lit (.int .i64 i_0_2))) (lt_of rfl) (ov_ev hS rfl) rfl)),
      fun S hS => g_fin rfl (g_take rfl rfl (lt_of rfl) (ov_en hS rfl) c11 (s_index_sl (lt_of rfl) (ov_ev hS rfl) (ov_ev hS rfl) sl_23.of (idx_map encApiJob h15))),
      fun S hS => g_fin rfl (g_take rfl rfl (lt_of rfl) (ov_en hS rfl) c11 (s_field_cp (lt_of rfl) (ov_ev hS rfl) fld_36_1 (es := [.sl 1 (x14.After.map encI)]) rfl)),
      fun S hS => g_fin rfl (g_take rfl rfl (lt_of rfl) (ov_en hS rfl) c11 (s_load_cp (lt_of rfl) (ov_ev hS rfl) one_27)),
      fun S hS => g_fin rfl (g_take rfl rfl (lt_of rfl) (ov_en hS rfl) c11 (s_call (lt_of rfl) (.func _ _ Try.call66) (ev2 (ov_ev hS rfl) (ev2 (ov_ev hS rfl) evn)) rfl (BVs.refl _ _) (deucelaw08_sameInts_c _ _ h17) rfl)),
      fun S hS => g_fin rfl (g_take rfl rfl (lt_of rfl) (ov_en hS rfl) c11 (s_not (lt_of rfl) (ov_ev hS rfl))),
      fun S hS => g_fin rfl (g_op rfl (s_pick_f (v := .d (.lit (.bool (!r16)))) (lt_of rfl) (ov_ev hS rfl) c11 (ov_ev hS rfl) rfl)),
      fun S hS => g_fin rfl (g_op rfl (s_move (v := .d (.lit (.bool (!r16)))) (lt_of rfl) (ov_ev hS rfl) rfl)),
      fun S hS => g_fin rfl (g_take rfl rfl (lt_of rfl) (ov_en hS rfl) c20 (s_move (v := .d (.sl 6 (a_0.map encApiJob))) (lt_of rfl) (ov_ev hS rfl) rfl)),
      fun S hS => g_fin rfl (g_take rfl rfl (lt_of rfl) (ov_en hS rfl) c20 (s_move (v := .d (.lit (.int .i64 i_0_2))) (lt_of rfl) (ov_ev hS rfl) rfl)),
      fun S hS => g_fin rfl (g_take rfl rfl (lt_of rfl) (ov_en hS rfl) c20 (s_index_sl (lt_of rfl) (ov_ev hS rfl) (ov_ev hS rfl) sl_23.of (idx_map encApiJob h22))),
      fun S hS => g_fin rfl (g_take rfl rfl (lt_of rfl) (ov_en hS rfl) c20 (s_field_cp (lt_of rfl) (ov_ev hS rfl) fld_36_2 (es := [.sl 1 (x21.With.map encI)]) rfl)),
      fun S hS => g_fin rfl (g_take rfl rfl (lt_of rfl) (ov_en hS rfl) c20 (s_load_cp (lt_of rfl) (ov_ev hS rfl) one_27)),
      fun S hS => g_fin rfl (g_take rfl rfl (lt_of rfl) (ov_en hS rfl) c20 (s_move (v := .d (.sl 6 (b_1.map encApiJob))) (lt_of rfl) (ov_ev hS rfl) rfl)),
      fun S hS => g_fin rfl (g_take rfl rfl (lt_of rfl) (ov_en hS rfl) c20 (s_move (v := .d (.lit (.int .i64 i_0_2))) (lt_of rfl) (ov_ev hS rfl) rfl)),
      fun S hS => g_fin rfl (g_take rfl rfl (lt_of rfl) (ov_en hS rfl) c20 (s_index_sl (lt_of rfl) (ov_ev hS rfl) (ov_ev hS rfl) sl_23.of (idx_map encApiJob h24))),
      fun S hS => g_fin rfl (g_take rfl rfl (lt_of rfl) (ov_en hS rfl) c20 (s_field_cp (lt_of rfl) (ov_ev hS rfl) fld_36_2 (es := [.sl 1 (x23.With.map encI)]) rfl)),
      fun S hS => g_fin rfl (g_take rfl rfl (lt_of rfl) (ov_en hS rfl) c20 (s_load_cp (lt_of rfl) (ov_ev hS rfl) one_27)),
      fun S hS => g_fin rfl (g_take rfl rfl (lt_of rfl) (ov_en hS rfl) c20 (s_call (lt_of rfl) (.func _ _ Try.call66) (ev2 (ov_ev hS rfl) (ev2 (ov_ev hS rfl) evn)) rfl (BVs.refl _ _) (deucelaw08_sameInts_c _ _ h26) rfl)),
      fun S hS => g_fin rfl (g_take rfl rfl (lt_of rfl) (ov_en hS rfl) c20 (s_not (lt_of rfl) (ov_ev hS rfl))),
      fun S hS => g_fin rfl (g_op rfl (s_pick_f (v := .d (.lit (.bool (!r25)))) (lt_of rfl) (ov_ev hS rfl) c20 (ov_ev hS rfl) rfl)),
      fun S hS => g_fin rfl (g_op rfl (s_move (v := .d (.lit (.bool (!r25)))) (lt_of rfl) (ov_ev hS rfl) rfl)),
      fun S hS => g_fin rfl (g_take rfl rfl (lt_of rfl) (ov_en hS rfl) c29 (s_move (v := .d (.sl 6 (a_0.map encApiJob))) (lt_of rfl) (ov_ev hS rfl) rfl)),
      fun S hS => g_fin rfl (g_take rfl rfl (lt_of rfl) (ov_en hS rfl) c29 (s_move (v := .d (.lit (.int .i64 i_0_2))) (lt_of rfl) (ov_ev hS rfl) rfl)),
      fun S hS => g_fin rfl (g_take rfl rfl (lt_of rfl) (ov_en hS rfl) c29 (s_index_sl (lt_of rfl) (ov_ev hS rfl) (ov_ev hS rfl) sl_23.of (idx_map encApiJob h31))),
      fun S hS => g_fin rfl (g_take rfl rfl (lt_of rfl) (ov_en hS rfl) c29 (s_field_cp (lt_of rfl) (ov_ev hS rfl) fld_36_3 (es := [.lit (.int .i64 x30.Due)]) rfl)),
      fun S hS => g_fin rfl (g_take rfl rfl (lt_of rfl) (ov_en hS rfl) c29 (s_load_cp (lt_of rfl) (ov_ev hS rfl) one_3)),
      fun S hS => g_fin rfl (g_take rfl rfl (lt_of rfl) (ov_en hS rfl) c29 (s_move (v := .d (.sl 6 (b_1.map encApiJob))) (lt_of rfl) (ov_ev hS rfl) rfl)),
      fun S hS => g_fin rfl (g_take rfl rfl (lt_of rfl) (ov_en hS rfl) c29 (s_move (v := .d (.lit (.int .i64 i_0_2))) (lt_of rfl) (ov_ev hS rfl) rfl)),
      fun S hS => g_fin rfl (g_take rfl rfl (lt_of rfl) (ov_en hS rfl) c29 (s_index_sl (lt_of rfl) (ov_ev hS rfl) (ov_ev hS rfl) sl_23.of (idx_map encApiJob h33))),
      fun S hS => g_fin rfl (g_take rfl rfl (lt_of rfl) (ov_en hS rfl) c29 (s_field_cp (lt_of rfl) (ov_ev hS rfl) fld_36_3 (es := [.lit (.int .i64 x32.Due)]) rfl)),
      fun S hS => g_fin rfl (g_take rfl rfl (lt_of rfl) (ov_en hS rfl) c29 (s_load_cp (lt_of rfl) (ov_ev hS rfl) one_3)),
      fun S hS => g_fin rfl (g_take rfl rfl (lt_of rfl) (ov_en hS rfl) c29 (s_cmp (lt_of rfl) (ov_ev hS rfl) (ov_ev hS rfl) rfl)),
      fun S hS => g_fin rfl (g_op rfl (s_pick_f (v := .d (.lit (.bool ((!decide (x30.Due = x32.Due)))))) (lt_of rfl) (ov_ev hS rfl) c29 (ov_ev hS rfl) rfl)),
      fun S hS => g_fin rfl (g_op rfl (s_move (v := .d (.lit (.bool (!decide (x30.Due = x32.Due))))) (lt_of rfl) (ov_ev hS rfl) rfl)),
      fun S hS => g_fin rfl (g_take rfl rfl (lt_of rfl) (ov_en hS rfl) c36 (s_move (v := .d (.sl 6 (a_0.map encApiJob))) (lt_of rfl) (ov_ev hS rfl) rfl)),
      fun S hS => g_fin rfl (g_take rfl rfl (lt_of rfl) (ov_en hS rfl) c36 (s_move (v := .d (.lit (.int .i64 i_0_2))) (lt_of rfl) (ov_ev hS rfl) rfl)),
      fun S hS => g_fin rfl (g_take rfl rfl (lt_of rfl) (ov_en hS rfl) c36 (s_index_sl (lt_of rfl) (ov_ev hS rfl) (ov_ev hS rfl) sl_23.of (idx_map encApiJob h38))),
      fun S hS => g_fin rfl (g_take rfl rfl (lt_of rfl) (ov_en hS rfl) c36 (s_field_cp (lt_of rfl) (ov_ev hS rfl) fld_36_4 (es := [.lit (.int .i64 x37.Earliest)]) rfl)),
      fun S hS => g_fin rfl (g_take rfl rfl (lt_of rfl) (ov_en hS rfl) c36 (s_load_cp (lt_of rfl) (ov_ev hS rfl) one_3)),
      fun S hS => g_fin rfl (g_take rfl rfl (lt_of rfl) (ov_en hS rfl) c36 (s_move (v := .d (.sl 6 (b_1.map encApiJob))) (lt_of rfl) (ov_ev hS rfl) rfl)),
      fun S hS => g_fin rfl (g_take rfl rfl (lt_of rfl) (ov_en hS rfl) c36 (s_move (v := .d (.lit (.int .i64 i_0_2))) (lt_of rfl) (ov_ev hS rfl) rfl)),
      fun S hS => g_fin rfl (g_take rfl rfl (lt_of rfl) (ov_en hS rfl) c36 (s_index_sl (lt_of rfl) (ov_ev hS rfl) (ov_ev hS rfl) sl_23.of (idx_map encApiJob h40))),
      fun S hS => g_fin rfl (g_take rfl rfl (lt_of rfl) (ov_en hS rfl) c36 (s_field_cp (lt_of rfl) (ov_ev hS rfl) fld_36_4 (es := [.lit (.int .i64 x39.Earliest)]) rfl)),
      fun S hS => g_fin rfl (g_take rfl rfl (lt_of rfl) (ov_en hS rfl) c36 (s_load_cp (lt_of rfl) (ov_ev hS rfl) one_3)),
      fun S hS => g_fin rfl (g_take rfl rfl (lt_of rfl) (ov_en hS rfl) c36 (s_cmp (lt_of rfl) (ov_ev hS rfl) (ov_ev hS rfl) rfl)),
      fun S hS => g_fin rfl (g_op rfl (s_pick_f (v := .d (.lit (.bool ((!decide (x37.Earliest = x39.Earliest)))))) (lt_of rfl) (ov_ev hS rfl) c36 (ov_ev hS rfl) rfl)), trivial⟩⟩
                · exact ent_le (le_upd rfl (le_keep ⟨rfl, rfl, rfl, trivial⟩))
      · refine tr_nil ?_
        refine tr_if rfl (fun c41 => ?_) (fun c41 => ?_)
        · have h := cond_tt c41 h
          refine tr_seq ?_
          refine tr_region ?_
          refine tr1 rfl (s_assign (v := .d (.lit (.bool false))) (lt_of rfl) rfl rfl) ?_
          refine tr_nil ?_
          have h := Option.some.inj h
          subst h
          exact tr_ret ⟨rfl, _, .one _, rfl, rfl⟩
        · have h := cond_ff c41 h
          refine tr_skipb ?_
          refine tr_region ?_
          refine tr1 rfl (s_move (v := .d (.lit (.int .i64 i_0_2))) (lt_of rfl) rfl rfl) ?_
          refine tr1 rfl (s_arith (lt_of rfl) rfl rfl rfl) ?_
          refine tr1 rfl (s_assign (v := .d (.lit (.int .i64 ((w64 (i_0_2 + 1)))))) (lt_of rfl) rfl rfl) ?_
          refine tr_nil ?_
          exact ⟨(w64 (i_0_2 + 1)), h, ent_pick [] rfl rfl (le_upd rfl (le_keep ⟨rfl, rfl, trivial⟩))⟩
    · have h := cond_ff c4 h
      refine tr_exit ?_
      refine .inl ⟨rfl, ?_⟩
      simp only [deucelaw08_sameJobs_K0] at h
      refine tr_seq ?_
      refine tr_region ?_
      refine tr1 rfl (s_assign (v := .d (.lit (.bool true))) (lt_of rfl) rfl rfl) ?_
      refine tr_nil ?_
      have h := Option.some.inj h
      subst h
      exact tr_ret ⟨rfl, _, .one _, rfl, rfl⟩

theorem deucelaw08_PlayTimes_c (p_0 : ApiProgram) (order_1 : List ApiSeat) {r : Bool} (h : deucelaw08_PlayTimes p_0 order_1 = some r) : Fn Try.prog 5 [.agg (encApiProgram p_0), .d (.sl 3 (order_1.map encApiSeat))] (.d (.lit (.bool r))) := by
  unfold deucelaw08_PlayTimes at h
  refine Fn.of_tr Try.func5 rfl (rs := [.tmp 4]) Try.results5 Try.ntmps5 (Nat.le_of_ble_eq_true rfl) ?_
  refine tr_seq ?_
  refine tr_region ?_
  refine tr_op rfl (s_box (v := .agg (encApiProgram p_0)) (lt_of rfl) rfl rfl rfl) ?_
  rintro _ ⟨b1, rfl⟩
  refine tr1 rfl (s_assign (v := .d (.lit (.bool false))) (lt_of rfl) rfl rfl) ?_
  refine tr_nil ?_
  refine tr_seq ?_
  refine tr_seq ?_
  refine tr_region ?_
  refine tr1 rfl (s_loada_bp (lt_of rfl) rfl (i := 0) rfl agg_25 (es := (encApiProgram p_0)) rfl rfl) ?_
  obtain ⟨r2, h3, h⟩ := bind_some h
  refine tr1 rfl (s_call (lt_of rfl) (.func _ _ Try.call13) rfl rfl (BVs.refl _ _) (deucelaw08_huge_c _ h3) rfl) ?_
  refine tr1 rfl (s_move (v := .d (.lit (.bool r2))) (lt_of rfl) rfl rfl) ?_
  obtain ⟨b4, h5, h⟩ := bind_some h
  refine tr_guard 4 [1, 2] 25 b4 ?_ ?_
  · refine bool_cases (r2) (fun c56 => ?_) (fun c56 => ?_)
    · have h5 := cond_tt c56 h5
      refine tr_pass rfl rfl (lt_of rfl) rfl (lt_of rfl) rfl c56 ?_
      refine tr_pass rfl rfl (lt_of rfl) rfl (lt_of rfl) rfl c56 ?_
      refine tr_pass rfl rfl (lt_of rfl) rfl (lt_of rfl) rfl c56 ?_
      refine tr1 rfl (s_pick_t (v := .d (.lit (.bool true))) (lt_of rfl) rfl c56 rfl rfl) ?_
      have h5 := Option.some.inj h5
      subst h5
      refine tr_nil (ent_keep rfl ⟨rfl, rfl, trivial⟩ rfl)
    · have h5 := cond_ff c56 h5
      refine tr_take1 rfl rfl (lt_of rfl) rfl c56 (s_move (v := .d (.sl 3 (order_1.map encApiSeat))) (lt_of rfl) rfl rfl) ?_
      refine tr_take1 rfl rfl (lt_of rfl) rfl c56 (s_lenm (lt_of rfl) rfl sl_26.of) ?_
      refine tr_take1 rfl rfl (lt_of rfl) rfl c56 (s_cmp (lt_of rfl) rfl rfl rfl) ?_
      refine tr1 rfl (s_pick_f (v := .d (.lit (.bool ((decide (20 < (order_1.length : Int))))))) (lt_of rfl) rfl c56 rfl rfl) ?_
      have h5 := Option.some.inj h5
      subst h5
      refine tr_nil (ent_keep rfl ⟨rfl, rfl, trivial⟩ rfl)
  · refine tr_nil ?_
    refine tr_if rfl (fun c6 => ?_) (fun c6 => ?_)
    · have h := cond_tt c6 h
      refine tr_seq ?_
      refine tr_region ?_
      obtain ⟨r7, h8, h⟩ := bind_some h
      refine tr1 rfl (s_call (lt_of rfl) (.func _ _ Try.call16) rfl rfl (BVs.refl _ _) (deucelaw08_works_c h8) rfl) ?_
      refine tr1 rfl (s_assign (v := .d (.lit (.bool r7))) (lt_of rfl) rfl rfl) ?_
      refine tr_nil ?_
      have h := Option.some.inj h
      subst h
      refine tr_ent (ent_free (ble_keep (l := [4]) ⟨rfl, trivial⟩)) ?_
      exact tr_ret ⟨rfl, _, .one _, rfl, rfl⟩
    · have h := cond_ff c6 h
      refine tr_skip ?_
      refine tr_seq ?_
      refine tr_region ?_
      refine tr1 rfl (s_loada_bp (lt_of rfl) rfl (i := 0) rfl agg_25 (es := (encApiProgram p_0)) rfl rfl) ?_
      obtain ⟨r9, h10, h⟩ := bind_some h
      refine tr1 rfl (s_callf (lt_of rfl) (.func _ _ Try.call22) rfl rfl (deuceref08_Copy_c _ h10)) ?_
      refine tr1 rfl (s_move (v := .d (.sl 3 (order_1.map encApiSeat))) (lt_of rfl) rfl rfl) ?_
      obtain ⟨r11, h12, h⟩ := bind_some h
      refine tr1 rfl (s_callf (lt_of rfl) (.func _ _ Try.call24) rfl rfl (deucelaw08_copied_c _ h12)) ?_
      refine tr_op rfl (s_alloc (zs := [.sl 1 ((([] : List (List ApiSpan))).map encSl_ApiSpan), .lit (.int .i64 0), .sl 6 ((([] : List ApiJob)).map encApiJob)]) (lt_of rfl) Try.zeroValue25 rfl rfl) ?_
      rintro _ ⟨b13, rfl⟩
      refine tr1 rfl (s_store_bp (i := 1) rfl rfl rfl rfl rfl Try.sizeOf25 rfl (lt_of rfl) (Nat.le_of_ble_eq_true rfl) (ds' := (encApiProgram r9)) rfl) ?_
      refine tr1 rfl (s_assign (v := .d (.sl 3 (r11.map encApiSeat))) (lt_of rfl) rfl rfl) ?_
      refine tr_nil ?_
      refine tr_seq ?_
      refine tr_seq ?_
      obtain ⟨r14, h15, h⟩ := bind_some h
      refine tr_drawk mix 3 [1, 2, 5, 6] [(32, .d (.lit (.int .i64 r14))), (33, .agg (encApiProgram p_0))] ?_ ?_
      · refine ⟨[(31, 0, .agg (encApiProgram r9)), (32, 1, .d (.lit (.int .i64 r14))), (33, 2, .agg (encApiProgram p_0))], ?_, ?_⟩
        · exact ⟨by kernel_rfl, by kernel_rfl, by kernel_rfl, by kernel_rfl, by kernel_rfl, [([], []), ([0], []), ([], [])], by kernel_rfl, ⟨fun S hS => g_fin rfl (g_op rfl (s_loada_bp (lt_of rfl) (ov_ev hS rfl) (i := 1) rfl agg_25 (es := (encApiProgram r9)) rfl rfl)),
      fun S hS => g_fin rfl (g_op rfl (s_call (lt_of rfl) (.func _ _ Try.call25) (ev2 (ov_ev hS rfl) evn) rfl (BVs.refl _ _) (play_Check_c _ h15) rfl)),
      fun S hS => g_fin rfl (g_op rfl (s_loada_bp (lt_of rfl) (ov_ev hS rfl) (i := 0) rfl agg_25 (es := (encApiProgram p_0)) rfl rfl)), trivial⟩⟩
        · exact ent_le (le_upd rfl (le_upd rfl (le_keep ⟨rfl, rfl, rfl, rfl, trivial⟩)))
      · obtain ⟨r16, h17, h⟩ := bind_some h
        refine tr1 rfl (s_call (lt_of rfl) (.func _ _ Try.call14) rfl rfl (BVs.refl _ _) (deuceref08_Check_c _ h17) rfl) ?_
        refine tr1 rfl (s_cmp (lt_of rfl) rfl rfl rfl) ?_
        refine tr_nil ?_
        refine tr_if rfl (fun c18 => ?_) (fun c18 => ?_)
        · have h := cond_tt c18 h
          refine tr_seq ?_
          refine tr_region ?_
          refine tr1 rfl (s_assign (v := .d (.lit (.bool false))) (lt_of rfl) rfl rfl) ?_
          refine tr_nil ?_
          have h := Option.some.inj h
          subst h
          refine tr_ent (ent_free (ble_keep (l := [4]) ⟨rfl, trivial⟩)) ?_
          exact tr_ret ⟨rfl, _, .one _, rfl, rfl⟩
        · have h := cond_ff c18 h
          refine tr_skip ?_
          refine tr_seq ?_
          refine tr_region ?_
          refine tr1 rfl (s_loada_bp (lt_of rfl) rfl (i := 1) rfl agg_25 (es := (encApiProgram r9)) rfl rfl) ?_
          refine tr1 rfl (s_move (v := .d (.sl 3 (r11.map encApiSeat))) (lt_of rfl) rfl rfl) ?_
          obtain ⟨r19, h20, h⟩ := bind_some h
          refine tr1 rfl (s_callf (lt_of rfl) (.func _ _ Try.call17) rfl rfl (play_Times_c _ _ h20)) ?_
          refine tr1 rfl (s_move (v := .tup [.d (.sl 2 (r19.1.map encApiSpan)), .d (.sl 2 (r19.2.1.map encApiSpan)), .d (.lit (.int .i64 r19.2.2))]) (lt_of rfl) rfl rfl) ?_
          refine tr1 rfl (s_extract (lt_of rfl) rfl rfl) ?_
          refine tr1 rfl (s_extract (lt_of rfl) rfl rfl) ?_
          refine tr1 rfl (s_extract (lt_of rfl) rfl rfl) ?_
          refine tr1 rfl (s_assign (v := .d (.sl 2 (r19.1.map encApiSpan))) (lt_of rfl) rfl rfl) ?_
          refine tr1 rfl (s_assign (v := .d (.sl 2 (r19.2.1.map encApiSpan))) (lt_of rfl) rfl rfl) ?_
          refine tr1 rfl (s_assign (v := .d (.lit (.int .i64 r19.2.2))) (lt_of rfl) rfl rfl) ?_
          refine tr_nil ?_
          refine tr_seq ?_
          refine tr_region ?_
          refine tr1 rfl (s_loada_bp (lt_of rfl) rfl (i := 0) rfl agg_25 (es := (encApiProgram p_0)) rfl rfl) ?_
          refine tr1 rfl (s_move (v := .d (.sl 3 (order_1.map encApiSeat))) (lt_of rfl) rfl rfl) ?_
          obtain ⟨r21, h22, h⟩ := bind_some h
          refine tr1 rfl (s_callf (lt_of rfl) (.func _ _ Try.call26) rfl rfl (deuceref08_Times_c _ _ h22)) ?_
          refine tr1 rfl (s_move (v := .tup [.d (.sl 2 (r21.1.map encApiSpan)), .d (.sl 2 (r21.2.1.map encApiSpan)), .d (.lit (.int .i64 r21.2.2))]) (lt_of rfl) rfl rfl) ?_
          refine tr1 rfl (s_extract (lt_of rfl) rfl rfl) ?_
          refine tr1 rfl (s_extract (lt_of rfl) rfl rfl) ?_
          refine tr1 rfl (s_extract (lt_of rfl) rfl rfl) ?_
          refine tr1 rfl (s_assign (v := .d (.sl 2 (r21.1.map encApiSpan))) (lt_of rfl) rfl rfl) ?_
          refine tr1 rfl (s_assign (v := .d (.sl 2 (r21.2.1.map encApiSpan))) (lt_of rfl) rfl rfl) ?_
          refine tr1 rfl (s_assign (v := .d (.lit (.int .i64 r21.2.2))) (lt_of rfl) rfl rfl) ?_
          refine tr_nil ?_
          refine tr_seq ?_
          refine tr_region ?_
          refine tr1 rfl (s_loada_bp (lt_of rfl) rfl (i := 1) rfl agg_25 (es := (encApiProgram r9)) rfl rfl) ?_
          refine tr1 rfl (s_move (v := .d (.sl 3 (r11.map encApiSeat))) (lt_of rfl) rfl rfl) ?_
          obtain ⟨r23, h24, h⟩ := bind_some h
          refine tr1 rfl (s_call (lt_of rfl) (.func _ _ Try.call18) rfl rfl (BVs.refl _ _) (play_Fits_c _ _ h24) rfl) ?_
          refine tr1 rfl (s_move (v := .tup [.d (.lit (.bool r23.1)), .d (.lit (.int .i64 r23.2.1)), .d (.lit (.int .i64 r23.2.2))]) (lt_of rfl) rfl rfl) ?_
          refine tr1 rfl (s_extract (lt_of rfl) rfl rfl) ?_
          refine tr1 rfl (s_extract (lt_of rfl) rfl rfl) ?_
          refine tr1 rfl (s_extract (lt_of rfl) rfl rfl) ?_
          refine tr1 rfl (s_assign (v := .d (.lit (.bool r23.1))) (lt_of rfl) rfl rfl) ?_
          refine tr1 rfl (s_assign (v := .d (.lit (.int .i64 r23.2.1))) (lt_of rfl) rfl rfl) ?_
          refine tr1 rfl (s_assign (v := .d (.lit (.int .i64 r23.2.2))) (lt_of rfl) rfl rfl) ?_
          refine tr_nil ?_
          refine tr_seq ?_
          refine tr_region ?_
          refine tr1 rfl (s_loada_bp (lt_of rfl) rfl (i := 0) rfl agg_25 (es := (encApiProgram p_0)) rfl rfl) ?_
          refine tr1 rfl (s_move (v := .d (.sl 3 (order_1.map encApiSeat))) (lt_of rfl) rfl rfl) ?_
          obtain ⟨r25, h26, h⟩ := bind_some h
          refine tr1 rfl (s_call (lt_of rfl) (.func _ _ Try.call27) rfl rfl (BVs.refl _ _) (deuceref08_Fits_c _ _ h26) rfl) ?_
          refine tr1 rfl (s_move (v := .tup [.d (.lit (.bool r25.1)), .d (.lit (.int .i64 r25.2.1)), .d (.lit (.int .i64 r25.2.2))]) (lt_of rfl) rfl rfl) ?_
          refine tr1 rfl (s_extract (lt_of rfl) rfl rfl) ?_
          refine tr1 rfl (s_extract (lt_of rfl) rfl rfl) ?_
          refine tr1 rfl (s_extract (lt_of rfl) rfl rfl) ?_
          refine tr1 rfl (s_assign (v := .d (.lit (.bool r25.1))) (lt_of rfl) rfl rfl) ?_
          refine tr1 rfl (s_assign (v := .d (.lit (.int .i64 r25.2.1))) (lt_of rfl) rfl rfl) ?_
          refine tr1 rfl (s_assign (v := .d (.lit (.int .i64 r25.2.2))) (lt_of rfl) rfl rfl) ?_
          refine tr_nil ?_
          refine tr_seq ?_
          refine tr_region ?_
          refine tr1 rfl (s_move (v := .d (.sl 2 (r19.1.map encApiSpan))) (lt_of rfl) rfl rfl) ?_
          refine tr1 rfl (s_move (v := .d (.sl 2 (r21.1.map encApiSpan))) (lt_of rfl) rfl rfl) ?_
          obtain ⟨r27, h28, h⟩ := bind_some h
          refine tr1 rfl (s_call (lt_of rfl) (.func _ _ Try.call28) rfl rfl (BVs.refl _ _) (deucelaw08_sameSpans_c _ _ h28) rfl) ?_
          refine tr1 rfl (s_move (v := .d (.lit (.bool r27))) (lt_of rfl) rfl rfl) ?_
          obtain ⟨b29, h30, h⟩ := bind_some h
          refine tr_guard 4 [2, 5, 9, 12, 13, 14, 15, 16, 17, 18] 71 b29 ?_ ?_
          · refine bool_cases (r27) (fun c53 => ?_) (fun c53 => ?_)
            · have h30 := cond_tt c53 h30
              refine tr_take1 rfl rfl (lt_of rfl) rfl c53 (s_move (v := .d (.sl 2 (r19.2.1.map encApiSpan))) (lt_of rfl) rfl rfl) ?_
              refine tr_take1 rfl rfl (lt_of rfl) rfl c53 (s_move (v := .d (.sl 2 (r21.2.1.map encApiSpan))) (lt_of rfl) rfl rfl) ?_
              obtain ⟨r54, h55, h30⟩ := bind_some h30
              refine tr_take1 rfl rfl (lt_of rfl) rfl c53 (s_call (lt_of rfl) (.func _ _ Try.call28) rfl rfl (BVs.refl _ _) (deucelaw08_sameSpans_c _ _ h55) rfl) ?_
              refine tr1 rfl (s_pick_t (v := .d (.lit (.bool r54))) (lt_of rfl) rfl c53 rfl rfl) ?_
              have h30 := Option.some.inj h30
              subst h30
              refine tr_nil (ent_keep rfl ⟨rfl, rfl, rfl, rfl, rfl, rfl, rfl, rfl, rfl, rfl, trivial⟩ rfl)
            · have h30 := cond_ff c53 h30
              refine tr_pass rfl rfl (lt_of rfl) rfl (lt_of rfl) rfl c53 ?_
              refine tr_pass rfl rfl (lt_of rfl) rfl (lt_of rfl) rfl c53 ?_
              refine tr_pass rfl rfl (lt_of rfl) rfl (lt_of rfl) rfl c53 ?_
              refine tr1 rfl (s_pick_f (v := .d (.lit (.bool false))) (lt_of rfl) rfl c53 rfl rfl) ?_
              have h30 := Option.some.inj h30
              subst h30
              refine tr_nil (ent_keep rfl ⟨rfl, rfl, rfl, rfl, rfl, rfl, rfl, rfl, rfl, rfl, trivial⟩ rfl)
          · refine tr1 rfl (s_move (v := .d (.lit (.bool b29))) (lt_of rfl) rfl rfl) ?_
            obtain ⟨b31, h32, h⟩ := bind_some h
            refine tr_guard 4 [2, 5, 13, 14, 15, 16, 17, 18] 76 b31 ?_ ?_
            · refine bool_cases (b29) (fun c52 => ?_) (fun c52 => ?_)
              · have h32 := cond_tt c52 h32
                refine tr_take1 rfl rfl (lt_of rfl) rfl c52 (s_move (v := .d (.lit (.int .i64 r19.2.2))) (lt_of rfl) rfl rfl) ?_
                refine tr_take1 rfl rfl (lt_of rfl) rfl c52 (s_move (v := .d (.lit (.int .i64 r21.2.2))) (lt_of rfl) rfl rfl) ?_
                refine tr_take1 rfl rfl (lt_of rfl) rfl c52 (s_cmp (lt_of rfl) rfl rfl rfl) ?_
                refine tr1 rfl (s_pick_t (v := .d (.lit (.bool ((decide (r19.2.2 = r21.2.2)))))) (lt_of rfl) rfl c52 rfl rfl) ?_
                have h32 := Option.some.inj h32
                subst h32
                refine tr_nil (ent_keep rfl ⟨rfl, rfl, rfl, rfl, rfl, rfl, rfl, rfl, trivial⟩ rfl)
              · have h32 := cond_ff c52 h32
                refine tr_pass rfl rfl (lt_of rfl) rfl (lt_of rfl) rfl c52 ?_
                refine tr_pass rfl rfl (lt_of rfl) rfl (lt_of rfl) rfl c52 ?_
                refine tr_pass rfl rfl (lt_of rfl) rfl (lt_of rfl) rfl c52 ?_
                refine tr1 rfl (s_pick_f (v := .d (.lit (.bool false))) (lt_of rfl) rfl c52 rfl rfl) ?_
                have h32 := Option.some.inj h32
                subst h32
                refine tr_nil (ent_keep rfl ⟨rfl, rfl, rfl, rfl, rfl, rfl, rfl, rfl, trivial⟩ rfl)
            · refine tr1 rfl (s_move (v := .d (.lit (.bool b31))) (lt_of rfl) rfl rfl) ?_
              obtain ⟨b33, h34, h⟩ := bind_some h
              refine tr_guard 4 [2, 5, 14, 15, 17, 18] 81 b33 ?_ ?_
              · refine bool_cases (b31) (fun c51 => ?_) (fun c51 => ?_)
                · have h34 := cond_tt c51 h34
                  refine tr_take1 rfl rfl (lt_of rfl) rfl c51 (s_move (v := .d (.lit (.bool r23.1))) (lt_of rfl) rfl rfl) ?_
                  refine tr_take1 rfl rfl (lt_of rfl) rfl c51 (s_move (v := .d (.lit (.bool r25.1))) (lt_of rfl) rfl rfl) ?_
                  refine tr_take1 rfl rfl (lt_of rfl) rfl c51 (s_eqb (lt_of rfl) rfl rfl Try.underlying4) ?_
                  refine tr1 rfl (s_pick_t (v := .d (.lit (.bool ((decide (r23.1 = r25.1)))))) (lt_of rfl) rfl c51 rfl rfl) ?_
                  have h34 := Option.some.inj h34
                  subst h34
                  refine tr_nil (ent_keep rfl ⟨rfl, rfl, rfl, rfl, rfl, rfl, trivial⟩ rfl)
                · have h34 := cond_ff c51 h34
                  refine tr_pass rfl rfl (lt_of rfl) rfl (lt_of rfl) rfl c51 ?_
                  refine tr_pass rfl rfl (lt_of rfl) rfl (lt_of rfl) rfl c51 ?_
                  refine tr_pass rfl rfl (lt_of rfl) rfl (lt_of rfl) rfl c51 ?_
                  refine tr1 rfl (s_pick_f (v := .d (.lit (.bool false))) (lt_of rfl) rfl c51 rfl rfl) ?_
                  have h34 := Option.some.inj h34
                  subst h34
                  refine tr_nil (ent_keep rfl ⟨rfl, rfl, rfl, rfl, rfl, rfl, trivial⟩ rfl)
              · refine tr1 rfl (s_move (v := .d (.lit (.bool b33))) (lt_of rfl) rfl rfl) ?_
                obtain ⟨b35, h36, h⟩ := bind_some h
                refine tr_guard 4 [2, 5, 15, 18] 86 b35 ?_ ?_
                · refine bool_cases (b33) (fun c50 => ?_) (fun c50 => ?_)
                  · have h36 := cond_tt c50 h36
                    refine tr_take1 rfl rfl (lt_of rfl) rfl c50 (s_move (v := .d (.lit (.int .i64 r23.2.1))) (lt_of rfl) rfl rfl) ?_
                    refine tr_take1 rfl rfl (lt_of rfl) rfl c50 (s_move (v := .d (.lit (.int .i64 r25.2.1))) (lt_of rfl) rfl rfl) ?_
                    refine tr_take1 rfl rfl (lt_of rfl) rfl c50 (s_cmp (lt_of rfl) rfl rfl rfl) ?_
                    refine tr1 rfl (s_pick_t (v := .d (.lit (.bool ((decide (r23.2.1 = r25.2.1)))))) (lt_of rfl) rfl c50 rfl rfl) ?_
                    have h36 := Option.some.inj h36
                    subst h36
                    refine tr_nil (ent_keep rfl ⟨rfl, rfl, rfl, rfl, trivial⟩ rfl)
                  · have h36 := cond_ff c50 h36
                    refine tr_pass rfl rfl (lt_of rfl) rfl (lt_of rfl) rfl c50 ?_
                    refine tr_pass rfl rfl (lt_of rfl) rfl (lt_of rfl) rfl c50 ?_
                    refine tr_pass rfl rfl (lt_of rfl) rfl (lt_of rfl) rfl c50 ?_
                    refine tr1 rfl (s_pick_f (v := .d (.lit (.bool false))) (lt_of rfl) rfl c50 rfl rfl) ?_
                    have h36 := Option.some.inj h36
                    subst h36
                    refine tr_nil (ent_keep rfl ⟨rfl, rfl, rfl, rfl, trivial⟩ rfl)
                · refine tr1 rfl (s_move (v := .d (.lit (.bool b35))) (lt_of rfl) rfl rfl) ?_
                  obtain ⟨b37, h38, h⟩ := bind_some h
                  refine tr_guard 4 [2, 5] 91 b37 ?_ ?_
                  · refine bool_cases (b35) (fun c49 => ?_) (fun c49 => ?_)
                    · have h38 := cond_tt c49 h38
                      refine tr_take1 rfl rfl (lt_of rfl) rfl c49 (s_move (v := .d (.lit (.int .i64 r23.2.2))) (lt_of rfl) rfl rfl) ?_
                      refine tr_take1 rfl rfl (lt_of rfl) rfl c49 (s_move (v := .d (.lit (.int .i64 r25.2.2))) (lt_of rfl) rfl rfl) ?_
                      refine tr_take1 rfl rfl (lt_of rfl) rfl c49 (s_cmp (lt_of rfl) rfl rfl rfl) ?_
                      refine tr1 rfl (s_pick_t (v := .d (.lit (.bool ((decide (r23.2.2 = r25.2.2)))))) (lt_of rfl) rfl c49 rfl rfl) ?_
                      have h38 := Option.some.inj h38
                      subst h38
                      refine tr_nil (ent_keep rfl ⟨rfl, rfl, trivial⟩ rfl)
                    · have h38 := cond_ff c49 h38
                      refine tr_pass rfl rfl (lt_of rfl) rfl (lt_of rfl) rfl c49 ?_
                      refine tr_pass rfl rfl (lt_of rfl) rfl (lt_of rfl) rfl c49 ?_
                      refine tr_pass rfl rfl (lt_of rfl) rfl (lt_of rfl) rfl c49 ?_
                      refine tr1 rfl (s_pick_f (v := .d (.lit (.bool false))) (lt_of rfl) rfl c49 rfl rfl) ?_
                      have h38 := Option.some.inj h38
                      subst h38
                      refine tr_nil (ent_keep rfl ⟨rfl, rfl, trivial⟩ rfl)
                  · refine tr1 rfl (s_move (v := .d (.lit (.bool b37))) (lt_of rfl) rfl rfl) ?_
                    obtain ⟨b39, h40, h⟩ := bind_some h
                    refine tr_guard 6 [] 98 b39 ?_ ?_
                    · refine bool_cases (b37) (fun c46 => ?_) (fun c46 => ?_)
                      · have h40 := cond_tt c46 h40
                        refine tr_take1 rfl rfl (lt_of rfl) rfl c46 (s_field_bp (lt_of rfl) rfl fld_25_2) ?_
                        refine tr_take1 rfl rfl (lt_of rfl) rfl c46 (s_load_bp (lt_of rfl) rfl (i := 1) rfl rfl one_23) ?_
                        refine tr_take1 rfl rfl (lt_of rfl) rfl c46 (s_field_bp (lt_of rfl) rfl fld_25_2) ?_
                        refine tr_take1 rfl rfl (lt_of rfl) rfl c46 (s_load_bp (lt_of rfl) rfl (i := 0) rfl rfl one_23) ?_
                        obtain ⟨r47, h48, h40⟩ := bind_some h40
                        refine tr_take1 rfl rfl (lt_of rfl) rfl c46 (s_call (lt_of rfl) (.func _ _ Try.call29) rfl rfl (BVs.refl _ _) (deucelaw08_sameJobs_c _ _ h48) rfl) ?_
                        refine tr1 rfl (s_pick_t (v := .d (.lit (.bool r47))) (lt_of rfl) rfl c46 rfl rfl) ?_
                        have h40 := Option.some.inj h40
                        subst h40
                        refine tr_nil (ent_keep rfl trivial rfl)
                      · have h40 := cond_ff c46 h40
                        refine tr_pass rfl rfl (lt_of rfl) rfl (lt_of rfl) rfl c46 ?_
                        refine tr_pass rfl rfl (lt_of rfl) rfl (lt_of rfl) rfl c46 ?_
                        refine tr_pass rfl rfl (lt_of rfl) rfl (lt_of rfl) rfl c46 ?_
                        refine tr_pass rfl rfl (lt_of rfl) rfl (lt_of rfl) rfl c46 ?_
                        refine tr_pass rfl rfl (lt_of rfl) rfl (lt_of rfl) rfl c46 ?_
                        refine tr1 rfl (s_pick_f (v := .d (.lit (.bool false))) (lt_of rfl) rfl c46 rfl rfl) ?_
                        have h40 := Option.some.inj h40
                        subst h40
                        refine tr_nil (ent_keep rfl trivial rfl)
                    · refine tr1 rfl (s_move (v := .d (.lit (.bool b39))) (lt_of rfl) rfl rfl) ?_
                      obtain ⟨b41, h42, h⟩ := bind_some h
                      refine tr_guard 2 [] 101 b41 ?_ ?_
                      · refine bool_cases (b39) (fun c43 => ?_) (fun c43 => ?_)
                        · have h42 := cond_tt c43 h42
                          obtain ⟨r44, h45, h42⟩ := bind_some h42
                          refine tr_take1 rfl rfl (lt_of rfl) rfl c43 (s_call (lt_of rfl) (.func _ _ Try.call16) rfl rfl (BVs.refl _ _) (deucelaw08_works_c h45) rfl) ?_
                          refine tr1 rfl (s_pick_t (v := .d (.lit (.bool r44))) (lt_of rfl) rfl c43 rfl rfl) ?_
                          have h42 := Option.some.inj h42
                          subst h42
                          refine tr_nil (ent_keep rfl trivial rfl)
                        · have h42 := cond_ff c43 h42
                          refine tr_pass rfl rfl (lt_of rfl) rfl (lt_of rfl) rfl c43 ?_
                          refine tr1 rfl (s_pick_f (v := .d (.lit (.bool false))) (lt_of rfl) rfl c43 rfl rfl) ?_
                          have h42 := Option.some.inj h42
                          subst h42
                          refine tr_nil (ent_keep rfl trivial rfl)
                      · refine tr1 rfl (s_assign (v := .d (.lit (.bool b41))) (lt_of rfl) rfl rfl) ?_
                        refine tr_nil ?_
                        have h := Option.some.inj h
                        subst h
                        refine tr_ent (ent_free (ble_keep (l := [4]) ⟨rfl, trivial⟩)) ?_
                        exact tr_ret ⟨rfl, _, .one _, rfl, rfl⟩

end Go.Am
