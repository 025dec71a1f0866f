/- The functions compute what the shallow ones say: printed by program. -/
import Derived.Test.YtikcmpflkibomaaPlayEasierSimP1
namespace Go.Am
open Go.Proofs
set_option maxRecDepth 100000
set_option maxHeartbeats 4000000

theorem play_day_play_c (d_0 : PlayDay) (p_1 : ApiProgram) (s_2 : ApiSeat) (length_3 : Int) {r : Int × Int × PlayDay} {d_0_b d_0_o : Nat} {d_0_post : List D} (h : play_day_play d_0 p_1 s_2 length_3 = some r) : ACalls Try.prog 87 [.bp d_0_b d_0_o 0, .agg (encApiProgram p_1), .agg (encApiSeat s_2), .d (.lit (.int .i64 length_3))] [.box d_0_b d_0_o ((encPlayDay d_0) ++ d_0_post)] (fun r' o' => r' = .tup [.d (.lit (.int .i64 r.1)), .d (.lit (.int .i64 r.2.1))] ∧ o' = [.box d_0_b d_0_o ((encPlayDay r.2.2) ++ d_0_post)]) := by
 unfold play_day_play at h
 refine acalls_tr Try.func87 rfl (rs := [.tmp 8, .tmp 9]) Try.results87 Try.ntmps87 (Nat.le_of_ble_eq_true rfl) ?_
 refine tr_seq ?_
 refine tr_region ?_
 refine tr_op rfl (s_box (v := .agg (encApiProgram p_1)) (lt_of rfl) rfl rfl rfl) ?_
 rintro _ ⟨b1, rfl⟩
 refine tr_op rfl (s_box (v := .agg (encApiSeat s_2)) (lt_of rfl) rfl rfl rfl) ?_
 rintro _ ⟨b2, rfl⟩
 refine tr1 rfl (s_assign (v := .d (.lit (.int .i64 0))) (lt_of rfl) rfl rfl) ?_
 refine tr1 rfl (s_assign (v := .d (.lit (.int .i64 0))) (lt_of rfl) rfl rfl) ?_
 refine tr_nil ?_
 refine tr_seq ?_
 obtain ⟨u3, h4, h⟩ := bind_some h
 obtain ⟨x5, h6, h⟩ := bind_some h
 refine tr_drawk mix 14 [0, 3, 5, 6] [(18, .d (.lit (.int .i64 ((d_0.free.at s_2.Court))))), (25, .d (.lit (.int .i64 x5.Earliest)))] ?_ ?_
 ·refine ⟨[(12, 0, .bp d_0_b d_0_o 0), (13, 1, .bp b2 0 2), (14, 2, .d (.lit (.int .i64 s_2.Court))), (15, 3, .bp d_0_b d_0_o 0), (16, 4, .bp d_0_b d_0_o 1), (17, 5, .bp d_0_b d_0_o (1 + s_2.Court.toNat * 1)), (18, 6, .d (.lit (.int .i64 ((d_0.free.at s_2.Court))))), (19, 7, .bp b1 0 2), (20, 8, .d (.sl 6 (p_1.Jobs.map encApiJob))), (21, 9, .bp b2 0 0), (22, 10, .d (.lit (.int .i64 s_2.Job))), (23, 11, .cp [.lit (.int .i64 x5.Length.Low), .lit (.int .i64 x5.Length.High), .sl 1 (x5.After.map encI), .sl 1 (x5.With.map encI), .lit (.int .i64 x5.Due), .lit (.int .i64 x5.Earliest)]), (24, 12, .cp [.lit (.int .i64 x5.Earliest)]), (25, 13, .d (.lit (.int .i64 x5.Earliest)))], ?_, ?_⟩
  · exact ⟨by kernel_rfl, by kernel_rfl, by kernel_rfl, by kernel_rfl, by kernel_rfl, [([], []), ([], []), ([1], []), ([0], []), ([3], []), ([2, 4], []), ([5], []), ([], []), ([7], []), ([], []), ([9], []), ([8, 10], []), ([11], []), ([12], [])], by kernel_rfl, ⟨fun S hS => g_fin rfl (g_op rfl (s_move (v := .bp d_0_b d_0_o 0) (lt_of rfl) (ov_ev hS rfl) rfl)),
      fun S hS => g_fin rfl (g_op rfl (s_field_bp (lt_of rfl) (ov_ev hS rfl) fld_45_2)),
      fun S hS => g_fin rfl (g_op rfl (s_load_bp (lt_of rfl) (ov_ev hS rfl) (i := 2) rfl rfl one_3)),
      fun S hS => g_fin rfl (g_op rfl (s_nilck_bp (lt_of rfl) (ov_ev hS rfl))),
      fun S hS => g_fin rfl (g_op rfl (s_field_bp (lt_of rfl) (ov_ev hS rfl) fld_124_1)),
      fun S hS => g_fin rfl (g_op rfl (s_aindex_bp (lt_of rfl) (ov_ev hS rfl) (ov_ev hS rfl) arr_121 (inb_spec h4).1 (inb_spec h4).2)),
      fun S hS => g_fin rfl (g_op rfl (s_load_bp (lt_of rfl) (ov_ev hS rfl) (i := 0) rfl (A3.cellI (a := d_0.free) h4 rfl rfl rfl) one_3)),
      fun S hS => g_fin rfl (g_op rfl (s_field_bp (lt_of rfl) (ov_ev hS rfl) fld_25_2)),
      fun S hS => g_fin rfl (g_op rfl (s_load_bp (lt_of rfl) (ov_ev hS rfl) (i := 1) rfl rfl one_23)),
      fun S hS => g_fin rfl (g_op rfl (s_field_bp (lt_of rfl) (ov_ev hS rfl) fld_45_0)),
      fun S hS => g_fin rfl (g_op rfl (s_load_bp (lt_of rfl) (ov_ev hS rfl) (i := 2) rfl rfl one_3)),
      fun S hS => g_fin rfl (g_op rfl (s_index_sl (lt_of rfl) (ov_ev hS rfl) (ov_ev hS rfl) sl_23.of (idx_map encApiJob h6))),
      fun S hS => g_fin rfl (g_op rfl (s_field_cp (lt_of rfl) (ov_ev hS rfl) fld_36_4 (es := [.lit (.int .i64 x5.Earliest)]) rfl)),
      fun S hS => g_fin rfl (g_op rfl (s_load_cp (lt_of rfl) (ov_ev hS rfl) one_3)), trivial⟩⟩
  · exact ent_le (le_upd rfl (le_upd rfl (le_keep ⟨rfl, rfl, rfl, rfl, trivial⟩)))
 ·refine tr1 rfl (s_max (lt_of rfl) rfl rfl) ?_
  refine tr1 rfl (s_assign (v := .d (.lit (.int .i64 ((max (d_0.free.at s_2.Court) x5.Earliest))))) (lt_of rfl) rfl rfl) ?_
  refine tr_nil ?_
  refine tr_seq ?_
  refine tr_seq ?_
  refine tr_region ?_
  refine tr1 rfl (s_move (v := .bp d_0_b d_0_o 0) (lt_of rfl) rfl rfl) ?_
  refine tr1 rfl (s_nilck_bp (lt_of rfl) rfl) ?_
  refine tr1 rfl (s_field_bp (lt_of rfl) rfl fld_124_2) ?_
  refine tr1 rfl (s_loada_bp (lt_of rfl) rfl (i := 0) rfl agg_122 (es := (encA6_I d_0.ends)) rfl rfl) ?_
  refine tr1 rfl (s_move (v := .d (.lit (.int .i64 0))) (lt_of rfl) rfl rfl) ?_
  refine tr_nil ?_
  refine tr_blk ?_
  refine tr_loopk [0, 3, 5, 6, 30] (fun (s7 : Int × Int) => [(8, .d (.lit (.int .i64 s7.1))), (31, .d (.lit (.int .i64 s7.2)))]) (fun (s7 : Int × Int) => [.box d_0_b d_0_o ((encPlayDay d_0) ++ d_0_post), .box b1 0 (encApiProgram p_1), .box b2 0 (encApiSeat s_2)]) (fun (k : Nat) (s7 : Int × Int) => play_day_play_L0 length_3 d_0.ends d_0 p_1 s_2 k s7.1 s7.2) (fun _ => rfl) (max (d_0.free.at s_2.Court) x5.Earliest, 0) h (ent_pick [0, 1, 2] rfl rfl (le_upd rfl (le_upd rfl (le_keep ⟨rfl, rfl, rfl, rfl, rfl, trivial⟩)))) ?_
  rintro k8 ⟨beginv_0_7, t31_0_7⟩ h
  simp only [play_day_play_L0] at h
  refine tr_seq ?_
  refine tr_region ?_
  refine tr1 rfl (s_cmp (lt_of rfl) rfl rfl rfl) ?_
  refine tr_nil ?_
  refine tr_seq ?_
  refine tr_if rfl (fun c9 => ?_) (fun c9 => ?_)
  ·have h := cond_tt c9 h
   refine tr_skip ?_
   refine tr_seq ?_
   refine tr_blk ?_
   refine tr_seq ?_
   refine tr_region ?_
   refine tr1 rfl (s_move (v := .d (.lit (.int .i64 t31_0_7))) (lt_of rfl) rfl rfl) ?_
   obtain ⟨u10, h11, h⟩ := bind_some h
   refine tr1 rfl (s_index_agg (lt_of rfl) rfl rfl arr_122 one_3 (inb_spec h11) (A6.celzI (a := d_0.ends) h11 rfl rfl rfl rfl rfl rfl)) ?_
   refine tr1 rfl (s_assign (v := .d (.lit (.int .i64 t31_0_7))) (lt_of rfl) rfl rfl) ?_
   refine tr1 rfl (s_assign (v := .d (.lit (.int .i64 ((d_0.ends.at t31_0_7))))) (lt_of rfl) rfl rfl) ?_
   refine tr_nil ?_
   refine tr_seq ?_
   refine tr_region ?_
   refine tr1 rfl (s_move (v := .d (.lit (.int .i64 ((d_0.ends.at t31_0_7))))) (lt_of rfl) rfl rfl) ?_
   refine tr1 rfl (s_cmp (lt_of rfl) rfl rfl rfl) ?_
   refine tr1 rfl (s_move (v := .d (.lit (.bool ((decide (0 < (d_0.ends.at t31_0_7))))))) (lt_of rfl) rfl rfl) ?_
   obtain ⟨b12, h13, h⟩ := bind_some h
   refine tr_guard 6 [0, 3, 5, 6, 8, 11, 30, 31] 43 b12 ?_ ?_
   ·refine bool_cases (decide (0 < (d_0.ends.at t31_0_7))) (fun c15 => ?_) (fun c15 => ?_)
    ·have h13 := cond_tt c15 h13
     refine tr_take1 rfl rfl (lt_of rfl) rfl c15 (s_loada_bp (lt_of rfl) rfl (i := 1) rfl agg_25 (es := (encApiProgram p_1)) rfl rfl) ?_
     refine tr_take1 rfl rfl (lt_of rfl) rfl c15 (s_field_bp (lt_of rfl) rfl fld_45_0) ?_
     refine tr_take1 rfl rfl (lt_of rfl) rfl c15 (s_load_bp (lt_of rfl) rfl (i := 2) rfl rfl one_3) ?_
     refine tr_take1 rfl rfl (lt_of rfl) rfl c15 (s_move (v := .d (.lit (.int .i64 t31_0_7))) (lt_of rfl) rfl rfl) ?_
     obtain ⟨r16, h17, h13⟩ := bind_some h13
     refine tr_take1 rfl rfl (lt_of rfl) rfl c15 (s_call (lt_of rfl) (.func _ _ Try.call109) rfl rfl (BVs.refl _ _) (play_share_c _ _ _ h17) rfl) ?_
     refine tr1 rfl (s_pick_t (v := .d (.lit (.bool r16))) (lt_of rfl) rfl c15 rfl rfl) ?_
     have h13 := Option.some.inj h13
     subst h13
     refine tr_nil (ent_keep rfl ⟨rfl, rfl, rfl, rfl, rfl, rfl, rfl, rfl, trivial⟩ rfl)
    ·have h13 := cond_ff c15 h13
     refine tr_pass rfl rfl (lt_of rfl) rfl (lt_of rfl) rfl c15 ?_
     refine tr_pass rfl rfl (lt_of rfl) rfl (lt_of rfl) rfl c15 ?_
     refine tr_pass rfl rfl (lt_of rfl) rfl (lt_of rfl) rfl c15 ?_
     refine tr_pass rfl rfl (lt_of rfl) rfl (lt_of rfl) rfl c15 ?_
     refine tr_pass rfl rfl (lt_of rfl) rfl (lt_of rfl) rfl c15 ?_
     refine tr1 rfl (s_pick_f (v := .d (.lit (.bool false))) (lt_of rfl) rfl c15 rfl rfl) ?_
     have h13 := Option.some.inj h13
     subst h13
     refine tr_nil (ent_keep rfl ⟨rfl, rfl, rfl, rfl, rfl, rfl, rfl, rfl, trivial⟩ rfl)
   ·refine tr_nil ?_
    refine tr_if rfl (fun c14 => ?_) (fun c14 => ?_)
    ·have h := cond_tt c14 h
     refine tr_region ?_
     refine tr1 rfl (s_move (v := .d (.lit (.int .i64 beginv_0_7))) (lt_of rfl) rfl rfl) ?_
     refine tr1 rfl (s_move (v := .d (.lit (.int .i64 ((d_0.ends.at t31_0_7))))) (lt_of rfl) rfl rfl) ?_
     refine tr1 rfl (s_field_bp (lt_of rfl) rfl fld_25_1) ?_
     refine tr1 rfl (s_load_bp (lt_of rfl) rfl (i := 1) rfl rfl one_3) ?_
     refine tr1 rfl (s_arith (lt_of rfl) rfl rfl rfl) ?_
     refine tr1 rfl (s_max (lt_of rfl) rfl rfl) ?_
     refine tr1 rfl (s_assign (v := .d (.lit (.int .i64 ((max beginv_0_7 (w64 ((d_0.ends.at t31_0_7) + p_1.Rest))))))) (lt_of rfl) rfl rfl) ?_
     refine tr_nilb ?_
     refine tr_region ?_
     refine tr1 rfl (s_arith (lt_of rfl) rfl rfl rfl) ?_
     refine tr1 rfl (s_move (v := .d (.lit (.int .i64 ((w64 (t31_0_7 + 1)))))) (lt_of rfl) rfl rfl) ?_
     refine tr_nil ?_
     exact ⟨(max beginv_0_7 (w64 ((d_0.ends.at t31_0_7) + p_1.Rest)), w64 (t31_0_7 + 1)), h, ent_pick [0, 1, 2] rfl rfl (le_upd rfl (le_upd rfl (le_keep ⟨rfl, rfl, rfl, rfl, rfl, trivial⟩)))⟩
    ·have h := cond_ff c14 h
     refine tr_skipb ?_
     refine tr_region ?_
     refine tr1 rfl (s_arith (lt_of rfl) rfl rfl rfl) ?_
     refine tr1 rfl (s_move (v := .d (.lit (.int .i64 ((w64 (t31_0_7 + 1)))))) (lt_of rfl) rfl rfl) ?_
     refine tr_nil ?_
     exact ⟨(beginv_0_7, w64 (t31_0_7 + 1)), h, ent_pick [0, 1, 2] rfl rfl (le_upd rfl (le_upd rfl (le_keep ⟨rfl, rfl, rfl, rfl, rfl, trivial⟩)))⟩
  ·have h := cond_ff c9 h
   refine tr_exit ?_
   refine .inl ⟨rfl, ?_⟩
   simp only [play_day_play_K0] at h
   refine tr_seq ?_
   refine tr_region ?_
   refine tr1 rfl (s_move (v := .d (.lit (.int .i64 beginv_0_7))) (lt_of rfl) rfl rfl) ?_
   refine tr1 rfl (s_move (v := .d (.lit (.int .i64 length_3))) (lt_of rfl) rfl rfl) ?_
   refine tr1 rfl (s_arith (lt_of rfl) rfl rfl rfl) ?_
   refine tr1 rfl (s_assign (v := .d (.lit (.int .i64 ((w64 (beginv_0_7 + length_3)))))) (lt_of rfl) rfl rfl) ?_
   refine tr_nil ?_
   refine tr_seq ?_
   obtain ⟨u19, h20, h⟩ := bind_some h
   refine tr_drawxk mix 14 [8, 9] (fun X18 => [(59, .d (.lit (.int .i64 s_2.Job))), (61, .d (.lit (.int .i64 ((w64 (beginv_0_7 + length_3)))))), (66, .bp d_0_b d_0_o 4)]) (fun X18 => [.box d_0_b d_0_o ((encPlayDay (PlayDay.mk d_0.number (d_0.free.set s_2.Court (w64 (beginv_0_7 + length_3))) d_0.ends)) ++ d_0_post), .box b1 0 (encApiProgram p_1), .box b2 0 (encApiSeat s_2)]) ?_ ?_
   ·refine ⟨0, fun X18 => [(54, 0, .bp d_0_b d_0_o 0), (55, 1, .bp b2 0 2), (56, 2, .d (.lit (.int .i64 s_2.Court))), (57, 3, .bp d_0_b d_0_o 0), (58, 4, .bp b2 0 0), (59, 5, .d (.lit (.int .i64 s_2.Job))), (60, 6, .d (.lit (.int .i64 ((w64 (beginv_0_7 + length_3)))))), (61, 7, .d (.lit (.int .i64 ((w64 (beginv_0_7 + length_3)))))), (62, 8, .bp d_0_b d_0_o 0), (63, 9, .bp d_0_b d_0_o 1), (64, 10, .bp d_0_b d_0_o (1 + s_2.Court.toNat * 1)), (65, 12, .bp d_0_b d_0_o 0), (66, 13, .bp d_0_b d_0_o 4)], fun X18 => [([(11, .box d_0_b d_0_o ((encPlayDay (PlayDay.mk d_0.number (d_0.free.set s_2.Court (w64 (beginv_0_7 + length_3))) d_0.ends)) ++ d_0_post))], .box d_0_b d_0_o ((encPlayDay d_0) ++ d_0_post)), ([], .box b1 0 (encApiProgram p_1)), ([], .box b2 0 (encApiSeat s_2))], ?_, ?_⟩
    · exact ⟨by kernel_rfl, by kernel_rfl, by kernel_rfl, fun _ => by kernel_rfl, fun _ => by kernel_rfl, fun _ => by kernel_rfl, fun _ => rfl, [([], [11]), ([], [11]), ([1], [11]), ([], []), ([], []), ([4], []), ([], [11]), ([], []), ([0], [11]), ([8], [11]), ([2, 9], [11]), ([6, 10], []), ([3], []), ([12], [])], by kernel_rfl, ⟨fun X18 S hw hi hS => x_pure (X := X18) rfl (hw X18) rfl (g_op rfl (s_move (v := .bp d_0_b d_0_o 0) (lt_of rfl) (ov_ev hS rfl) rfl)),
      fun X18 S hw hi hS => x_pure (X := X18) rfl (hw X18) rfl (g_op rfl (s_field_bp (lt_of rfl) (ov_ev hS rfl) fld_45_2)),
      fun X18 S hw hi hS => x_pure (X := X18) rfl (hw X18) rfl (g_op rfl (s_load_bp (lt_of rfl) (ov_ev hS rfl) (i := 2) (og hS rfl rfl) rfl one_3)),
      fun X18 S hw hi hS => x_pure (X := X18) rfl (hw X18) rfl (g_op rfl (s_move (v := .bp d_0_b d_0_o 0) (lt_of rfl) (ov_ev hS rfl) rfl)),
      fun X18 S hw hi hS => x_pure (X := X18) rfl (hw X18) rfl (g_op rfl (s_field_bp (lt_of rfl) (ov_ev hS rfl) fld_45_0)),
      fun X18 S hw hi hS => x_pure (X := X18) rfl (hw X18) rfl (g_op rfl (s_load_bp (lt_of rfl) (ov_ev hS rfl) (i := 2) (og hS rfl rfl) rfl one_3)),
      fun X18 S hw hi hS => x_pure (X := X18) rfl (hw X18) rfl (g_op rfl (s_move (v := .d (.lit (.int .i64 ((w64 (beginv_0_7 + length_3)))))) (lt_of rfl) (ov_ev hS rfl) rfl)),
      fun X18 S hw hi hS => x_pure (X := X18) rfl (hw X18) rfl (g_op rfl (s_move (v := .d (.lit (.int .i64 ((w64 (beginv_0_7 + length_3)))))) (lt_of rfl) (ov_ev hS rfl) rfl)),
      fun X18 S hw hi hS => x_pure (X := X18) rfl (hw X18) rfl (g_op rfl (s_nilck_bp (lt_of rfl) (ov_ev hS rfl))),
      fun X18 S hw hi hS => x_pure (X := X18) rfl (hw X18) rfl (g_op rfl (s_field_bp (lt_of rfl) (ov_ev hS rfl) fld_124_1)),
      fun X18 S hw hi hS => x_pure (X := X18) rfl (hw X18) rfl (g_op rfl (s_aindex_bp (lt_of rfl) (ov_ev hS rfl) (ov_ev hS rfl) arr_121 (inb_spec h20).1 (inb_spec h20).2)),
      fun X18 S hw hi hS => x_store (X := X18) hS rfl rfl rfl (p := 0) rfl rfl (g_op rfl (s_store_bp (i := 0) (ds := ((encPlayDay d_0) ++ d_0_post)) (ov_ev hS rfl) (og hS rfl rfl) (ov_ev hS rfl) rfl rfl Try.sizeOf3 rfl (lt_of rfl) (idx_le h20 rfl) (ds' := ((encPlayDay (PlayDay.mk d_0.number (d_0.free.set s_2.Court (w64 (beginv_0_7 + length_3))) d_0.ends)) ++ d_0_post)) (A3.updI (a := d_0.free) h20 (fun qq => ((encPlayDay (PlayDay.mk d_0.number qq d_0.ends)) ++ d_0_post)) rfl rfl rfl))),
      fun X18 S hw hi hS => x_pure (X := X18) rfl (hw X18) rfl (g_op rfl (s_nilck_bp (lt_of rfl) (ov_ev hS rfl))),
      fun X18 S hw hi hS => x_pure (X := X18) rfl (hw X18) rfl (g_op rfl (s_field_bp (lt_of rfl) (ov_ev hS rfl) fld_124_2)), trivial⟩⟩
    · exact fun X18 => ent_le (le_upd rfl (le_upd rfl (le_upd rfl (le_keep ⟨rfl, rfl, trivial⟩))))
   ·intro X18
    obtain ⟨u21, h22, h⟩ := bind_some h
    refine tr1 rfl (s_aindex_bp (lt_of rfl) rfl rfl arr_122 (inb_spec h22).1 (inb_spec h22).2) ?_
    refine tr1 rfl (s_store_bp (i := 0) (ds := ((encPlayDay (PlayDay.mk d_0.number (d_0.free.set s_2.Court (w64 (beginv_0_7 + length_3))) d_0.ends)) ++ d_0_post)) rfl rfl rfl rfl rfl Try.sizeOf3 rfl (lt_of rfl) (idx_le h22 rfl) (ds' := ((encPlayDay (PlayDay.mk d_0.number (d_0.free.set s_2.Court (w64 (beginv_0_7 + length_3))) (d_0.ends.set s_2.Job (w64 (beginv_0_7 + length_3))))) ++ d_0_post)) (A6.updI (a := d_0.ends) h22 (fun qq => ((encPlayDay (PlayDay.mk d_0.number (d_0.free.set s_2.Court (w64 (beginv_0_7 + length_3))) qq)) ++ d_0_post)) rfl rfl rfl rfl rfl rfl)) ?_
    refine tr_nil ?_
    refine tr_seq ?_
    refine tr_region ?_
    refine tr1 rfl (s_move (v := .d (.lit (.int .i64 beginv_0_7))) (lt_of rfl) rfl rfl) ?_
    refine tr1 rfl (s_move (v := .d (.lit (.int .i64 ((w64 (beginv_0_7 + length_3)))))) (lt_of rfl) rfl rfl) ?_
    refine tr1 rfl (s_assign (v := .d (.lit (.int .i64 beginv_0_7))) (lt_of rfl) rfl rfl) ?_
    refine tr1 rfl (s_assign (v := .d (.lit (.int .i64 ((w64 (beginv_0_7 + length_3)))))) (lt_of rfl) rfl rfl) ?_
    refine tr_nil ?_
    have h := Option.some.inj h
    subst h
    refine tr_ent (ent_pick [0] rfl rfl (le_keep (l := [8, 9]) ⟨rfl, rfl, trivial⟩)) ?_
    exact tr_ret ⟨rfl, _, .two _ _, rfl, rfl⟩

theorem play_times_c (p_0 : ApiProgram) (order_1 : List ApiSeat) (length_2 : ApiSpan → Option Int) {r : (List Int) × (List Int)} (length_2_f : Nat) (length_2_v : List AV) (length_2_e : ∀ args w, (callFunc length_2_f args).run Try.prog w = .ok (.enter length_2_f args) w) (length_2_h : ∀ (x0 : ApiSpan) r, length_2 x0 = some r → Fn Try.prog length_2_f ([.agg (encApiSpan x0)] ++ length_2_v) (.d (.lit (.int .i64 r)))) (h : play_times p_0 order_1 length_2 = some r) : Fn Try.prog 51 [.agg (encApiProgram p_0), .d (.sl 3 (order_1.map encApiSeat)), .fn length_2_f length_2_v] (.tup [.d (.sl 1 (r.1.map encI)), .d (.sl 1 (r.2.map encI))]) := by
 unfold play_times at h
 refine Fn.of_tr Try.func51 rfl (rs := [.tmp 6, .tmp 7]) Try.results51 Try.ntmps51 (Nat.le_of_ble_eq_true rfl) ?_
 refine tr_seq ?_
 refine tr_region ?_
 refine tr_op rfl (s_box (v := .agg (encApiProgram p_0)) (lt_of rfl) rfl rfl rfl) ?_
 rintro _ ⟨b1, rfl⟩
 refine tr1 rfl (s_nil_arr 3 1 (.inl rfl) (lt_of rfl)) ?_
 refine tr1 rfl (s_nil_arr 3 1 (.inl rfl) (lt_of rfl)) ?_
 refine tr_nil ?_
 refine tr_seq ?_
 obtain ⟨x5, h6, h⟩ := bind_some h
 obtain ⟨x7, h8, h⟩ := bind_some h
 refine tr_drawxk mix 9 [1, 2, 3] (fun X4 => [(6, .d (.lit (X4 3).v)), (18, .d (.lit (X4 7).v))]) (fun X4 => [.box b1 0 (encApiProgram p_0), .arr (.slice none 0 0) 3 1 (([] : List Int).map encI), .arr (.slice none 0 0) 3 1 (([] : List Int).map encI), .arr (X4 3).v 3 1 (x5.map encI), .arr (X4 7).v 3 1 (x7.map encI)]) ?_ ?_
 ·refine ⟨2, fun X4 => [(11, 0, .bp b1 0 2), (12, 1, .d (.sl 6 (p_0.Jobs.map encApiJob))), (13, 2, .d (.lit (.int .i64 ((p_0.Jobs.length : Int))))), (14, 3, .d (.lit (X4 3).v)), (15, 4, .bp b1 0 2), (16, 5, .d (.sl 6 (p_0.Jobs.map encApiJob))), (17, 6, .d (.lit (.int .i64 ((p_0.Jobs.length : Int))))), (18, 7, .d (.lit (X4 7).v)), (6, 8, .d (.lit (X4 3).v))], fun X4 => [([], .box b1 0 (encApiProgram p_0)), ([], .arr (.slice none 0 0) 3 1 (([] : List Int).map encI)), ([], .arr (.slice none 0 0) 3 1 (([] : List Int).map encI)), ([(3, .arr (X4 3).v 3 1 (x5.map encI))], nob), ([(7, .arr (X4 7).v 3 1 (x7.map encI))], nob)], ?_, ?_⟩
  · exact ⟨by kernel_rfl, by kernel_rfl, by kernel_rfl, fun _ => by kernel_rfl, fun _ => by kernel_rfl, fun _ => by kernel_rfl, fun _ => rfl, [([], [3]), ([0], [3]), ([1], [3]), ([2], [8]), ([], [7]), ([4], [7]), ([5], [7]), ([6], []), ([3], [])], by kernel_rfl, ⟨fun X4 S hw hi hS => x_pure (X := X4) rfl (hw X4) rfl (g_op rfl (s_field_bp (lt_of rfl) (ov_ev hS rfl) fld_25_2)),
      fun X4 S hw hi hS => x_pure (X := X4) rfl (hw X4) rfl (g_op rfl (s_load_bp (lt_of rfl) (ov_ev hS rfl) (i := 0) (og hS rfl rfl) rfl one_23)),
      fun X4 S hw hi hS => x_pure (X := X4) rfl (hw X4) rfl (g_op rfl (s_lenm (lt_of rfl) (ov_ev hS rfl) sl_23.of)),
      fun X4 S hw hi hS => x_make (X := X4) (p := 3) (v := fun x => .d (.lit x.v)) (mo := fun x => .arr x.v 3 1 (x5.map encI)) hS hi rfl rfl (fun _ => rfl) hw (fun _ => rfl) (fun _ => rfl) (fun _ => rfl) (fun _ => ⟨rfl, rfl, .inr rfl, ⟨rfl, rfl, .inr rfl, ⟨rfl, rfl, .inr rfl, ⟨rfl, rfl, .inl rfl, ⟨rfl, rfl, .inr rfl, ⟨rfl, rfl, .inr rfl, ⟨rfl, rfl, .inr rfl, ⟨rfl, rfl, .inr rfl, ⟨rfl, rfl, .inl rfl, trivial⟩⟩⟩⟩⟩⟩⟩⟩⟩) (fun _ => ⟨trivial, rfl, ⟨trivial, rfl, ⟨trivial, rfl, ⟨⟨rfl, .inl rfl, trivial⟩, rfl, ⟨⟨rfl, .inr rfl, trivial⟩, rfl, trivial⟩⟩⟩⟩⟩) (step_post (s_make (zs := [.lit (.int .i64 0)]) (lt_of rfl) sl_27 (ov_ev hS rfl) (ov_ev hS rfl) rfl rfl (mk_map encI h6) (lt_of rfl)) (by rintro _ ⟨w, rfl⟩; exact ⟨⟨0, w⟩, ent_pick [0, 1, 2, 5, 4] rfl rfl (le_refl _)⟩)),
      fun X4 S hw hi hS => x_pure (X := X4) rfl (hw X4) rfl (g_op rfl (s_field_bp (lt_of rfl) (ov_ev hS rfl) fld_25_2)),
      fun X4 S hw hi hS => x_pure (X := X4) rfl (hw X4) rfl (g_op rfl (s_load_bp (lt_of rfl) (ov_ev hS rfl) (i := 0) (og hS rfl rfl) rfl one_23)),
      fun X4 S hw hi hS => x_pure (X := X4) rfl (hw X4) rfl (g_op rfl (s_lenm (lt_of rfl) (ov_ev hS rfl) sl_23.of)),
      fun X4 S hw hi hS => x_make (X := X4) (p := 4) (v := fun x => .d (.lit x.v)) (mo := fun x => .arr x.v 3 1 (x7.map encI)) hS hi rfl rfl (fun _ => rfl) hw (fun _ => rfl) (fun _ => rfl) (fun _ => rfl) (fun _ => ⟨rfl, rfl, .inr rfl, ⟨rfl, rfl, .inr rfl, ⟨rfl, rfl, .inr rfl, ⟨rfl, rfl, .inr rfl, ⟨rfl, rfl, .inr rfl, ⟨rfl, rfl, .inr rfl, ⟨rfl, rfl, .inr rfl, ⟨rfl, rfl, .inl rfl, ⟨rfl, rfl, .inr rfl, trivial⟩⟩⟩⟩⟩⟩⟩⟩⟩) (fun _ => ⟨trivial, rfl, ⟨trivial, rfl, ⟨trivial, rfl, ⟨⟨rfl, .inr rfl, trivial⟩, rfl, ⟨⟨rfl, .inl rfl, trivial⟩, rfl, trivial⟩⟩⟩⟩⟩) (step_post (s_make (zs := [.lit (.int .i64 0)]) (lt_of rfl) sl_27 (ov_ev hS rfl) (ov_ev hS rfl) rfl rfl (mk_map encI h8) (lt_of rfl)) (by rintro _ ⟨w, rfl⟩; exact ⟨⟨0, w⟩, ent_pick [0, 1, 2, 3, 5] rfl rfl (le_refl _)⟩)),
      fun X4 S hw hi hS => x_pure (X := X4) rfl (hw X4) rfl (g_op rfl (s_assign (v := .d (.lit (X4 3).v)) (lt_of rfl) (ov_ev hS rfl) rfl)), trivial⟩⟩
  · exact fun X4 => ent_le (le_upd rfl (le_upd rfl (le_keep ⟨rfl, rfl, rfl, trivial⟩)))
 ·intro X4
  refine tr1 rfl (s_assign (v := .d (.lit (X4 7).v)) (lt_of rfl) rfl rfl) ?_
  refine tr_nil ?_
  refine tr_seq ?_
  refine tr_region ?_
  refine tr1 rfl (s_loada_bp (lt_of rfl) rfl (i := 0) rfl agg_25 (es := (encApiProgram p_0)) rfl rfl) ?_
  obtain ⟨r9, h10, h⟩ := bind_some h
  refine tr1 rfl (s_callf (lt_of rfl) (.func _ _ Try.call86) rfl rfl (play_open_c _ _ h10)) ?_
  refine tr_op rfl (s_alloc (zs := [.lit (.int .i64 0), .lit (.int .i64 0), .lit (.int .i64 0), .lit (.int .i64 0), .lit (.int .i64 0), .lit (.int .i64 0), .lit (.int .i64 0), .lit (.int .i64 0), .lit (.int .i64 0), .lit (.int .i64 0)]) (lt_of rfl) Try.zeroValue124 rfl rfl) ?_
  rintro _ ⟨b11, rfl⟩
  refine tr1 rfl (s_store_bp (i := 5) rfl rfl rfl rfl rfl Try.sizeOf124 rfl (lt_of rfl) (Nat.le_of_ble_eq_true rfl) (ds' := (encPlayDay r9)) rfl) ?_
  refine tr_nil ?_
  refine tr_seq ?_
  refine tr_seq ?_
  refine tr_region ?_
  refine tr1 rfl (s_move (v := .d (.sl 3 (order_1.map encApiSeat))) (lt_of rfl) rfl rfl) ?_
  refine tr1 rfl (s_lenm (lt_of rfl) rfl sl_26.of) ?_
  refine tr1 rfl (s_move (v := .d (.lit (.int .i64 0))) (lt_of rfl) rfl rfl) ?_
  refine tr_nil ?_
  refine tr_blk ?_
  refine tr_loopk [2, 3, 8, 21, 22] (fun (s12 : Int × PlayDay × (List Int) × (List Int) × Value × Value) => [(6, .d (.lit s12.2.2.2.2.1)), (7, .d (.lit s12.2.2.2.2.2)), (23, .d (.lit (.int .i64 s12.1)))]) (fun (s12 : Int × PlayDay × (List Int) × (List Int) × Value × Value) => [.box b1 0 (encApiProgram p_0), .box b11 0 (encPlayDay s12.2.1), .arr s12.2.2.2.2.1 3 1 (s12.2.2.1.map encI), .arr s12.2.2.2.2.2 3 1 (s12.2.2.2.1.map encI)]) (fun (k : Nat) (s12 : Int × PlayDay × (List Int) × (List Int) × Value × Value) => play_times_L0 length_2 order_1 (order_1.length : Int) p_0 k s12.1 s12.2.1 s12.2.2.1 s12.2.2.2.1) (fun _ => rfl) (0, r9, x5, x7, (X4 3).v, (X4 7).v) h (ent_pick [0, 5, 3, 4] rfl rfl (le_upd rfl (le_upd rfl (le_upd rfl (le_keep ⟨rfl, rfl, rfl, rfl, rfl, trivial⟩))))) ?_
  rintro k15 ⟨t23_0_12, now_0_12, o14_0_12, o18_0_12, w13, w14⟩ h
  simp only [play_times_L0] at h
  refine tr_seq ?_
  refine tr_region ?_
  refine tr1 rfl (s_cmp (lt_of rfl) rfl rfl rfl) ?_
  refine tr_nil ?_
  refine tr_seq ?_
  refine tr_if rfl (fun c16 => ?_) (fun c16 => ?_)
  ·have h := cond_tt c16 h
   refine tr_skip ?_
   refine tr_seq ?_
   refine tr_blk ?_
   refine tr_seq ?_
   refine tr_region ?_
   obtain ⟨x17, h18, h⟩ := bind_some h
   refine tr1 rfl (s_index_sl (lt_of rfl) rfl rfl sl_26.of (idx_map encApiSeat h18)) ?_
   refine tr1 rfl (s_loada_cp (lt_of rfl) rfl agg_45 (es := (encApiSeat x17)) rfl rfl) ?_
   refine tr_op rfl (s_alloc (zs := [.lit (.int .i64 0), .lit (.int .i64 0), .lit (.int .i64 0)]) (lt_of rfl) Try.zeroValue45 rfl rfl) ?_
   rintro _ ⟨b19, rfl⟩
   refine tr1 rfl (s_store_bp (i := 4) rfl rfl rfl rfl rfl Try.sizeOf45 rfl (lt_of rfl) (Nat.le_of_ble_eq_true rfl) (ds' := (encApiSeat x17)) rfl) ?_
   refine tr_nil ?_
   refine tr_seq ?_
   refine tr_seq ?_
   refine tr_region ?_
   refine tr1 rfl (s_field_bp (lt_of rfl) rfl fld_45_1) ?_
   refine tr1 rfl (s_load_bp (lt_of rfl) rfl (i := 4) rfl rfl one_3) ?_
   refine tr1 rfl (s_field_bp (lt_of rfl) rfl fld_124_0) ?_
   refine tr1 rfl (s_load_bp (lt_of rfl) rfl (i := 1) rfl rfl one_3) ?_
   refine tr1 rfl (s_cmp (lt_of rfl) rfl rfl rfl) ?_
   refine tr_nil ?_
   refine tr_if rfl (fun c20 => ?_) (fun c20 => ?_)
   ·have h := cond_tt c20 h
    refine tr_region ?_
    refine tr1 rfl (s_loada_bp (lt_of rfl) rfl (i := 0) rfl agg_25 (es := (encApiProgram p_0)) rfl rfl) ?_
    refine tr1 rfl (s_field_bp (lt_of rfl) rfl fld_45_1) ?_
    refine tr1 rfl (s_load_bp (lt_of rfl) rfl (i := 4) rfl rfl one_3) ?_
    obtain ⟨r21, h22, h⟩ := bind_some h
    refine tr1 rfl (s_callf (lt_of rfl) (.func _ _ Try.call86) rfl rfl (play_open_c _ _ h22)) ?_
    refine tr1 rfl (s_store_bp (i := 1) rfl rfl rfl rfl rfl Try.sizeOf124 rfl (lt_of rfl) (Nat.le_of_ble_eq_true rfl) (ds' := (encPlayDay r21)) rfl) ?_
    refine tr_nil ?_
    obtain ⟨x24, h25, h⟩ := bind_some h
    obtain ⟨r26, h27, h⟩ := bind_some h
    obtain ⟨r28, h29, h⟩ := bind_some h
    obtain ⟨x30, h31, h⟩ := bind_some h
    refine tr_drawxk mix 23 [2, 3, 6, 7, 8, 21, 22, 23] (fun X23 => [(40, .d (.lit w14)), (42, .d (.lit (.int .i64 x17.Job))), (56, .d (.lit (.int .i64 r28.2.1)))]) (fun X23 => [.box b1 0 (encApiProgram p_0), .box b11 0 (encPlayDay r28.2.2), .arr w13 3 1 ((o14_0_12.set x17.Job.toNat r28.1).map encI), .arr w14 3 1 (o18_0_12.map encI), .box b19 0 (encApiSeat x17)]) ?_ ?_
    ·refine ⟨0, fun X23 => [(37, 0, .d (.lit w13)), (38, 1, .bp b19 0 0), (39, 2, .d (.lit (.int .i64 x17.Job))), (40, 3, .d (.lit w14)), (41, 4, .bp b19 0 0), (42, 5, .d (.lit (.int .i64 x17.Job))), (43, 6, .agg (encApiProgram p_0)), (44, 7, .agg (encApiSeat x17)), (45, 8, .fn length_2_f length_2_v), (46, 9, .bp b1 0 2), (47, 10, .d (.sl 6 (p_0.Jobs.map encApiJob))), (48, 11, .bp b19 0 0), (49, 12, .d (.lit (.int .i64 x17.Job))), (50, 13, .cp [.lit (.int .i64 x24.Length.Low), .lit (.int .i64 x24.Length.High), .sl 1 (x24.After.map encI), .sl 1 (x24.With.map encI), .lit (.int .i64 x24.Due), .lit (.int .i64 x24.Earliest)]), (51, 14, .cp [.lit (.int .i64 x24.Length.Low), .lit (.int .i64 x24.Length.High)]), (52, 15, .agg (encApiSpan x24.Length)), (53, 16, .d (.lit (.int .i64 r26))), (54, 17, .tup [.d (.lit (.int .i64 r28.1)), .d (.lit (.int .i64 r28.2.1))]), (36, 18, .tup [.d (.lit (.int .i64 r28.1)), .d (.lit (.int .i64 r28.2.1))]), (55, 19, .d (.lit (.int .i64 r28.1))), (56, 20, .d (.lit (.int .i64 r28.2.1))), (57, 21, .ep w13 1 x17.Job.toNat 0)], fun X23 => [([], .box b1 0 (encApiProgram p_0)), ([(17, .box b11 0 (encPlayDay r28.2.2))], .box b11 0 (encPlayDay r21)), ([(22, .arr w13 3 1 ((o14_0_12.set x17.Job.toNat r28.1).map encI))], .arr w13 3 1 (o14_0_12.map encI)), ([], .arr w14 3 1 (o18_0_12.map encI)), ([], .box b19 0 (encApiSeat x17))], ?_, ?_⟩
     · exact ⟨by kernel_rfl, by kernel_rfl, by kernel_rfl, fun _ => by kernel_rfl, fun _ => by kernel_rfl, fun _ => by kernel_rfl, fun _ => rfl, [([], [22]), ([], [22]), ([1], [22]), ([], []), ([], []), ([4], []), ([], [17, 22]), ([], [17, 22]), ([], [17, 22]), ([], [17, 22]), ([9], [17, 22]), ([], [17, 22]), ([11], [17, 22]), ([10, 12], [17, 22]), ([13], [17, 22]), ([14], [17, 22]), ([8, 15], [17, 22]), ([6, 7, 16], [22]), ([17], [22]), ([17, 18], [22]), ([17, 18], []), ([0, 2, 17], [22]), ([17, 19, 21], [])], by kernel_rfl, ⟨fun X23 S hw hi hS => x_pure (X := X23) rfl (hw X23) rfl (g_op rfl (s_move (v := .d (.lit w13)) (lt_of rfl) (ov_ev hS rfl) rfl)),
      fun X23 S hw hi hS => x_pure (X := X23) rfl (hw X23) rfl (g_op rfl (s_field_bp (lt_of rfl) (ov_ev hS rfl) fld_45_0)),
      fun X23 S hw hi hS => x_pure (X := X23) rfl (hw X23) rfl (g_op rfl (s_load_bp (lt_of rfl) (ov_ev hS rfl) (i := 4) (og hS rfl rfl) rfl one_3)),
      fun X23 S hw hi hS => x_pure (X := X23) rfl (hw X23) rfl (g_op rfl (s_move (v := .d (.lit w14)) (lt_of rfl) (ov_ev hS rfl) rfl)),
      fun X23 S hw hi hS => x_pure (X := X23) rfl (hw X23) rfl (g_op rfl (s_field_bp (lt_of rfl) (ov_ev hS rfl) fld_45_0)),
      fun X23 S hw hi hS => x_pure (X := X23) rfl (hw X23) rfl (g_op rfl (s_load_bp (lt_of rfl) (ov_ev hS rfl) (i := 4) (og hS rfl rfl) rfl one_3)),
      fun X23 S hw hi hS => x_pure (X := X23) rfl (hw X23) rfl (g_op rfl (s_loada_bp (lt_of rfl) (ov_ev hS rfl) (i := 0) (og hS rfl rfl) agg_25 (es := (encApiProgram p_0)) rfl rfl)),
      fun X23 S hw hi hS => x_pure (X := X23) rfl (hw X23) rfl (g_op rfl (s_loada_bp (lt_of rfl) (ov_ev hS rfl) (i := 4) (og hS rfl rfl) agg_45 (es := (encApiSeat x17)) rfl rfl)),
      fun X23 S hw hi hS => x_pure (X := X23) rfl (hw X23) rfl (g_op rfl (s_move (v := .fn length_2_f length_2_v) (lt_of rfl) (ov_ev hS rfl) rfl)),
      fun X23 S hw hi hS => x_pure (X := X23) rfl (hw X23) rfl (g_op rfl (s_field_bp (lt_of rfl) (ov_ev hS rfl) fld_25_2)),
      fun X23 S hw hi hS => x_pure (X := X23) rfl (hw X23) rfl (g_op rfl (s_load_bp (lt_of rfl) (ov_ev hS rfl) (i := 0) (og hS rfl rfl) rfl one_23)),
      fun X23 S hw hi hS => x_pure (X := X23) rfl (hw X23) rfl (g_op rfl (s_field_bp (lt_of rfl) (ov_ev hS rfl) fld_45_0)),
      fun X23 S hw hi hS => x_pure (X := X23) rfl (hw X23) rfl (g_op rfl (s_load_bp (lt_of rfl) (ov_ev hS rfl) (i := 4) (og hS rfl rfl) rfl one_3)),
      fun X23 S hw hi hS => x_pure (X := X23) rfl (hw X23) rfl (g_op rfl (s_index_sl (lt_of rfl) (ov_ev hS rfl) (ov_ev hS rfl) sl_23.of (idx_map encApiJob h25))),
      fun X23 S hw hi hS => x_pure (X := X23) rfl (hw X23) rfl (g_op rfl (s_field_cp (lt_of rfl) (ov_ev hS rfl) fld_36_0 (es := [.lit (.int .i64 x24.Length.Low), .lit (.int .i64 x24.Length.High)]) rfl)),
      fun X23 S hw hi hS => x_pure (X := X23) rfl (hw X23) rfl (g_op rfl (s_loada_cp (lt_of rfl) (ov_ev hS rfl) agg_34 (es := (encApiSpan x24.Length)) rfl rfl)),
      fun X23 S hw hi hS => x_pure (X := X23) rfl (hw X23) rfl (g_op rfl (s_call (lt_of rfl) (.clo _ _ _ _ length_2_e (ov_en hS rfl)) (evap (ev2 (ov_ev hS rfl) evn)) rfl (BVs.refl _ _) (length_2_h _ _  h27) rfl)),
      fun X23 S hw hi hS => x_call (X := X23) (p := 1) hS rfl rfl rfl (hw X23) rfl rfl rfl (step_post (step_ent ((ent_at 1 (x := .box b11 0 (encPlayDay r21)) (og hS rfl rfl)).trans (ent_pick [1, 0, 2, 3, 4] rfl rfl (le_refl _))) (s_callm (passed := [.box b11 0 ((encPlayDay r21) ++ [])]) (lt_of rfl) rfl (.func _ _ Try.call87) (ev2 (ov_ev hS rfl) (ev2 (ov_ev hS rfl) (ev2 (ov_ev hS rfl) (ev2 (ov_ev hS rfl) evn)))) rfl (play_day_play_c r21 p_0 x17 r26 (d_0_post := []) h29))) (by rintro _ ⟨_, _, ⟨rfl, rfl⟩, rfl⟩; exact ent_pick [1, 0, 2, 3, 4] rfl rfl (le_refl _))),
      fun X23 S hw hi hS => x_pure (X := X23) rfl (hw X23) rfl (g_op rfl (s_move (v := .tup [.d (.lit (.int .i64 r28.1)), .d (.lit (.int .i64 r28.2.1))]) (lt_of rfl) (ov_ev hS rfl) rfl)),
      fun X23 S hw hi hS => x_pure (X := X23) rfl (hw X23) rfl (g_op rfl (s_extract (lt_of rfl) (ov_ev hS rfl) rfl)),
      fun X23 S hw hi hS => x_pure (X := X23) rfl (hw X23) rfl (g_op rfl (s_extract (lt_of rfl) (ov_ev hS rfl) rfl)),
      fun X23 S hw hi hS => x_pure (X := X23) rfl (hw X23) rfl (g_op rfl (s_index_arr (m := 2) (lt_of rfl) (ov_ev hS rfl) (og hS rfl rfl) (ov_ev hS rfl) sl_27.of (idx_map encI h31))),
      fun X23 S hw hi hS => x_store (X := X23) hS rfl rfl rfl (p := 2) rfl rfl (g_op rfl (s_store_ep (l := 2) (ov_ev hS rfl) (og hS rfl rfl) (row_of encI h31) (ov_ev hS rfl) rfl rfl Try.sizeOf3 rfl (lt_of rfl) (Nat.le_of_ble_eq_true rfl) (rows' := ((o14_0_12.set x17.Job.toNat r28.1)).map encI) (set_map _ _ _ _ rfl))), trivial⟩⟩
     · exact fun X23 => ent_le (le_upd rfl (le_upd rfl (le_upd rfl (le_keep ⟨rfl, rfl, rfl, rfl, rfl, rfl, rfl, rfl, trivial⟩))))
    ·intro X23
     obtain ⟨x32, h33, h⟩ := bind_some h
     refine tr1 rfl (s_index_arr (m := 3) (lt_of rfl) rfl rfl rfl sl_27.of (idx_map encI h33)) ?_
     refine tr1 rfl (s_store_ep (l := 3) rfl rfl (row_of encI h33) rfl rfl rfl Try.sizeOf3 rfl (lt_of rfl) (Nat.le_of_ble_eq_true rfl) (rows' := ((o18_0_12.set x17.Job.toNat r28.2.1)).map encI) (set_map _ _ _ _ rfl)) ?_
     refine tr_nilb ?_
     refine tr_region ?_
     refine tr1 rfl (s_arith (lt_of rfl) rfl rfl rfl) ?_
     refine tr1 rfl (s_move (v := .d (.lit (.int .i64 ((w64 (t23_0_12 + 1)))))) (lt_of rfl) rfl rfl) ?_
     refine tr_nil ?_
     exact ⟨(w64 (t23_0_12 + 1), r28.2.2, (o14_0_12.set x17.Job.toNat r28.1), (o18_0_12.set x17.Job.toNat r28.2.1), w13, w14), h, ent_pick [0, 1, 2, 3] rfl rfl (le_upd rfl (le_upd rfl (le_upd rfl (le_keep ⟨rfl, rfl, rfl, rfl, rfl, trivial⟩))))⟩
   ·have h := cond_ff c20 h
    refine tr_skip ?_
    obtain ⟨x35, h36, h⟩ := bind_some h
    obtain ⟨r37, h38, h⟩ := bind_some h
    obtain ⟨r39, h40, h⟩ := bind_some h
    obtain ⟨x41, h42, h⟩ := bind_some h
    refine tr_drawxk mix 23 [2, 3, 6, 7, 8, 21, 22, 23] (fun X34 => [(40, .d (.lit w14)), (42, .d (.lit (.int .i64 x17.Job))), (56, .d (.lit (.int .i64 r39.2.1)))]) (fun X34 => [.box b1 0 (encApiProgram p_0), .box b11 0 (encPlayDay r39.2.2), .arr w13 3 1 ((o14_0_12.set x17.Job.toNat r39.1).map encI), .arr w14 3 1 (o18_0_12.map encI), .box b19 0 (encApiSeat x17)]) ?_ ?_
    ·refine ⟨0, fun X34 => [(37, 0, .d (.lit w13)), (38, 1, .bp b19 0 0), (39, 2, .d (.lit (.int .i64 x17.Job))), (40, 3, .d (.lit w14)), (41, 4, .bp b19 0 0), (42, 5, .d (.lit (.int .i64 x17.Job))), (43, 6, .agg (encApiProgram p_0)), (44, 7, .agg (encApiSeat x17)), (45, 8, .fn length_2_f length_2_v), (46, 9, .bp b1 0 2), (47, 10, .d (.sl 6 (p_0.Jobs.map encApiJob))), (48, 11, .bp b19 0 0), (49, 12, .d (.lit (.int .i64 x17.Job))), (50, 13, .cp [.lit (.int .i64 x35.Length.Low), .lit (.int .i64 x35.Length.High), .sl 1 (x35.After.map encI), .sl 1 (x35.With.map encI), .lit (.int .i64 x35.Due), .lit (.int .i64 x35.Earliest)]), (51, 14, .cp [.lit (.int .i64 x35.Length.Low), .lit (.int .i64 x35.Length.High)]), (52, 15, .agg (encApiSpan x35.Length)), (53, 16, .d (.lit (.int .i64 r37))), (54, 17, .tup [.d (.lit (.int .i64 r39.1)), .d (.lit (.int .i64 r39.2.1))]), (36, 18, .tup [.d (.lit (.int .i64 r39.1)), .d (.lit (.int .i64 r39.2.1))]), (55, 19, .d (.lit (.int .i64 r39.1))), (56, 20, .d (.lit (.int .i64 r39.2.1))), (57, 21, .ep w13 1 x17.Job.toNat 0)], fun X34 => [([], .box b1 0 (encApiProgram p_0)), ([(17, .box b11 0 (encPlayDay r39.2.2))], .box b11 0 (encPlayDay now_0_12)), ([(22, .arr w13 3 1 ((o14_0_12.set x17.Job.toNat r39.1).map encI))], .arr w13 3 1 (o14_0_12.map encI)), ([], .arr w14 3 1 (o18_0_12.map encI)), ([], .box b19 0 (encApiSeat x17))], ?_, ?_⟩
     · exact ⟨by kernel_rfl, by kernel_rfl, by kernel_rfl, fun _ => by kernel_rfl, fun _ => by kernel_rfl, fun _ => by kernel_rfl, fun _ => rfl, [([], [22]), ([], [22]), ([1], [22]), ([], []), ([], []), ([4], []), ([], [17, 22]), ([], [17, 22]), ([], [17, 22]), ([], [17, 22]), ([9], [17, 22]), ([], [17, 22]), ([11], [17, 22]), ([10, 12], [17, 22]), ([13], [17, 22]), ([14], [17, 22]), ([8, 15], [17, 22]), ([6, 7, 16], [22]), ([17], [22]), ([17, 18], [22]), ([17, 18], []), ([0, 2, 17], [22]), ([17, 19, 21], [])], by kernel_rfl, ⟨fun X34 S hw hi hS => x_pure (X := X34) rfl (hw X34) rfl (g_op rfl (s_move (v := .d (.lit w13)) (lt_of rfl) (ov_ev hS rfl) rfl)),
      fun X34 S hw hi hS => x_pure (X := X34) rfl (hw X34) rfl (g_op rfl (s_field_bp (lt_of rfl) (ov_ev hS rfl) fld_45_0)),
      fun X34 S hw hi hS => x_pure (X := X34) rfl (hw X34) rfl (g_op rfl (s_load_bp (lt_of rfl) (ov_ev hS rfl) (i := 4) (og hS rfl rfl) rfl one_3)),
      fun X34 S hw hi hS => x_pure (X := X34) rfl (hw X34) rfl (g_op rfl (s_move (v := .d (.lit w14)) (lt_of rfl) (ov_ev hS rfl) rfl)),
      fun X34 S hw hi hS => x_pure (X := X34) rfl (hw X34) rfl (g_op rfl (s_field_bp (lt_of rfl) (ov_ev hS rfl) fld_45_0)),
      fun X34 S hw hi hS => x_pure (X := X34) rfl (hw X34) rfl (g_op rfl (s_load_bp (lt_of rfl) (ov_ev hS rfl) (i := 4) (og hS rfl rfl) rfl one_3)),
      fun X34 S hw hi hS => x_pure (X := X34) rfl (hw X34) rfl (g_op rfl (s_loada_bp (lt_of rfl) (ov_ev hS rfl) (i := 0) (og hS rfl rfl) agg_25 (es := (encApiProgram p_0)) rfl rfl)),
      fun X34 S hw hi hS => x_pure (X := X34) rfl (hw X34) rfl (g_op rfl (s_loada_bp (lt_of rfl) (ov_ev hS rfl) (i := 4) (og hS rfl rfl) agg_45 (es := (encApiSeat x17)) rfl rfl)),
      fun X34 S hw hi hS => x_pure (X := X34) rfl (hw X34) rfl (g_op rfl (s_move (v := .fn length_2_f length_2_v) (lt_of rfl) (ov_ev hS rfl) rfl)),
      fun X34 S hw hi hS => x_pure (X := X34) rfl (hw X34) rfl (g_op rfl (s_field_bp (lt_of rfl) (ov_ev hS rfl) fld_25_2)),
      fun X34 S hw hi hS => x_pure (X := X34) rfl (hw X34) rfl (g_op rfl (s_load_bp (lt_of rfl) (ov_ev hS rfl) (i := 0) (og hS rfl rfl) rfl one_23)),
      fun X34 S hw hi hS => x_pure (X := X34) rfl (hw X34) rfl (g_op rfl (s_field_bp (lt_of rfl) (ov_ev hS rfl) fld_45_0)),
      fun X34 S hw hi hS => x_pure (X := X34) rfl (hw X34) rfl (g_op rfl (s_load_bp (lt_of rfl) (ov_ev hS rfl) (i := 4) (og hS rfl rfl) rfl one_3)),
      fun X34 S hw hi hS => x_pure (X := X34) rfl (hw X34) rfl (g_op rfl (s_index_sl (lt_of rfl) (ov_ev hS rfl) (ov_ev hS rfl) sl_23.of (idx_map encApiJob h36))),
      fun X34 S hw hi hS => x_pure (X := X34) rfl (hw X34) rfl (g_op rfl (s_field_cp (lt_of rfl) (ov_ev hS rfl) fld_36_0 (es := [.lit (.int .i64 x35.Length.Low), .lit (.int .i64 x35.Length.High)]) rfl)),
      fun X34 S hw hi hS => x_pure (X := X34) rfl (hw X34) rfl (g_op rfl (s_loada_cp (lt_of rfl) (ov_ev hS rfl) agg_34 (es := (encApiSpan x35.Length)) rfl rfl)),
      fun X34 S hw hi hS => x_pure (X := X34) rfl (hw X34) rfl (g_op rfl (s_call (lt_of rfl) (.clo _ _ _ _ length_2_e (ov_en hS rfl)) (evap (ev2 (ov_ev hS rfl) evn)) rfl (BVs.refl _ _) (length_2_h _ _  h38) rfl)),
      fun X34 S hw hi hS => x_call (X := X34) (p := 1) hS rfl rfl rfl (hw X34) rfl rfl rfl (step_post (step_ent ((ent_at 1 (x := .box b11 0 (encPlayDay now_0_12)) (og hS rfl rfl)).trans (ent_pick [1, 0, 2, 3, 4] rfl rfl (le_refl _))) (s_callm (passed := [.box b11 0 ((encPlayDay now_0_12) ++ [])]) (lt_of rfl) rfl (.func _ _ Try.call87) (ev2 (ov_ev hS rfl) (ev2 (ov_ev hS rfl) (ev2 (ov_ev hS rfl) (ev2 (ov_ev hS rfl) evn)))) rfl (play_day_play_c now_0_12 p_0 x17 r37 (d_0_post := []) h40))) (by rintro _ ⟨_, _, ⟨rfl, rfl⟩, rfl⟩; exact ent_pick [1, 0, 2, 3, 4] rfl rfl (le_refl _))),
      fun X34 S hw hi hS => x_pure (X := X34) rfl (hw X34) rfl (g_op rfl (s_move (v := .tup [.d (.lit (.int .i64 r39.1)), .d (.lit (.int .i64 r39.2.1))]) (lt_of rfl) (ov_ev hS rfl) rfl)),
      fun X34 S hw hi hS => x_pure (X := X34) rfl (hw X34) rfl (g_op rfl (s_extract (lt_of rfl) (ov_ev hS rfl) rfl)),
      fun X34 S hw hi hS => x_pure (X := X34) rfl (hw X34) rfl (g_op rfl (s_extract (lt_of rfl) (ov_ev hS rfl) rfl)),
      fun X34 S hw hi hS => x_pure (X := X34) rfl (hw X34) rfl (g_op rfl (s_index_arr (m := 2) (lt_of rfl) (ov_ev hS rfl) (og hS rfl rfl) (ov_ev hS rfl) sl_27.of (idx_map encI h42))),
      fun X34 S hw hi hS => x_store (X := X34) hS rfl rfl rfl (p := 2) rfl rfl (g_op rfl (s_store_ep (l := 2) (ov_ev hS rfl) (og hS rfl rfl) (row_of encI h42) (ov_ev hS rfl) rfl rfl Try.sizeOf3 rfl (lt_of rfl) (Nat.le_of_ble_eq_true rfl) (rows' := ((o14_0_12.set x17.Job.toNat r39.1)).map encI) (set_map _ _ _ _ rfl))), trivial⟩⟩
     · exact fun X34 => ent_le (le_upd rfl (le_upd rfl (le_upd rfl (le_keep ⟨rfl, rfl, rfl, rfl, rfl, rfl, rfl, rfl, trivial⟩))))
    ·intro X34
     obtain ⟨x43, h44, h⟩ := bind_some h
     refine tr1 rfl (s_index_arr (m := 3) (lt_of rfl) rfl rfl rfl sl_27.of (idx_map encI h44)) ?_
     refine tr1 rfl (s_store_ep (l := 3) rfl rfl (row_of encI h44) rfl rfl rfl Try.sizeOf3 rfl (lt_of rfl) (Nat.le_of_ble_eq_true rfl) (rows' := ((o18_0_12.set x17.Job.toNat r39.2.1)).map encI) (set_map _ _ _ _ rfl)) ?_
     refine tr_nilb ?_
     refine tr_region ?_
     refine tr1 rfl (s_arith (lt_of rfl) rfl rfl rfl) ?_
     refine tr1 rfl (s_move (v := .d (.lit (.int .i64 ((w64 (t23_0_12 + 1)))))) (lt_of rfl) rfl rfl) ?_
     refine tr_nil ?_
     exact ⟨(w64 (t23_0_12 + 1), r39.2.2, (o14_0_12.set x17.Job.toNat r39.1), (o18_0_12.set x17.Job.toNat r39.2.1), w13, w14), h, ent_pick [0, 1, 2, 3] rfl rfl (le_upd rfl (le_upd rfl (le_upd rfl (le_keep ⟨rfl, rfl, rfl, rfl, rfl, trivial⟩))))⟩
  ·have h := cond_ff c16 h
   refine tr_exit ?_
   refine .inl ⟨rfl, ?_⟩
   simp only [play_times_K0] at h
   refine tr_seq ?_
   refine tr_region ?_
   refine tr1 rfl (s_move (v := .d (.lit w13)) (lt_of rfl) rfl rfl) ?_
   refine tr1 rfl (s_move (v := .d (.lit w14)) (lt_of rfl) rfl rfl) ?_
   refine tr1 rfl (s_assign (v := .d (.lit w13)) (lt_of rfl) rfl rfl) ?_
   refine tr1 rfl (s_assign (v := .d (.lit w14)) (lt_of rfl) rfl rfl) ?_
   refine tr_nil ?_
   have h := Option.some.inj h
   subst h
   refine tr_ent (ent_free (ble_upd (k := 7) (v := .d (.sl 1 (o18_0_12.map encI))) (.d (dv_arr 3 rfl (map_len (f := encI) fun _ => rfl))) (ble_upd (k := 6) (v := .d (.sl 1 (o14_0_12.map encI))) (.d (dv_arr 2 rfl (map_len (f := encI) fun _ => rfl))) (ble_emp)))) ?_
   exact tr_ret ⟨rfl, _, .two _ _, rfl, rfl⟩

theorem play_longest_c (s_0 : ApiSpan) {r : Int} (h : play_longest s_0 = some r) : Fn Try.prog 53 [.agg (encApiSpan s_0)] (.d (.lit (.int .i64 r))) := by
 unfold play_longest at h
 refine Fn.of_tr Try.func53 rfl (rs := [.tmp 2]) Try.results53 Try.ntmps53 (Nat.le_of_ble_eq_true rfl) ?_
 refine tr_seq ?_
 refine tr_region ?_
 refine tr_op rfl (s_box (v := .agg (encApiSpan s_0)) (lt_of rfl) rfl rfl rfl) ?_
 rintro _ ⟨b1, rfl⟩
 refine tr1 rfl (s_assign (v := .d (.lit (.int .i64 0))) (lt_of rfl) rfl rfl) ?_
 refine tr_nil ?_
 refine tr_seq ?_
 refine tr_region ?_
 refine tr1 rfl (s_field_bp (lt_of rfl) rfl fld_34_1) ?_
 refine tr1 rfl (s_load_bp (lt_of rfl) rfl (i := 0) rfl rfl one_3) ?_
 refine tr1 rfl (s_assign (v := .d (.lit (.int .i64 s_0.High))) (lt_of rfl) rfl rfl) ?_
 refine tr_nil ?_
 have h := Option.some.inj h
 subst h
 refine tr_ent (ent_free (ble_keep (l := [2]) ⟨rfl, trivial⟩)) ?_
 exact tr_ret ⟨rfl, _, .one _, rfl, rfl⟩

theorem play_Fits_c (p_0 : ApiProgram) (order_1 : List ApiSeat) {r : Bool × Int × Int} (h : play_Fits p_0 order_1 = some r) : Fn Try.prog 18 [.agg (encApiProgram p_0), .d (.sl 3 (order_1.map encApiSeat))] (.tup [.d (.lit (.bool r.1)), .d (.lit (.int .i64 r.2.1)), .d (.lit (.int .i64 r.2.2))]) := by
 unfold play_Fits at h
 refine Fn.of_tr Try.func18 rfl (rs := [.tmp 4, .tmp 5, .tmp 6]) Try.results18 Try.ntmps18 (Nat.le_of_ble_eq_true rfl) ?_
 refine tr_seq ?_
 refine tr_region ?_
 refine tr_op rfl (s_box (v := .agg (encApiProgram p_0)) (lt_of rfl) rfl rfl rfl) ?_
 rintro _ ⟨b1, rfl⟩
 refine tr1 rfl (s_assign (v := .d (.lit (.bool false))) (lt_of rfl) rfl rfl) ?_
 refine tr1 rfl (s_assign (v := .d (.lit (.int .i64 0))) (lt_of rfl) rfl rfl) ?_
 refine tr1 rfl (s_assign (v := .d (.lit (.int .i64 0))) (lt_of rfl) rfl rfl) ?_
 refine tr_nil ?_
 refine tr_seq ?_
 refine tr_seq ?_
 refine tr_region ?_
 refine tr1 rfl (s_loada_bp (lt_of rfl) rfl (i := 0) rfl agg_25 (es := (encApiProgram p_0)) rfl rfl) ?_
 obtain ⟨r2, h3, h⟩ := bind_some h
 refine tr1 rfl (s_call (lt_of rfl) (.func _ _ Try.call25) rfl rfl (BVs.refl _ _) (play_Check_c _ h3) rfl) ?_
 refine tr1 rfl (s_assign (v := .d (.lit (.int .i64 r2))) (lt_of rfl) rfl rfl) ?_
 refine tr_nil ?_
 refine tr_seq ?_
 refine tr_region ?_
 refine tr1 rfl (s_move (v := .d (.lit (.int .i64 r2))) (lt_of rfl) rfl rfl) ?_
 refine tr1 rfl (s_cmp (lt_of rfl) rfl rfl rfl) ?_
 refine tr_nil ?_
 refine tr_if rfl (fun c4 => ?_) (fun c4 => ?_)
 ·have h := cond_tt c4 h
  refine tr_seq ?_
  refine tr_region ?_
  refine tr1 rfl (s_move (v := .d (.lit (.int .i64 r2))) (lt_of rfl) rfl rfl) ?_
  refine tr1 rfl (s_assign (v := .d (.lit (.bool false))) (lt_of rfl) rfl rfl) ?_
  refine tr1 rfl (s_assign (v := .d (.lit (.int .i64 0))) (lt_of rfl) rfl rfl) ?_
  refine tr1 rfl (s_assign (v := .d (.lit (.int .i64 r2))) (lt_of rfl) rfl rfl) ?_
  refine tr_nil ?_
  have h := Option.some.inj h
  subst h
  refine tr_ent (ent_free (ble_keep (l := [4, 5, 6]) ⟨rfl, rfl, rfl, trivial⟩)) ?_
  exact tr_ret ⟨rfl, _, .three _ _ _, rfl, rfl⟩
 ·have h := cond_ff c4 h
  refine tr_skip ?_
  refine tr_seq ?_
  refine tr_seq ?_
  refine tr_region ?_
  refine tr1 rfl (s_loada_bp (lt_of rfl) rfl (i := 0) rfl agg_25 (es := (encApiProgram p_0)) rfl rfl) ?_
  refine tr1 rfl (s_move (v := .d (.sl 3 (order_1.map encApiSeat))) (lt_of rfl) rfl rfl) ?_
  obtain ⟨r5, h6, h⟩ := bind_some h
  refine tr1 rfl (s_call (lt_of rfl) (.func _ _ Try.call50) rfl rfl (BVs.refl _ _) (play_isOrder_c _ _ h6) rfl) ?_
  refine tr1 rfl (s_not (lt_of rfl) rfl) ?_
  refine tr_nil ?_
  refine tr_if rfl (fun c7 => ?_) (fun c7 => ?_)
  ·have h := cond_tt c7 h
   refine tr_seq ?_
   refine tr_region ?_
   refine tr1 rfl (s_assign (v := .d (.lit (.bool false))) (lt_of rfl) rfl rfl) ?_
   refine tr1 rfl (s_assign (v := .d (.lit (.int .i64 0))) (lt_of rfl) rfl rfl) ?_
   refine tr1 rfl (s_assign (v := .d (.lit (.int .i64 81))) (lt_of rfl) rfl rfl) ?_
   refine tr_nil ?_
   have h := Option.some.inj h
   subst h
   refine tr_ent (ent_free (ble_keep (l := [4, 5, 6]) ⟨rfl, rfl, rfl, trivial⟩)) ?_
   exact tr_ret ⟨rfl, _, .three _ _ _, rfl, rfl⟩
  ·have h := cond_ff c7 h
   refine tr_skip ?_
   refine tr_seq ?_
   refine tr_region ?_
   refine tr1 rfl (s_loada_bp (lt_of rfl) rfl (i := 0) rfl agg_25 (es := (encApiProgram p_0)) rfl rfl) ?_
   refine tr1 rfl (s_move (v := .d (.sl 3 (order_1.map encApiSeat))) (lt_of rfl) rfl rfl) ?_
   obtain ⟨r9, h10, h⟩ := bind_some h
   refine tr1 rfl (s_callf (lt_of rfl) (.func _ _ Try.call51) rfl rfl (play_times_c _ _ _ 53 [] Try.call53 (fun _ _ h => play_longest_c _ h) h10)) ?_
   refine tr1 rfl (s_move (v := .tup [.d (.sl 1 (r9.1.map encI)), .d (.sl 1 (r9.2.map encI))]) (lt_of rfl) rfl rfl) ?_
   refine tr1 rfl (s_extract (lt_of rfl) rfl rfl) ?_
   refine tr1 rfl (s_extract (lt_of rfl) rfl rfl) ?_
   refine tr1 rfl (s_assign (v := .d (.sl 1 (r9.1.map encI))) (lt_of rfl) rfl rfl) ?_
   refine tr1 rfl (s_assign (v := .d (.sl 1 (r9.2.map encI))) (lt_of rfl) rfl rfl) ?_
   refine tr_nil ?_
   refine tr_seq ?_
   refine tr_seq ?_
   refine tr_region ?_
   refine tr1 rfl (s_move (v := .d (.sl 3 (order_1.map encApiSeat))) (lt_of rfl) rfl rfl) ?_
   refine tr1 rfl (s_lenm (lt_of rfl) rfl sl_26.of) ?_
   refine tr1 rfl (s_move (v := .d (.lit (.int .i64 0))) (lt_of rfl) rfl rfl) ?_
   refine tr_nil ?_
   refine tr_blk ?_
   refine tr_loopk [2, 9, 27, 28] (fun (s11 : Int) => [(29, .d (.lit (.int .i64 s11)))]) (fun (s11 : Int) => [.box b1 0 (encApiProgram p_0)]) (fun (k : Nat) (s11 : Int) => play_Fits_L0 r9.2 order_1 (order_1.length : Int) p_0 k s11) (fun _ => rfl) (0) h (ent_pick [0] rfl rfl (le_upd rfl (le_keep ⟨rfl, rfl, rfl, rfl, trivial⟩))) ?_
   rintro k12 t29_0_11 h
   simp only [play_Fits_L0] at h
   refine tr_seq ?_
   refine tr_region ?_
   refine tr1 rfl (s_cmp (lt_of rfl) rfl rfl rfl) ?_
   refine tr_nil ?_
   refine tr_seq ?_
   refine tr_if rfl (fun c13 => ?_) (fun c13 => ?_)
   ·have h := cond_tt c13 h
    refine tr_skip ?_
    refine tr_seq ?_
    refine tr_blk ?_
    refine tr_seq ?_
    refine tr_region ?_
    obtain ⟨x14, h15, h⟩ := bind_some h
    refine tr1 rfl (s_index_sl (lt_of rfl) rfl rfl sl_26.of (idx_map encApiSeat h15)) ?_
    refine tr1 rfl (s_loada_cp (lt_of rfl) rfl agg_45 (es := (encApiSeat x14)) rfl rfl) ?_
    refine tr_op rfl (s_alloc (zs := [.lit (.int .i64 0), .lit (.int .i64 0), .lit (.int .i64 0)]) (lt_of rfl) Try.zeroValue45 rfl rfl) ?_
    rintro _ ⟨b16, rfl⟩
    refine tr1 rfl (s_store_bp (i := 1) rfl rfl rfl rfl rfl Try.sizeOf45 rfl (lt_of rfl) (Nat.le_of_ble_eq_true rfl) (ds' := (encApiSeat x14)) rfl) ?_
    refine tr_nil ?_
    refine tr_seq ?_
    obtain ⟨x17, h18, h⟩ := bind_some h
    obtain ⟨x19, h20, h⟩ := bind_some h
    obtain ⟨x21, h22, h⟩ := bind_some h
    refine tr_drawk mix 16 [2, 9, 11, 27, 28, 29] [(37, .d (.lit (.int .i64 x17))), (48, .d (.lit (.int .i64 x21.High)))] ?_ ?_
    ·refine ⟨[(33, 0, .d (.sl 1 (r9.2.map encI))), (34, 1, .bp b16 0 0), (35, 2, .d (.lit (.int .i64 x14.Job))), (36, 3, .cp [.lit (.int .i64 x17)]), (37, 4, .d (.lit (.int .i64 x17))), (38, 5, .bp b1 0 0), (39, 6, .d (.sl 1 (p_0.Days.map encSl_ApiSpan))), (40, 7, .bp b16 0 1), (41, 8, .d (.lit (.int .i64 x14.Day))), (42, 9, .cp [.sl 2 (x19.map encApiSpan)]), (43, 10, .d (.sl 2 (x19.map encApiSpan))), (44, 11, .bp b16 0 2), (45, 12, .d (.lit (.int .i64 x14.Court))), (46, 13, .cp [.lit (.int .i64 x21.Low), .lit (.int .i64 x21.High)]), (47, 14, .cp [.lit (.int .i64 x21.High)]), (48, 15, .d (.lit (.int .i64 x21.High)))], ?_, ?_⟩
     · exact ⟨by kernel_rfl, by kernel_rfl, by kernel_rfl, by kernel_rfl, by kernel_rfl, [([], []), ([], []), ([1], []), ([0, 2], []), ([3], []), ([], []), ([5], []), ([], []), ([7], []), ([6, 8], []), ([9], []), ([], []), ([11], []), ([10, 12], []), ([13], []), ([14], [])], by kernel_rfl, ⟨fun S hS => g_fin rfl (g_op rfl (s_move (v := .d (.sl 1 (r9.2.map encI))) (lt_of rfl) (ov_ev hS rfl) rfl)),
      fun S hS => g_fin rfl (g_op rfl (s_field_bp (lt_of rfl) (ov_ev hS rfl) fld_45_0)),
      fun S hS => g_fin rfl (g_op rfl (s_load_bp (lt_of rfl) (ov_ev hS rfl) (i := 1) rfl rfl one_3)),
      fun S hS => g_fin rfl (g_op rfl (s_index_sl (lt_of rfl) (ov_ev hS rfl) (ov_ev hS rfl) sl_27.of (idx_map encI h18))),
      fun S hS => g_fin rfl (g_op rfl (s_load_cp (lt_of rfl) (ov_ev hS rfl) one_3)),
      fun S hS => g_fin rfl (g_op rfl (s_field_bp (lt_of rfl) (ov_ev hS rfl) fld_25_0)),
      fun S hS => g_fin rfl (g_op rfl (s_load_bp (lt_of rfl) (ov_ev hS rfl) (i := 0) rfl rfl one_22)),
      fun S hS => g_fin rfl (g_op rfl (s_field_bp (lt_of rfl) (ov_ev hS rfl) fld_45_1)),
      fun S hS => g_fin rfl (g_op rfl (s_load_bp (lt_of rfl) (ov_ev hS rfl) (i := 1) rfl rfl one_3)),
      fun S hS => g_fin rfl (g_op rfl (s_index_sl (lt_of rfl) (ov_ev hS rfl) (ov_ev hS rfl) sl_22.of (idx_map encSl_ApiSpan h20))),
      fun S hS => g_fin rfl (g_op rfl (s_load_cp (lt_of rfl) (ov_ev hS rfl) one_37)),
      fun S hS => g_fin rfl (g_op rfl (s_field_bp (lt_of rfl) (ov_ev hS rfl) fld_45_2)),
      fun S hS => g_fin rfl (g_op rfl (s_load_bp (lt_of rfl) (ov_ev hS rfl) (i := 1) rfl rfl one_3)),
      fun S hS => g_fin rfl (g_op rfl (s_index_sl (lt_of rfl) (ov_ev hS rfl) (ov_ev hS rfl) sl_37.of (idx_map encApiSpan h22))),
      fun S hS => g_fin rfl (g_op rfl (s_field_cp (lt_of rfl) (ov_ev hS rfl) fld_34_1 (es := [.lit (.int .i64 x21.High)]) rfl)),
      fun S hS => g_fin rfl (g_op rfl (s_load_cp (lt_of rfl) (ov_ev hS rfl) one_3)), trivial⟩⟩
     · exact ent_le (le_upd rfl (le_upd rfl (le_keep ⟨rfl, rfl, rfl, rfl, rfl, rfl, trivial⟩)))
    ·refine tr1 rfl (s_cmp (lt_of rfl) rfl rfl rfl) ?_
     refine tr_nil ?_
     refine tr_if rfl (fun c23 => ?_) (fun c23 => ?_)
     ·have h := cond_tt c23 h
      refine tr_seq ?_
      refine tr_drawk mix 3 [] [(4, .d (.lit (.bool false))), (51, .d (.lit (.int .i64 x14.Job)))] ?_ ?_
      ·refine ⟨[(50, 0, .bp b16 0 0), (51, 1, .d (.lit (.int .i64 x14.Job))), (4, 2, .d (.lit (.bool false)))], ?_, ?_⟩
       · exact ⟨by kernel_rfl, by kernel_rfl, by kernel_rfl, by kernel_rfl, by kernel_rfl, [([], []), ([0], []), ([], [])], by kernel_rfl, ⟨fun S hS => g_fin rfl (g_op rfl (s_field_bp (lt_of rfl) (ov_ev hS rfl) fld_45_0)),
      fun S hS => g_fin rfl (g_op rfl (s_load_bp (lt_of rfl) (ov_ev hS rfl) (i := 1) rfl rfl one_3)),
      fun S hS => g_fin rfl (g_op rfl (s_assign (v := .d (.lit (.bool false))) (lt_of rfl) rfl rfl)), trivial⟩⟩
       · exact ent_le (le_upd rfl (le_upd rfl (le_keep trivial)))
      ·refine tr1 rfl (s_assign (v := .d (.lit (.int .i64 x14.Job))) (lt_of rfl) rfl rfl) ?_
       refine tr1 rfl (s_assign (v := .d (.lit (.int .i64 0))) (lt_of rfl) rfl rfl) ?_
       refine tr_nil ?_
       have h := Option.some.inj h
       subst h
       refine tr_ent (ent_free (ble_keep (l := [4, 5, 6]) ⟨rfl, rfl, rfl, trivial⟩)) ?_
       exact tr_ret ⟨rfl, _, .three _ _ _, rfl, rfl⟩
     ·have h := cond_ff c23 h
      refine tr_skipb ?_
      refine tr_region ?_
      refine tr1 rfl (s_arith (lt_of rfl) rfl rfl rfl) ?_
      refine tr1 rfl (s_move (v := .d (.lit (.int .i64 ((w64 (t29_0_11 + 1)))))) (lt_of rfl) rfl rfl) ?_
      refine tr_nil ?_
      exact ⟨(w64 (t29_0_11 + 1)), h, ent_pick [0] rfl rfl (le_upd rfl (le_keep ⟨rfl, rfl, rfl, rfl, trivial⟩))⟩
   ·have h := cond_ff c13 h
    refine tr_exit ?_
    refine .inl ⟨rfl, ?_⟩
    simp only [play_Fits_K0] at h
    refine tr_seq ?_
    refine tr_region ?_
    refine tr1 rfl (s_assign (v := .d (.lit (.bool true))) (lt_of rfl) rfl rfl) ?_
    refine tr1 rfl (s_assign (v := .d (.lit (.int .i64 (-1)))) (lt_of rfl) rfl rfl) ?_
    refine tr1 rfl (s_assign (v := .d (.lit (.int .i64 0))) (lt_of rfl) rfl rfl) ?_
    refine tr_nil ?_
    have h := Option.some.inj h
    subst h
    refine tr_ent (ent_free (ble_keep (l := [4, 5, 6]) ⟨rfl, rfl, rfl, trivial⟩)) ?_
    exact tr_ret ⟨rfl, _, .three _ _ _, rfl, rfl⟩

theorem play_state_has_c (x_0 : PlayState) (job_1 : Int) {r : Bool} (h : play_state_has x_0 job_1 = some r) : Fn Try.prog 127 [.agg (encPlayState x_0), .d (.lit (.int .i64 job_1))] (.d (.lit (.bool r))) := by
 unfold play_state_has at h
 refine Fn.of_tr Try.func127 rfl (rs := [.tmp 4]) Try.results127 Try.ntmps127 (Nat.le_of_ble_eq_true rfl) ?_
 refine tr_seq ?_
 refine tr_region ?_
 refine tr_op rfl (s_box (v := .agg (encPlayState x_0)) (lt_of rfl) rfl rfl rfl) ?_
 rintro _ ⟨b1, rfl⟩
 refine tr1 rfl (s_assign (v := .d (.lit (.bool false))) (lt_of rfl) rfl rfl) ?_
 refine tr_nil ?_
 refine tr_seq ?_
 refine tr_region ?_
 refine tr1 rfl (s_field_bp (lt_of rfl) rfl fld_161_1) ?_
 refine tr1 rfl (s_load_bp (lt_of rfl) rfl (i := 0) rfl rfl one_3) ?_
 refine tr1 rfl (s_move (v := .d (.lit (.int .i64 job_1))) (lt_of rfl) rfl rfl) ?_
 obtain ⟨u2, h3, h⟩ := bind_some h
 refine tr1 rfl (s_shr (lt_of rfl) rfl rfl (ge_of h3)) ?_
 refine tr1 rfl (s_bits (lt_of rfl) rfl rfl (.inl ⟨rfl, rfl⟩)) ?_
 refine tr1 rfl (s_cmp (lt_of rfl) rfl rfl rfl) ?_
 refine tr1 rfl (s_assign (v := .d (.lit (.bool ((decide ((bAnd (x_0.done.fdiv (2 ^ (min job_1.toNat 64))) 1) = 1)))))) (lt_of rfl) rfl rfl) ?_
 refine tr_nil ?_
 have h := Option.some.inj h
 subst h
 refine tr_ent (ent_free (ble_keep (l := [4]) ⟨rfl, trivial⟩)) ?_
 exact tr_ret ⟨rfl, _, .one _, rfl, rfl⟩

theorem slices_Index_api_Seat_c (s_0 : List ApiSeat) (v_1 : ApiSeat) {r : Int} (h : slices_Index_api_Seat s_0 v_1 = some r) : Fn Try.prog 133 [.d (.sl 3 (s_0.map encApiSeat)), .agg (encApiSeat v_1)] (.d (.lit (.int .i64 r))) := by
 unfold slices_Index_api_Seat at h
 refine Fn.of_tr Try.func133 rfl (rs := [.tmp 4]) Try.results133 Try.ntmps133 (Nat.le_of_ble_eq_true rfl) ?_
 refine tr_seq ?_
 refine tr_region ?_
 refine tr_op rfl (s_box (v := .agg (encApiSeat v_1)) (lt_of rfl) rfl rfl rfl) ?_
 rintro _ ⟨b1, rfl⟩
 refine tr1 rfl (s_assign (v := .d (.lit (.int .i64 0))) (lt_of rfl) rfl rfl) ?_
 refine tr_nil ?_
 refine tr_seq ?_
 refine tr_seq ?_
 refine tr_region ?_
 refine tr1 rfl (s_move (v := .d (.sl 3 (s_0.map encApiSeat))) (lt_of rfl) rfl rfl) ?_
 refine tr1 rfl (s_lenm (lt_of rfl) rfl sl_26.of) ?_
 refine tr1 rfl (s_move (v := .d (.lit (.int .i64 0))) (lt_of rfl) rfl rfl) ?_
 refine tr_nil ?_
 refine tr_blk ?_
 refine tr_loopk [0, 3, 7] (fun (s2 : Int) => [(8, .d (.lit (.int .i64 s2)))]) (fun (s2 : Int) => [.box b1 0 (encApiSeat v_1)]) (fun (k : Nat) (s2 : Int) => slices_Index_api_Seat_L0 s_0 (s_0.length : Int) v_1 k s2) (fun _ => rfl) (0) h (ent_pick [0] rfl rfl (le_upd rfl (le_keep ⟨rfl, rfl, rfl, trivial⟩))) ?_
 rintro k3 t8_0_2 h
 simp only [slices_Index_api_Seat_L0] at h
 refine tr_seq ?_
 refine tr_region ?_
 refine tr1 rfl (s_cmp (lt_of rfl) rfl rfl rfl) ?_
 refine tr_nil ?_
 refine tr_seq ?_
 refine tr_if rfl (fun c4 => ?_) (fun c4 => ?_)
 ·have h := cond_tt c4 h
  refine tr_skip ?_
  refine tr_seq ?_
  refine tr_blk ?_
  refine tr_seq ?_
  refine tr_region ?_
  refine tr1 rfl (s_move (v := .d (.lit (.int .i64 t8_0_2))) (lt_of rfl) rfl rfl) ?_
  refine tr1 rfl (s_assign (v := .d (.lit (.int .i64 t8_0_2))) (lt_of rfl) rfl rfl) ?_
  refine tr_nil ?_
  refine tr_seq ?_
  obtain ⟨x5, h6, h⟩ := bind_some h
  refine tr_drawk mix 5 [0, 3, 5, 7, 8] [(11, .agg (encApiSeat v_1)), (15, .agg (encApiSeat x5))] ?_ ?_
  ·refine ⟨[(11, 0, .agg (encApiSeat v_1)), (12, 1, .d (.sl 3 (s_0.map encApiSeat))), (13, 2, .d (.lit (.int .i64 t8_0_2))), (14, 3, .cp [.lit (.int .i64 x5.Job), .lit (.int .i64 x5.Day), .lit (.int .i64 x5.Court)]), (15, 4, .agg (encApiSeat x5))], ?_, ?_⟩
   · exact ⟨by kernel_rfl, by kernel_rfl, by kernel_rfl, by kernel_rfl, by kernel_rfl, [([], []), ([], []), ([], []), ([1, 2], []), ([3], [])], by kernel_rfl, ⟨fun S hS => g_fin rfl (g_op rfl (s_loada_bp (lt_of rfl) (ov_ev hS rfl) (i := 0) rfl agg_45 (es := (encApiSeat v_1)) rfl rfl)),
      fun S hS => g_fin rfl (g_op rfl (s_move (v := .d (.sl 3 (s_0.map encApiSeat))) (lt_of rfl) (ov_ev hS rfl) rfl)),
      fun S hS => g_fin rfl (g_op rfl (s_move (v := .d (.lit (.int .i64 t8_0_2))) (lt_of rfl) (ov_ev hS rfl) rfl)),
      fun S hS => g_fin rfl (g_op rfl (s_index_sl (lt_of rfl) (ov_ev hS rfl) (ov_ev hS rfl) sl_26.of (idx_map encApiSeat h6))),
      fun S hS => g_fin rfl (g_op rfl (s_loada_cp (lt_of rfl) (ov_ev hS rfl) agg_45 (es := (encApiSeat x5)) rfl rfl)), trivial⟩⟩
   · exact ent_le (le_upd rfl (le_upd rfl (le_keep ⟨rfl, rfl, rfl, rfl, rfl, trivial⟩)))
  ·refine tr1 rfl (s_eqs (a := v_1) (b := x5) (lt_of rfl) rfl rfl rfl rfl Try.eqGuardType45 eqt_45) ?_
   refine tr_nil ?_
   refine tr_if rfl (fun c7 => ?_) (fun c7 => ?_)
   ·have h := cond_tt c7 h
    refine tr_seq ?_
    refine tr_region ?_
    refine tr1 rfl (s_move (v := .d (.lit (.int .i64 t8_0_2))) (lt_of rfl) rfl rfl) ?_
    refine tr1 rfl (s_assign (v := .d (.lit (.int .i64 t8_0_2))) (lt_of rfl) rfl rfl) ?_
    refine tr_nil ?_
    have h := Option.some.inj h
    subst h
    refine tr_ent (ent_free (ble_keep (l := [4]) ⟨rfl, trivial⟩)) ?_
    exact tr_ret ⟨rfl, _, .one _, rfl, rfl⟩
   ·have h := cond_ff c7 h
    refine tr_skipb ?_
    refine tr_region ?_
    refine tr1 rfl (s_arith (lt_of rfl) rfl rfl rfl) ?_
    refine tr1 rfl (s_move (v := .d (.lit (.int .i64 ((w64 (t8_0_2 + 1)))))) (lt_of rfl) rfl rfl) ?_
    refine tr_nil ?_
    exact ⟨(w64 (t8_0_2 + 1)), h, ent_pick [0] rfl rfl (le_upd rfl (le_keep ⟨rfl, rfl, rfl, trivial⟩))⟩
 ·have h := cond_ff c4 h
  refine tr_exit ?_
  refine .inl ⟨rfl, ?_⟩
  simp only [slices_Index_api_Seat_K0] at h
  refine tr_seq ?_
  refine tr_region ?_
  refine tr1 rfl (s_assign (v := .d (.lit (.int .i64 (-1)))) (lt_of rfl) rfl rfl) ?_
  refine tr_nil ?_
  have h := Option.some.inj h
  subst h
  refine tr_ent (ent_free (ble_keep (l := [4]) ⟨rfl, trivial⟩)) ?_
  exact tr_ret ⟨rfl, _, .one _, rfl, rfl⟩

theorem slices_Contains_api_Seat_c (s_0 : List ApiSeat) (v_1 : ApiSeat) {r : Bool} (h : slices_Contains_api_Seat s_0 v_1 = some r) : Fn Try.prog 132 [.d (.sl 3 (s_0.map encApiSeat)), .agg (encApiSeat v_1)] (.d (.lit (.bool r))) := by
 unfold slices_Contains_api_Seat at h
 refine Fn.of_tr Try.func132 rfl (rs := [.tmp 4]) Try.results132 Try.ntmps132 (Nat.le_of_ble_eq_true rfl) ?_
 refine tr_seq ?_
 refine tr_region ?_
 refine tr_op rfl (s_box (v := .agg (encApiSeat v_1)) (lt_of rfl) rfl rfl rfl) ?_
 rintro _ ⟨b1, rfl⟩
 refine tr1 rfl (s_assign (v := .d (.lit (.bool false))) (lt_of rfl) rfl rfl) ?_
 refine tr_nil ?_
 refine tr_seq ?_
 refine tr_region ?_
 refine tr1 rfl (s_move (v := .d (.sl 3 (s_0.map encApiSeat))) (lt_of rfl) rfl rfl) ?_
 refine tr1 rfl (s_loada_bp (lt_of rfl) rfl (i := 0) rfl agg_45 (es := (encApiSeat v_1)) rfl rfl) ?_
 obtain ⟨r2, h3, h⟩ := bind_some h
 refine tr1 rfl (s_call (lt_of rfl) (.func _ _ Try.call133) rfl rfl (BVs.refl _ _) (slices_Index_api_Seat_c _ _ h3) rfl) ?_
 refine tr1 rfl (s_cmp (lt_of rfl) rfl rfl rfl) ?_
 refine tr1 rfl (s_assign (v := .d (.lit (.bool ((decide (0 ≤ r2)))))) (lt_of rfl) rfl rfl) ?_
 refine tr_nil ?_
 have h := Option.some.inj h
 subst h
 refine tr_ent (ent_free (ble_keep (l := [4]) ⟨rfl, trivial⟩)) ?_
 exact tr_ret ⟨rfl, _, .one _, rfl, rfl⟩

theorem play_search_move_c (s_0 : PlaySearch) (x_1 : ApiSeat) {r : Int} {s_0_seen_r : Nat} (h : play_search_move s_0 x_1 = some r) : Fn Try.prog 128 [.cp [.sl 1 (s_0.Program.Days.map encSl_ApiSpan), .lit (.int .i64 s_0.Program.Rest), .sl 6 (s_0.Program.Jobs.map encApiJob), .lit (.int .i64 s_0.days), encO 3 encApiSeat s_0.old, .lit (.map (some s_0_seen_r))], .agg (encApiSeat x_1)] (.d (.lit (.int .i64 r))) := by
 unfold play_search_move at h
 refine Fn.of_tr Try.func128 rfl (rs := [.tmp 4]) Try.results128 Try.ntmps128 (Nat.le_of_ble_eq_true rfl) ?_
 refine tr_seq ?_
 refine tr_region ?_
 refine tr_op rfl (s_box (v := .agg (encApiSeat x_1)) (lt_of rfl) rfl rfl rfl) ?_
 rintro _ ⟨b1, rfl⟩
 refine tr1 rfl (s_assign (v := .d (.lit (.int .i64 0))) (lt_of rfl) rfl rfl) ?_
 refine tr_nil ?_
 refine tr_seq ?_
 refine tr_seq ?_
 obtain ⟨b2, h3, h⟩ := bind_some h
 refine tr_drawk mix 13 [] [(17, .d (.lit (.bool b2)))] ?_ ?_
 ·refine bool_cases (s_0.old.isNone) (fun c4 => ?_) (fun c4 => ?_)
  ·have h3 := cond_tt c4 h3
   have h3 := Option.some.inj h3
   subst h3
   refine ⟨[(5, 0, .cp [.sl 1 (s_0.Program.Days.map encSl_ApiSpan), .lit (.int .i64 s_0.Program.Rest), .sl 6 (s_0.Program.Jobs.map encApiJob), .lit (.int .i64 s_0.days), encO 3 encApiSeat s_0.old, .lit (.map (some s_0_seen_r))]), (6, 1, .cp [.sl 1 (s_0.Program.Days.map encSl_ApiSpan), .lit (.int .i64 s_0.Program.Rest), .sl 6 (s_0.Program.Jobs.map encApiJob), .lit (.int .i64 s_0.days), encO 3 encApiSeat s_0.old, .lit (.map (some s_0_seen_r))]), (7, 2, .cp [encO 3 encApiSeat s_0.old]), (8, 3, .d (encO 3 encApiSeat s_0.old)), (9, 4, .d (.lit (.bool s_0.old.isNone))), (10, 5, .d (.lit (.bool s_0.old.isNone))), (11, 6, .tup []), (12, 7, .tup []), (13, 8, .tup []), (14, 9, .tup []), (15, 10, .tup []), (16, 11, .tup []), (17, 12, .d (.lit (.bool true)))], ?_, ?_⟩
   · exact ⟨by kernel_rfl, by kernel_rfl, by kernel_rfl, by kernel_rfl, by kernel_rfl, [([], []), ([0], []), ([1], []), ([2], []), ([3], []), ([4], []), ([5], []), ([5, 6], []), ([5, 7], []), ([5, 8], []), ([5], []), ([5, 9, 10], []), ([5, 11], [])], by kernel_rfl, ⟨fun S hS => g_fin rfl (g_op rfl (s_move (v := .cp [.sl 1 (s_0.Program.Days.map encSl_ApiSpan), .lit (.int .i64 s_0.Program.Rest), .sl 6 (s_0.Program.Jobs.map encApiJob), .lit (.int .i64 s_0.days), encO 3 encApiSeat s_0.old, .lit (.map (some s_0_seen_r))]) (lt_of rfl) (ov_ev hS rfl) rfl)),
      fun S hS => g_fin rfl (g_op rfl (s_nilck_cp (lt_of rfl) (ov_ev hS rfl))),
      fun S hS => g_fin rfl (g_op rfl (s_field_cp (lt_of rfl) (ov_ev hS rfl) fld_158_2 (es := [encO 3 encApiSeat s_0.old]) rfl)),
      fun S hS => g_fin rfl (g_op rfl (s_load_cp (lt_of rfl) (ov_ev hS rfl) one_26)),
      fun S hS => g_fin rfl (g_op rfl (s_isnil (lt_of rfl) (ov_ev hS rfl) Try.underlying26)),
      fun S hS => g_fin rfl (g_op rfl (s_move (v := .d (.lit (.bool s_0.old.isNone))) (lt_of rfl) (ov_ev hS rfl) rfl)),
      fun S hS => g_fin rfl (g_pass rfl rfl (lt_of rfl) rfl (lt_of rfl) (ov_en hS rfl) c4),
      fun S hS => g_fin rfl (g_pass rfl rfl (lt_of rfl) rfl (lt_of rfl) (ov_en hS rfl) c4),
      fun S hS => g_fin rfl (g_pass rfl rfl (lt_of rfl) rfl (lt_of rfl) (ov_en hS rfl) c4),
      fun S hS => g_fin rfl (g_pass rfl rfl (lt_of rfl) rfl (lt_of rfl) (ov_en hS rfl) c4),
      fun S hS => g_fin rfl (g_pass rfl rfl (lt_of rfl) rfl (lt_of rfl) (ov_en hS rfl) c4),
      fun S hS => g_fin rfl (g_pass rfl rfl (lt_of rfl) rfl (lt_of rfl) (ov_en hS rfl) c4),
      fun S hS => g_fin rfl (g_op rfl (s_pick_t (v := .d (.lit (.bool true))) (lt_of rfl) (ov_ev hS rfl) c4 rfl rfl)), trivial⟩⟩
   · exact ent_le (le_upd rfl (le_keep trivial))
  ·have h3 := cond_ff c4 h3
   obtain ⟨r5, h6, h3⟩ := bind_some h3
   have h3 := Option.some.inj h3
   subst h3
   refine ⟨[(5, 0, .cp [.sl 1 (s_0.Program.Days.map encSl_ApiSpan), .lit (.int .i64 s_0.Program.Rest), .sl 6 (s_0.Program.Jobs.map encApiJob), .lit (.int .i64 s_0.days), encO 3 encApiSeat s_0.old, .lit (.map (some s_0_seen_r))]), (6, 1, .cp [.sl 1 (s_0.Program.Days.map encSl_ApiSpan), .lit (.int .i64 s_0.Program.Rest), .sl 6 (s_0.Program.Jobs.map encApiJob), .lit (.int .i64 s_0.days), encO 3 encApiSeat s_0.old, .lit (.map (some s_0_seen_r))]), (7, 2, .cp [encO 3 encApiSeat s_0.old]), (8, 3, .d (encO 3 encApiSeat s_0.old)), (9, 4, .d (.lit (.bool s_0.old.isNone))), (10, 5, .d (.lit (.bool s_0.old.isNone))), (11, 6, .cp [.sl 1 (s_0.Program.Days.map encSl_ApiSpan), .lit (.int .i64 s_0.Program.Rest), .sl 6 (s_0.Program.Jobs.map encApiJob), .lit (.int .i64 s_0.days), encO 3 encApiSeat s_0.old, .lit (.map (some s_0_seen_r))]), (12, 7, .cp [.sl 1 (s_0.Program.Days.map encSl_ApiSpan), .lit (.int .i64 s_0.Program.Rest), .sl 6 (s_0.Program.Jobs.map encApiJob), .lit (.int .i64 s_0.days), encO 3 encApiSeat s_0.old, .lit (.map (some s_0_seen_r))]), (13, 8, .cp [encO 3 encApiSeat s_0.old]), (14, 9, .d (encO 3 encApiSeat s_0.old)), (15, 10, .agg (encApiSeat x_1)), (16, 11, .d (.lit (.bool r5))), (17, 12, .d (.lit (.bool r5)))], ?_, ?_⟩
   · exact ⟨by kernel_rfl, by kernel_rfl, by kernel_rfl, by kernel_rfl, by kernel_rfl, [([], []), ([0], []), ([1], []), ([2], []), ([3], []), ([4], []), ([5], []), ([5, 6], []), ([5, 7], []), ([5, 8], []), ([5], []), ([5, 9, 10], []), ([5, 11], [])], by kernel_rfl, ⟨fun S hS => g_fin rfl (g_op rfl (s_move (v := .cp [.sl 1 (s_0.Program.Days.map encSl_ApiSpan), .lit (.int .i64 s_0.Program.Rest), .sl 6 (s_0.Program.Jobs.map encApiJob), .lit (.int .i64 s_0.days), encO 3 encApiSeat s_0.old, .lit (.map (some s_0_seen_r))]) (lt_of rfl) (ov_ev hS rfl) rfl)),
      fun S hS => g_fin rfl (g_op rfl (s_nilck_cp (lt_of rfl) (ov_ev hS rfl))),
      fun S hS => g_fin rfl (g_op rfl (s_field_cp (lt_of rfl) (ov_ev hS rfl) fld_158_2 (es := [encO 3 encApiSeat s_0.old]) rfl)),
      fun S hS => g_fin rfl (g_op rfl (s_load_cp (lt_of rfl) (ov_ev hS rfl) one_26)),
      fun S hS => g_fin rfl (g_op rfl (s_isnil (lt_of rfl) (ov_ev hS rfl) Try.underlying26)),
      fun S hS => g_fin rfl (g_op rfl (s_move (v := .d (.lit (.bool s_0.old.isNone))) (lt_of rfl) (ov_ev hS rfl) rfl)),
      fun S hS => g_fin rfl (g_take rfl rfl (lt_of rfl) (ov_en hS rfl) c4 (s_move (v := .cp [.sl 1 (s_0.Program.Days.map encSl_ApiSpan), .lit (.int .i64 s_0.Program.Rest), .sl 6 (s_0.Program.Jobs.map encApiJob), .lit (.int .i64 s_0.days), encO 3 encApiSeat s_0.old, .lit (.map (some s_0_seen_r))]) (lt_of rfl) (ov_ev hS rfl) rfl)),
      fun S hS => g_fin rfl (g_take rfl rfl (lt_of rfl) (ov_en hS rfl) c4 (s_nilck_cp (lt_of rfl) (ov_ev hS rfl))),
      fun S hS => g_fin rfl (g_take rfl rfl (lt_of rfl) (ov_en hS rfl) c4 (s_field_cp (lt_of rfl) (ov_ev hS rfl) fld_158_2 (es := [encO 3 encApiSeat s_0.old]) rfl)),
      fun S hS => g_fin rfl (g_take rfl rfl (lt_of rfl) (ov_en hS rfl) c4 (s_load_cp (lt_of rfl) (ov_ev hS rfl) one_26)),
      fun S hS => g_fin rfl (g_take rfl rfl (lt_of rfl) (ov_en hS rfl) c4 (s_loada_bp (lt_of rfl) (ov_ev hS rfl) (i := 0) rfl agg_45 (es := (encApiSeat x_1)) rfl rfl)),
      fun S hS => g_fin rfl (g_take rfl rfl (lt_of rfl) (ov_en hS rfl) c4 (s_call (lt_of rfl) (.func _ _ Try.call132) (ev2 (ov_ev hS rfl) (ev2 (ov_ev hS rfl) evn)) rfl (.cons (.d (dv_opt _)) (.cons (.same _) .nil)) (slices_Contains_api_Seat_c _ _ h6) rfl)),
      fun S hS => g_fin rfl (g_op rfl (s_pick_f (v := .d (.lit (.bool r5))) (lt_of rfl) (ov_ev hS rfl) c4 (ov_ev hS rfl) rfl)), trivial⟩⟩
   · exact ent_le (le_upd rfl (le_keep trivial))
 ·refine tr_nil ?_
  refine tr_if rfl (fun c7 => ?_) (fun c7 => ?_)
  ·have h := cond_tt c7 h
   refine tr_seq ?_
   refine tr_region ?_
   refine tr1 rfl (s_assign (v := .d (.lit (.int .i64 0))) (lt_of rfl) rfl rfl) ?_
   refine tr_nil ?_
   have h := Option.some.inj h
   subst h
   refine tr_ent (ent_free (ble_keep (l := [4]) ⟨rfl, trivial⟩)) ?_
   exact tr_ret ⟨rfl, _, .one _, rfl, rfl⟩
  ·have h := cond_ff c7 h
   refine tr_skip ?_
   refine tr_seq ?_
   refine tr_region ?_
   refine tr1 rfl (s_assign (v := .d (.lit (.int .i64 1))) (lt_of rfl) rfl rfl) ?_
   refine tr_nil ?_
   have h := Option.some.inj h
   subst h
   refine tr_ent (ent_free (ble_keep (l := [4]) ⟨rfl, trivial⟩)) ?_
   exact tr_ret ⟨rfl, _, .one _, rfl, rfl⟩

theorem play_search_from_rc (kr : Nat) : ∀ (s_0 : PlaySearch) (s_0_seen : List (PlayState × Int)) (x_1 : PlayState) {r : (List ApiSeat) × Bool × (List (PlayState × Int))} {s_0_seen_r : Nat} {s_0_seen_bs : List Nat} {s_0_seen_ck : Nat} (_h : play_search_from_r kr s_0 s_0_seen x_1 = some r), ACalls Try.prog 110 [.cp [.sl 1 (s_0.Program.Days.map encSl_ApiSpan), .lit (.int .i64 s_0.Program.Rest), .sl 6 (s_0.Program.Jobs.map encApiJob), .lit (.int .i64 s_0.days), encO 3 encApiSeat s_0.old, .lit (.map (some s_0_seen_r))], .agg (encPlayState x_1)] [.map s_0_seen_r (s_0_seen.map fun p => ((fun a : PlayState => Value.agg ((encPlayState a).map zcell).toArray) p.1, (fun v : Int => AV.d (.lit (.int .i64 v))) p.2)) s_0_seen_bs s_0_seen_ck] (fun r' o' => ∃ (bs0 : List Nat) (ck0 : Nat), r' = .tup [.d (.sl 3 (r.1.map encApiSeat)), .d (.lit (.bool r.2.1))] ∧ o' = [.map s_0_seen_r (r.2.2.map fun p => ((fun a : PlayState => Value.agg ((encPlayState a).map zcell).toArray) p.1, (fun v : Int => AV.d (.lit (.int .i64 v))) p.2)) bs0 ck0]) := by
  induction kr with
  | zero => intros; rename_i h; cases h
  | succ kr ih =>
    intro s_0 s_0_seen x_1 r s_0_seen_r s_0_seen_bs s_0_seen_ck h
    simp only [play_search_from_r] at h
    refine acalls_trm Try.func110 rfl (rs := [.tmp 4, .tmp 5]) Try.results110 Try.ntmps110 (Nat.le_of_ble_eq_true rfl) ?_
    refine tr_seq ?_
    refine tr_region ?_
    refine tr_op rfl (s_box (v := .agg (encPlayState x_1)) (lt_of rfl) rfl rfl rfl) ?_
    rintro _ ⟨b1, rfl⟩
    refine tr1 rfl (s_nil 3 (lt_of rfl)) ?_
    refine tr1 rfl (s_assign (v := .d (.lit (.bool false))) (lt_of rfl) rfl rfl) ?_
    refine tr_nil ?_
    refine tr_scope (by repeat (first | exact ng_ret | apply ng_then | apply ng_block)) ?_
    refine tr_seq ?_
    refine tr_seq ?_
    obtain ⟨u2, h3, h⟩ := bind_some h
    refine tr_drawk mix 10 [0, 3] [(21, .d (.lit (.int .i64 x_1.done))), (29, .d (.lit (.int .i64 ((w64 ((w64 (1 * 2 ^ (min (s_0.Program.Jobs.length : Int).toNat 64))) - 1))))))] ?_ ?_
    ·refine ⟨[(20, 0, .bp b1 0 10), (21, 1, .d (.lit (.int .i64 x_1.done))), (22, 2, .cp [.sl 1 (s_0.Program.Days.map encSl_ApiSpan), .lit (.int .i64 s_0.Program.Rest), .sl 6 (s_0.Program.Jobs.map encApiJob), .lit (.int .i64 s_0.days), encO 3 encApiSeat s_0.old, .lit (.map (some s_0_seen_r))]), (23, 3, .cp [.sl 1 (s_0.Program.Days.map encSl_ApiSpan), .lit (.int .i64 s_0.Program.Rest), .sl 6 (s_0.Program.Jobs.map encApiJob), .lit (.int .i64 s_0.days), encO 3 encApiSeat s_0.old, .lit (.map (some s_0_seen_r))]), (24, 4, .cp [.sl 1 (s_0.Program.Days.map encSl_ApiSpan), .lit (.int .i64 s_0.Program.Rest), .sl 6 (s_0.Program.Jobs.map encApiJob)]), (25, 5, .cp [.sl 6 (s_0.Program.Jobs.map encApiJob)]), (26, 6, .d (.sl 6 (s_0.Program.Jobs.map encApiJob))), (27, 7, .d (.lit (.int .i64 ((s_0.Program.Jobs.length : Int))))), (28, 8, .d (.lit (.int .i64 ((w64 (1 * 2 ^ (min (s_0.Program.Jobs.length : Int).toNat 64))))))), (29, 9, .d (.lit (.int .i64 ((w64 ((w64 (1 * 2 ^ (min (s_0.Program.Jobs.length : Int).toNat 64))) - 1))))))], ?_, ?_⟩
     · exact ⟨by kernel_rfl, by kernel_rfl, by kernel_rfl, by kernel_rfl, by kernel_rfl, [([], []), ([0], []), ([], []), ([2], []), ([3], []), ([4], []), ([5], []), ([6], []), ([7], []), ([8], [])], by kernel_rfl, ⟨fun S hS => g_fin rfl (g_op rfl (s_field_bp (lt_of rfl) (ov_ev hS rfl) fld_161_1)),
      fun S hS => g_fin rfl (g_op rfl (s_load_bp (lt_of rfl) (ov_ev hS rfl) (i := 1) rfl rfl one_3)),
      fun S hS => g_fin rfl (g_op rfl (s_move (v := .cp [.sl 1 (s_0.Program.Days.map encSl_ApiSpan), .lit (.int .i64 s_0.Program.Rest), .sl 6 (s_0.Program.Jobs.map encApiJob), .lit (.int .i64 s_0.days), encO 3 encApiSeat s_0.old, .lit (.map (some s_0_seen_r))]) (lt_of rfl) (ov_ev hS rfl) rfl)),
      fun S hS => g_fin rfl (g_op rfl (s_nilck_cp (lt_of rfl) (ov_ev hS rfl))),
      fun S hS => g_fin rfl (g_op rfl (s_field_cp (lt_of rfl) (ov_ev hS rfl) fld_158_0 (es := [.sl 1 (s_0.Program.Days.map encSl_ApiSpan), .lit (.int .i64 s_0.Program.Rest), .sl 6 (s_0.Program.Jobs.map encApiJob)]) rfl)),
      fun S hS => g_fin rfl (g_op rfl (s_field_cp (lt_of rfl) (ov_ev hS rfl) fld_25_2 (es := [.sl 6 (s_0.Program.Jobs.map encApiJob)]) rfl)),
      fun S hS => g_fin rfl (g_op rfl (s_load_cp (lt_of rfl) (ov_ev hS rfl) one_23)),
      fun S hS => g_fin rfl (g_op rfl (s_lenm (lt_of rfl) (ov_ev hS rfl) sl_23.of)),
      fun S hS => g_fin rfl (g_op rfl (s_shl (lt_of rfl) rfl (ov_ev hS rfl) (ge_of h3))),
      fun S hS => g_fin rfl (g_op rfl (s_arith (lt_of rfl) (ov_ev hS rfl) rfl rfl)), trivial⟩⟩
     · exact ent_le (le_upd rfl (le_upd rfl (le_keep ⟨rfl, rfl, trivial⟩)))
    ·refine tr1 rfl (s_cmp (lt_of rfl) rfl rfl rfl) ?_
     refine tr_nil ?_
     refine tr_if rfl (fun c4 => ?_) (fun c4 => ?_)
     ·have h := cond_tt c4 h
      refine tr_seq ?_
      refine tr_region ?_
      refine tr1 rfl (s_nil 3 (lt_of rfl)) ?_
      refine tr1 rfl (s_assign (v := .d (.lit (.bool true))) (lt_of rfl) rfl rfl) ?_
      refine tr_nil ?_
      have h := Option.some.inj h
      subst h
      refine tr_ent (ent_pick [0] rfl rfl (le_keep (l := [4, 5]) ⟨rfl, rfl, trivial⟩)) ?_
      exact tr_ret ⟨rfl, _, .two _ _, _, _, rfl, rfl⟩
     ·have h := cond_ff c4 h
      refine tr_skip ?_
      refine tr_seq ?_
      refine tr_seq ?_
      refine tr_drawxk mix 9 [0, 3] (fun X5 => [(34, .d (.lit (.map (some s_0_seen_r)))), (37, .d (.lit (.int .i64 ((w64 ((mget x_1 0 s_0_seen) + 1)))))), (39, .d (.lit (.int .i64 (mstamp x_1 s_0_seen s_0_seen_bs s_0_seen_ck))))]) (fun X5 => [.map s_0_seen_r ((ment x_1 0 s_0_seen).map fun p => ((fun a : PlayState => Value.agg ((encPlayState a).map zcell).toArray) p.1, (fun v : Int => AV.d (.lit (.int .i64 v))) p.2)) (mbs x_1 s_0_seen s_0_seen_bs s_0_seen_ck) (mck x_1 s_0_seen s_0_seen_ck), .box b1 0 (encPlayState x_1)]) ?_ ?_
      ·refine ⟨0, fun X5 => [(31, 0, .cp [.sl 1 (s_0.Program.Days.map encSl_ApiSpan), .lit (.int .i64 s_0.Program.Rest), .sl 6 (s_0.Program.Jobs.map encApiJob), .lit (.int .i64 s_0.days), encO 3 encApiSeat s_0.old, .lit (.map (some s_0_seen_r))]), (32, 1, .cp [.sl 1 (s_0.Program.Days.map encSl_ApiSpan), .lit (.int .i64 s_0.Program.Rest), .sl 6 (s_0.Program.Jobs.map encApiJob), .lit (.int .i64 s_0.days), encO 3 encApiSeat s_0.old, .lit (.map (some s_0_seen_r))]), (33, 2, .cp [.lit (.map (some s_0_seen_r))]), (34, 3, .d (.lit (.map (some s_0_seen_r)))), (35, 4, .agg (encPlayState x_1)), (36, 5, .d (.lit (.int .i64 ((mget x_1 0 s_0_seen))))), (37, 6, .d (.lit (.int .i64 ((w64 ((mget x_1 0 s_0_seen) + 1)))))), (38, 7, .tup [.d (.lit (.int .i64 ((mget x_1 0 s_0_seen)))), .d (.lit (.int .i64 (mstamp x_1 s_0_seen s_0_seen_bs s_0_seen_ck)))]), (39, 8, .d (.lit (.int .i64 (mstamp x_1 s_0_seen s_0_seen_bs s_0_seen_ck))))], fun X5 => [([(7, .map s_0_seen_r ((ment x_1 0 s_0_seen).map fun p => ((fun a : PlayState => Value.agg ((encPlayState a).map zcell).toArray) p.1, (fun v : Int => AV.d (.lit (.int .i64 v))) p.2)) (mbs x_1 s_0_seen s_0_seen_bs s_0_seen_ck) (mck x_1 s_0_seen s_0_seen_ck))], .map s_0_seen_r (s_0_seen.map fun p => ((fun a : PlayState => Value.agg ((encPlayState a).map zcell).toArray) p.1, (fun v : Int => AV.d (.lit (.int .i64 v))) p.2)) s_0_seen_bs s_0_seen_ck), ([], .box b1 0 (encPlayState x_1))], ?_, ?_⟩
       · exact ⟨by kernel_rfl, by kernel_rfl, by kernel_rfl, fun _ => by kernel_rfl, fun _ => by kernel_rfl, fun _ => by kernel_rfl, fun _ => rfl, [([], [7]), ([0], [7]), ([1], [7]), ([2], [7]), ([], [7]), ([3, 4], []), ([5], []), ([3, 4], []), ([7], [])], by kernel_rfl, ⟨fun X5 S hw hi hS => x_pure (X := X5) rfl (hw X5) rfl (g_op rfl (s_move (v := .cp [.sl 1 (s_0.Program.Days.map encSl_ApiSpan), .lit (.int .i64 s_0.Program.Rest), .sl 6 (s_0.Program.Jobs.map encApiJob), .lit (.int .i64 s_0.days), encO 3 encApiSeat s_0.old, .lit (.map (some s_0_seen_r))]) (lt_of rfl) (ov_ev hS rfl) rfl)),
      fun X5 S hw hi hS => x_pure (X := X5) rfl (hw X5) rfl (g_op rfl (s_nilck_cp (lt_of rfl) (ov_ev hS rfl))),
      fun X5 S hw hi hS => x_pure (X := X5) rfl (hw X5) rfl (g_op rfl (s_field_cp (lt_of rfl) (ov_ev hS rfl) fld_158_3 (es := [.lit (.map (some s_0_seen_r))]) rfl)),
      fun X5 S hw hi hS => x_pure (X := X5) rfl (hw X5) rfl (g_op rfl (s_load_cp (lt_of rfl) (ov_ev hS rfl) one_156)),
      fun X5 S hw hi hS => x_pure (X := X5) rfl (hw X5) rfl (g_op rfl (s_loada_bp (lt_of rfl) (ov_ev hS rfl) (i := 1) (og hS rfl rfl) agg_161 (es := (encPlayState x_1)) rfl rfl)),
      fun X5 S hw hi hS => x_pure (X := X5) rfl (hw X5) rfl (g_op rfl (s_lookup2 (av := (fun v : Int => AV.d (.lit (.int .i64 v)))) (l := s_0_seen) (z := 0) (a := x_1) (m := 0) (lt_of rfl) key_161 Try.underlying156 Try.zeroValue3 (fun _ _ => .d (.lit _ rfl)) (ov_ev hS rfl) (og2 rfl) rfl (ov_ev hS rfl) (keyAV_agg (enc := encPlayState) x_1 rfl))),
      fun X5 S hw hi hS => x_pure (X := X5) rfl (hw X5) rfl (g_op rfl (s_arith (lt_of rfl) (ov_ev hS rfl) rfl rfl)),
      fun X5 S hw hi hS => x_call (X := X5) (p := 0) hS rfl rfl rfl (hw X5) rfl rfl rfl (step_post (s_mapentry (av := (fun v : Int => AV.d (.lit (.int .i64 v)))) (l := s_0_seen) (z := 0) (a := x_1) (m := 0) (lt_of rfl) key_161 Try.underlying156 Try.zeroValue3 (fun _ _ => .d (.lit _ rfl)) (ov_ev hS rfl) (og hS rfl rfl) rfl (ov_ev hS rfl) (keyAV_agg (enc := encPlayState) x_1 rfl)) (by rintro _ rfl; exact Ent.refl _)),
      fun X5 S hw hi hS => x_pure (X := X5) rfl (hw X5) rfl (g_op rfl (s_extract (lt_of rfl) (ov_ev hS rfl) rfl)), trivial⟩⟩
       · exact fun X5 => ent_le (le_upd rfl (le_upd rfl (le_upd rfl (le_keep ⟨rfl, rfl, trivial⟩))))
      ·intro X5
       refine tr1 rfl (s_entrystore' (kv := (fun a : PlayState => Value.agg ((encPlayState a).map zcell).toArray)) (av := (fun v : Int => AV.d (.lit (.int .i64 v)))) (l := s_0_seen) (z := 0) (v := w64 ((mget x_1 0 s_0_seen) + 1)) (a := x_1) (m := 0) rfl rfl rfl rfl rfl) ?_
       refine tr_nil ?_
       refine tr_seq ?_
       refine tr_drawk mix 5 [0, 3] [(43, .d (.lit (.map (some s_0_seen_r)))), (44, .agg (encPlayState x_1))] ?_ ?_
       ·refine ⟨[(40, 0, .cp [.sl 1 (s_0.Program.Days.map encSl_ApiSpan), .lit (.int .i64 s_0.Program.Rest), .sl 6 (s_0.Program.Jobs.map encApiJob), .lit (.int .i64 s_0.days), encO 3 encApiSeat s_0.old, .lit (.map (some s_0_seen_r))]), (41, 1, .cp [.sl 1 (s_0.Program.Days.map encSl_ApiSpan), .lit (.int .i64 s_0.Program.Rest), .sl 6 (s_0.Program.Jobs.map encApiJob), .lit (.int .i64 s_0.days), encO 3 encApiSeat s_0.old, .lit (.map (some s_0_seen_r))]), (42, 2, .cp [.lit (.map (some s_0_seen_r))]), (43, 3, .d (.lit (.map (some s_0_seen_r)))), (44, 4, .agg (encPlayState x_1))], ?_, ?_⟩
        · exact ⟨by kernel_rfl, by kernel_rfl, by kernel_rfl, by kernel_rfl, by kernel_rfl, [([], []), ([0], []), ([1], []), ([2], []), ([], [])], by kernel_rfl, ⟨fun S hS => g_fin rfl (g_op rfl (s_move (v := .cp [.sl 1 (s_0.Program.Days.map encSl_ApiSpan), .lit (.int .i64 s_0.Program.Rest), .sl 6 (s_0.Program.Jobs.map encApiJob), .lit (.int .i64 s_0.days), encO 3 encApiSeat s_0.old, .lit (.map (some s_0_seen_r))]) (lt_of rfl) (ov_ev hS rfl) rfl)),
      fun S hS => g_fin rfl (g_op rfl (s_nilck_cp (lt_of rfl) (ov_ev hS rfl))),
      fun S hS => g_fin rfl (g_op rfl (s_field_cp (lt_of rfl) (ov_ev hS rfl) fld_158_3 (es := [.lit (.map (some s_0_seen_r))]) rfl)),
      fun S hS => g_fin rfl (g_op rfl (s_load_cp (lt_of rfl) (ov_ev hS rfl) one_156)),
      fun S hS => g_fin rfl (g_op rfl (s_loada_bp (lt_of rfl) (ov_ev hS rfl) (i := 1) rfl agg_161 (es := (encPlayState x_1)) rfl rfl)), trivial⟩⟩
        · exact ent_le (le_upd rfl (le_upd rfl (le_keep ⟨rfl, rfl, trivial⟩)))
       ·refine tr1 rfl (s_lookup (av := (fun v : Int => AV.d (.lit (.int .i64 v)))) (l := (mset x_1 (w64 ((mget x_1 0 s_0_seen) + 1)) s_0_seen)) (z := 0) (a := x_1) (m := 0) (lt_of rfl) key_161 Try.underlying156 Try.zeroValue3 (fun _ _ => .d (.lit _ rfl)) rfl rfl rfl rfl (keyAV_agg (enc := encPlayState) x_1 rfl)) ?_
        refine tr1 rfl (s_cmp (lt_of rfl) rfl rfl rfl) ?_
        refine tr_nil ?_
        refine tr_if rfl (fun c6 => ?_) (fun c6 => ?_)
        ·have h := cond_tt c6 h
         refine tr_seq ?_
         refine tr_region ?_
         refine tr1 rfl (s_nil 3 (lt_of rfl)) ?_
         refine tr1 rfl (s_assign (v := .d (.lit (.bool false))) (lt_of rfl) rfl rfl) ?_
         refine tr_nil ?_
         have h := Option.some.inj h
         subst h
         refine tr_ent (ent_pick [0] rfl rfl (le_keep (l := [4, 5]) ⟨rfl, rfl, trivial⟩)) ?_
         exact tr_ret ⟨rfl, _, .two _ _, _, _, rfl, rfl⟩
        ·have h := cond_ff c6 h
         refine tr_skip ?_
         refine tr_seq ?_
         refine tr_labelt ?_
         refine tr_seq ?_
         refine tr_seq ?_
         refine tr_region ?_
         refine tr1 rfl (s_move (v := .cp [.sl 1 (s_0.Program.Days.map encSl_ApiSpan), .lit (.int .i64 s_0.Program.Rest), .sl 6 (s_0.Program.Jobs.map encApiJob), .lit (.int .i64 s_0.days), encO 3 encApiSeat s_0.old, .lit (.map (some s_0_seen_r))]) (lt_of rfl) rfl rfl) ?_
         refine tr1 rfl (s_nilck_cp (lt_of rfl) rfl) ?_
         refine tr1 rfl (s_field_cp (lt_of rfl) rfl fld_158_0 (es := [.sl 1 (s_0.Program.Days.map encSl_ApiSpan), .lit (.int .i64 s_0.Program.Rest), .sl 6 (s_0.Program.Jobs.map encApiJob)]) rfl) ?_
         refine tr1 rfl (s_field_cp (lt_of rfl) rfl fld_25_2 (es := [.sl 6 (s_0.Program.Jobs.map encApiJob)]) rfl) ?_
         refine tr1 rfl (s_load_cp (lt_of rfl) rfl one_23) ?_
         refine tr1 rfl (s_lenm (lt_of rfl) rfl sl_23.of) ?_
         refine tr1 rfl (s_move (v := .d (.lit (.int .i64 0))) (lt_of rfl) rfl rfl) ?_
         refine tr_nil ?_
         refine tr_blk ?_
         refine tr_loopk [0, 3, 51, 52] (fun (s7 : Int × (List (PlayState × Int)) × (List Nat) × Nat) => [(53, .d (.lit (.int .i64 s7.1)))]) (fun (s7 : Int × (List (PlayState × Int)) × (List Nat) × Nat) => [.map s_0_seen_r (s7.2.1.map fun p => ((fun a : PlayState => Value.agg ((encPlayState a).map zcell).toArray) p.1, (fun v : Int => AV.d (.lit (.int .i64 v))) p.2)) s7.2.2.1 s7.2.2.2, .box b1 0 (encPlayState x_1)]) (fun (k : Nat) (s7 : Int × (List (PlayState × Int)) × (List Nat) × Nat) => play_search_from_L0 (play_search_from_r kr) s_0.Program s_0.days s_0.old s_0.Program.Jobs (s_0.Program.Jobs.length : Int) x_1 k s7.1 s7.2.1) (fun _ => rfl) (0, (mset x_1 (w64 ((mget x_1 0 s_0_seen) + 1)) s_0_seen), (mbs x_1 s_0_seen s_0_seen_bs s_0_seen_ck), (mck x_1 s_0_seen s_0_seen_ck)) h (ent_pick [0, 1] rfl rfl (le_upd rfl (le_keep ⟨rfl, rfl, rfl, rfl, trivial⟩))) ?_
         rintro k10 ⟨t53_0_7, s_0_7_4, bs8, ck9⟩ h
         simp only [play_search_from_L0] at h
         refine tr_seq ?_
         refine tr_region ?_
         refine tr1 rfl (s_cmp (lt_of rfl) rfl rfl rfl) ?_
         refine tr_nil ?_
         refine tr_seq ?_
         refine tr_if rfl (fun c11 => ?_) (fun c11 => ?_)
         ·have h := cond_tt c11 h
          refine tr_skip ?_
          refine tr_seq ?_
          refine tr_blk ?_
          refine tr_seq ?_
          refine tr_region ?_
          refine tr1 rfl (s_move (v := .d (.lit (.int .i64 t53_0_7))) (lt_of rfl) rfl rfl) ?_
          obtain ⟨x12, h13, h⟩ := bind_some h
          refine tr1 rfl (s_index_sl (lt_of rfl) rfl rfl sl_23.of (idx_map encApiJob h13)) ?_
          refine tr1 rfl (s_loada_cp (lt_of rfl) rfl agg_36 (es := (encApiJob x12)) rfl rfl) ?_
          refine tr_op rfl (s_alloc (zs := [.lit (.int .i64 0), .lit (.int .i64 0), .sl 1 ((([] : List Int)).map encI), .sl 1 ((([] : List Int)).map encI), .lit (.int .i64 0), .lit (.int .i64 0)]) (lt_of rfl) Try.zeroValue36 rfl rfl) ?_
          rintro _ ⟨b14, rfl⟩
          refine tr1 rfl (s_assign (v := .d (.lit (.int .i64 t53_0_7))) (lt_of rfl) rfl rfl) ?_
          refine tr1 rfl (s_store_bp (i := 2) rfl rfl rfl rfl rfl Try.sizeOf36 rfl (lt_of rfl) (Nat.le_of_ble_eq_true rfl) (ds' := (encApiJob x12)) rfl) ?_
          refine tr_nil ?_
          refine tr_seq ?_
          refine tr_seq ?_
          refine tr_region ?_
          refine tr1 rfl (s_loada_bp (lt_of rfl) rfl (i := 1) rfl agg_161 (es := (encPlayState x_1)) rfl rfl) ?_
          refine tr1 rfl (s_move (v := .d (.lit (.int .i64 t53_0_7))) (lt_of rfl) rfl rfl) ?_
          obtain ⟨r15, h16, h⟩ := bind_some h
          refine tr1 rfl (s_call (lt_of rfl) (.func _ _ Try.call127) rfl rfl (BVs.refl _ _) (play_state_has_c _ _ h16) rfl) ?_
          refine tr_nil ?_
          refine tr_if rfl (fun c17 => ?_) (fun c17 => ?_)
          ·have h := cond_tt c17 h
           refine tr_exit ?_
           refine .inl ⟨rfl, ?_⟩
           simp only [play_search_from_K1] at h
           refine tr_region ?_
           refine tr1 rfl (s_arith (lt_of rfl) rfl rfl rfl) ?_
           refine tr1 rfl (s_move (v := .d (.lit (.int .i64 ((w64 (t53_0_7 + 1)))))) (lt_of rfl) rfl rfl) ?_
           refine tr_nil ?_
           exact ⟨(w64 (t53_0_7 + 1), s_0_7_4, bs8, ck9), h, ent_pick [0, 1] rfl rfl (le_upd rfl (le_keep ⟨rfl, rfl, rfl, rfl, trivial⟩))⟩
          ·have h := cond_ff c17 h
           refine tr_skip ?_
           refine tr_seq ?_
           refine tr_seq ?_
           refine tr_region ?_
           refine tr1 rfl (s_field_bp (lt_of rfl) rfl fld_36_1) ?_
           refine tr1 rfl (s_load_bp (lt_of rfl) rfl (i := 2) rfl rfl one_27) ?_
           refine tr1 rfl (s_lenm (lt_of rfl) rfl sl_27.of) ?_
           refine tr1 rfl (s_move (v := .d (.lit (.int .i64 0))) (lt_of rfl) rfl rfl) ?_
           refine tr_nil ?_
           refine tr_blk ?_
           refine tr_loopk [0, 3, 6, 7, 51, 52, 53, 62, 63] (fun (s18 : Int) => [(64, .d (.lit (.int .i64 s18)))]) (fun (s18 : Int) => [.map s_0_seen_r (s_0_7_4.map fun p => ((fun a : PlayState => Value.agg ((encPlayState a).map zcell).toArray) p.1, (fun v : Int => AV.d (.lit (.int .i64 v))) p.2)) bs8 ck9, .box b1 0 (encPlayState x_1), .box b14 0 (encApiJob x12)]) (fun (k : Nat) (s18 : Int) => play_search_from_L2 (play_search_from_r kr) (play_search_from_L0 (play_search_from_r kr) s_0.Program s_0.days s_0.old s_0.Program.Jobs (s_0.Program.Jobs.length : Int) x_1 k10) s_0.Program s_0.days s_0.old t53_0_7 s_0.Program.Jobs (s_0.Program.Jobs.length : Int) t53_0_7 x12.After (x12.After.length : Int) s_0_7_4 x_1 x12 k s18) (fun _ => rfl) (0) h (ent_pick [0, 1, 2] rfl rfl (le_upd rfl (le_keep ⟨rfl, rfl, rfl, rfl, rfl, rfl, rfl, rfl, rfl, trivial⟩))) ?_
           rintro k19 t64_2_18 h
           simp only [play_search_from_L2] at h
           refine tr_seq ?_
           refine tr_region ?_
           refine tr1 rfl (s_cmp (lt_of rfl) rfl rfl rfl) ?_
           refine tr_nil ?_
           refine tr_seq ?_
           refine tr_if rfl (fun c20 => ?_) (fun c20 => ?_)
           ·have h := cond_tt c20 h
            refine tr_skip ?_
            refine tr_seq ?_
            refine tr_blk ?_
            refine tr_seq ?_
            refine tr_region ?_
            obtain ⟨x21, h22, h⟩ := bind_some h
            refine tr1 rfl (s_index_sl (lt_of rfl) rfl rfl sl_27.of (idx_map encI h22)) ?_
            refine tr1 rfl (s_load_cp (lt_of rfl) rfl one_3) ?_
            refine tr1 rfl (s_assign (v := .d (.lit (.int .i64 x21))) (lt_of rfl) rfl rfl) ?_
            refine tr_nil ?_
            refine tr_seq ?_
            refine tr_region ?_
            refine tr1 rfl (s_loada_bp (lt_of rfl) rfl (i := 1) rfl agg_161 (es := (encPlayState x_1)) rfl rfl) ?_
            refine tr1 rfl (s_move (v := .d (.lit (.int .i64 x21))) (lt_of rfl) rfl rfl) ?_
            obtain ⟨r23, h24, h⟩ := bind_some h
            refine tr1 rfl (s_call (lt_of rfl) (.func _ _ Try.call127) rfl rfl (BVs.refl _ _) (play_state_has_c _ _ h24) rfl) ?_
            refine tr1 rfl (s_not (lt_of rfl) rfl) ?_
            refine tr_nil ?_
            refine tr_if rfl (fun c25 => ?_) (fun c25 => ?_)
            ·have h := cond_tt c25 h
             refine tr_exit ?_
             refine .inr ⟨by decide, ?_⟩
             refine .inr ⟨by decide, ?_⟩
             refine .inl ⟨rfl, ?_⟩
             simp only [play_search_from_K1] at h
             refine tr_region ?_
             refine tr1 rfl (s_arith (lt_of rfl) rfl rfl rfl) ?_
             refine tr1 rfl (s_move (v := .d (.lit (.int .i64 ((w64 (t53_0_7 + 1)))))) (lt_of rfl) rfl rfl) ?_
             refine tr_nil ?_
             exact ⟨(w64 (t53_0_7 + 1), s_0_7_4, bs8, ck9), h, ent_pick [0, 1] rfl rfl (le_upd rfl (le_keep ⟨rfl, rfl, rfl, rfl, trivial⟩))⟩
            ·have h := cond_ff c25 h
             refine tr_skipb ?_
             refine tr_region ?_
             refine tr1 rfl (s_arith (lt_of rfl) rfl rfl rfl) ?_
             refine tr1 rfl (s_move (v := .d (.lit (.int .i64 ((w64 (t64_2_18 + 1)))))) (lt_of rfl) rfl rfl) ?_
             refine tr_nil ?_
             exact ⟨(w64 (t64_2_18 + 1)), h, ent_pick [0, 1, 2] rfl rfl (le_upd rfl (le_keep ⟨rfl, rfl, rfl, rfl, rfl, rfl, rfl, rfl, rfl, trivial⟩))⟩
           ·have h := cond_ff c20 h
            refine tr_exit ?_
            refine .inl ⟨rfl, ?_⟩
            simp only [play_search_from_K2] at h
            refine tr_seq ?_
            refine tr_region ?_
            refine tr1 rfl (s_field_bp (lt_of rfl) rfl fld_161_0) ?_
            refine tr1 rfl (s_field_bp (lt_of rfl) rfl fld_124_0) ?_
            refine tr1 rfl (s_load_bp (lt_of rfl) rfl (i := 1) rfl rfl one_3) ?_
            refine tr1 rfl (s_assign (v := .d (.lit (.int .i64 x_1.day.number))) (lt_of rfl) rfl rfl) ?_
            refine tr_nil ?_
            refine tr_blkb ?_
            refine tr_loopk [0, 3, 6, 7, 51, 52, 53] (fun (s26 : Int × (List (PlayState × Int)) × (List Nat) × Nat) => [(10, .d (.lit (.int .i64 s26.1)))]) (fun (s26 : Int × (List (PlayState × Int)) × (List Nat) × Nat) => [.map s_0_seen_r (s26.2.1.map fun p => ((fun a : PlayState => Value.agg ((encPlayState a).map zcell).toArray) p.1, (fun v : Int => AV.d (.lit (.int .i64 v))) p.2)) s26.2.2.1 s26.2.2.2, .box b1 0 (encPlayState x_1), .box b14 0 (encApiJob x12)]) (fun (k : Nat) (s26 : Int × (List (PlayState × Int)) × (List Nat) × Nat) => play_search_from_L4 (play_search_from_r kr) (play_search_from_L0 (play_search_from_r kr) s_0.Program s_0.days s_0.old s_0.Program.Jobs (s_0.Program.Jobs.length : Int) x_1 k10) s_0.Program s_0.days s_0.old t53_0_7 s_0.Program.Jobs (s_0.Program.Jobs.length : Int) t53_0_7 x_1 x12 k s26.1 s26.2.1) (fun _ => rfl) (x_1.day.number, s_0_7_4, bs8, ck9) h (ent_pick [0, 1, 2] rfl rfl (le_upd rfl (le_keep ⟨rfl, rfl, rfl, rfl, rfl, rfl, rfl, trivial⟩))) ?_
            rintro k29 ⟨n_4_26, s_4_26_4, bs27, ck28⟩ h
            simp only [play_search_from_L4] at h
            refine tr_seq ?_
            refine tr_seq ?_
            refine tr_region ?_
            refine tr1 rfl (s_move (v := .d (.lit (.int .i64 n_4_26))) (lt_of rfl) rfl rfl) ?_
            refine tr1 rfl (s_move (v := .cp [.sl 1 (s_0.Program.Days.map encSl_ApiSpan), .lit (.int .i64 s_0.Program.Rest), .sl 6 (s_0.Program.Jobs.map encApiJob), .lit (.int .i64 s_0.days), encO 3 encApiSeat s_0.old, .lit (.map (some s_0_seen_r))]) (lt_of rfl) rfl rfl) ?_
            refine tr1 rfl (s_nilck_cp (lt_of rfl) rfl) ?_
            refine tr1 rfl (s_field_cp (lt_of rfl) rfl fld_158_1 (es := [.lit (.int .i64 s_0.days)]) rfl) ?_
            refine tr1 rfl (s_load_cp (lt_of rfl) rfl one_3) ?_
            refine tr1 rfl (s_cmp (lt_of rfl) rfl rfl rfl) ?_
            refine tr1 rfl (s_move (v := .d (.lit (.bool ((decide (n_4_26 < s_0.days)))))) (lt_of rfl) rfl rfl) ?_
            obtain ⟨b30, h31, h⟩ := bind_some h
            refine tr_guard 5 [0, 3, 6, 7, 10, 51, 52, 53] 87 b30 ?_ ?_
            ·refine bool_cases (decide (n_4_26 < s_0.days)) (fun c97 => ?_) (fun c97 => ?_)
             ·have h31 := cond_tt c97 h31
              refine tr_take1 rfl rfl (lt_of rfl) rfl c97 (s_move (v := .d (.lit (.int .i64 n_4_26))) (lt_of rfl) rfl rfl) ?_
              refine tr_take1 rfl rfl (lt_of rfl) rfl c97 (s_field_bp (lt_of rfl) rfl fld_36_3) ?_
              refine tr_take1 rfl rfl (lt_of rfl) rfl c97 (s_load_bp (lt_of rfl) rfl (i := 2) rfl rfl one_3) ?_
              refine tr_take1 rfl rfl (lt_of rfl) rfl c97 (s_cmp (lt_of rfl) rfl rfl rfl) ?_
              refine tr1 rfl (s_pick_t (v := .d (.lit (.bool ((decide (n_4_26 ≤ x12.Due)))))) (lt_of rfl) rfl c97 rfl rfl) ?_
              have h31 := Option.some.inj h31
              subst h31
              refine tr_nil (ent_keep rfl ⟨rfl, rfl, rfl, rfl, rfl, rfl, rfl, rfl, trivial⟩ rfl)
             ·have h31 := cond_ff c97 h31
              refine tr_pass rfl rfl (lt_of rfl) rfl (lt_of rfl) rfl c97 ?_
              refine tr_pass rfl rfl (lt_of rfl) rfl (lt_of rfl) rfl c97 ?_
              refine tr_pass rfl rfl (lt_of rfl) rfl (lt_of rfl) rfl c97 ?_
              refine tr_pass rfl rfl (lt_of rfl) rfl (lt_of rfl) rfl c97 ?_
              refine tr1 rfl (s_pick_f (v := .d (.lit (.bool false))) (lt_of rfl) rfl c97 rfl rfl) ?_
              have h31 := Option.some.inj h31
              subst h31
              refine tr_nil (ent_keep rfl ⟨rfl, rfl, rfl, rfl, rfl, rfl, rfl, rfl, trivial⟩ rfl)
            ·refine tr_nil ?_
             refine tr_if rfl (fun c32 => ?_) (fun c32 => ?_)
             ·have h := cond_tt c32 h
              refine tr_skip ?_
              refine tr_seq ?_
              refine tr_blk ?_
              refine tr_seq ?_
              refine tr_region ?_
              refine tr1 rfl (s_field_bp (lt_of rfl) rfl fld_161_0) ?_
              refine tr1 rfl (s_loada_bp (lt_of rfl) rfl (i := 1) rfl agg_124 (es := (encPlayDay x_1.day)) rfl rfl) ?_
              refine tr_op rfl (s_alloc (zs := [.lit (.int .i64 0), .lit (.int .i64 0), .lit (.int .i64 0), .lit (.int .i64 0), .lit (.int .i64 0), .lit (.int .i64 0), .lit (.int .i64 0), .lit (.int .i64 0), .lit (.int .i64 0), .lit (.int .i64 0)]) (lt_of rfl) Try.zeroValue124 rfl rfl) ?_
              rintro _ ⟨b33, rfl⟩
              refine tr1 rfl (s_store_bp (i := 3) rfl rfl rfl rfl rfl Try.sizeOf124 rfl (lt_of rfl) (Nat.le_of_ble_eq_true rfl) (ds' := (encPlayDay x_1.day)) rfl) ?_
              refine tr_nil ?_
              refine tr_seq ?_
              refine tr_seq ?_
              refine tr_region ?_
              refine tr1 rfl (s_move (v := .d (.lit (.int .i64 n_4_26))) (lt_of rfl) rfl rfl) ?_
              refine tr1 rfl (s_field_bp (lt_of rfl) rfl fld_161_0) ?_
              refine tr1 rfl (s_field_bp (lt_of rfl) rfl fld_124_0) ?_
              refine tr1 rfl (s_load_bp (lt_of rfl) rfl (i := 1) rfl rfl one_3) ?_
              refine tr1 rfl (s_cmp (lt_of rfl) rfl rfl rfl) ?_
              refine tr_nil ?_
              refine tr_if rfl (fun c34 => ?_) (fun c34 => ?_)
              ·have h := cond_tt c34 h
               refine tr_region ?_
               refine tr1 rfl (s_move (v := .cp [.sl 1 (s_0.Program.Days.map encSl_ApiSpan), .lit (.int .i64 s_0.Program.Rest), .sl 6 (s_0.Program.Jobs.map encApiJob), .lit (.int .i64 s_0.days), encO 3 encApiSeat s_0.old, .lit (.map (some s_0_seen_r))]) (lt_of rfl) rfl rfl) ?_
               refine tr1 rfl (s_nilck_cp (lt_of rfl) rfl) ?_
               refine tr1 rfl (s_field_cp (lt_of rfl) rfl fld_158_0 (es := [.sl 1 (s_0.Program.Days.map encSl_ApiSpan), .lit (.int .i64 s_0.Program.Rest), .sl 6 (s_0.Program.Jobs.map encApiJob)]) rfl) ?_
               refine tr1 rfl (s_loada_cp (lt_of rfl) rfl agg_25 (es := (encApiProgram s_0.Program)) rfl rfl) ?_
               refine tr1 rfl (s_move (v := .d (.lit (.int .i64 n_4_26))) (lt_of rfl) rfl rfl) ?_
               obtain ⟨r35, h36, h⟩ := bind_some h
               refine tr1 rfl (s_callf (lt_of rfl) (.func _ _ Try.call86) rfl rfl (play_open_c _ _ h36)) ?_
               refine tr1 rfl (s_store_bp (i := 3) rfl rfl rfl rfl rfl Try.sizeOf124 rfl (lt_of rfl) (Nat.le_of_ble_eq_true rfl) (ds' := (encPlayDay r35)) rfl) ?_
               refine tr_nil ?_
               refine tr_seq ?_
               refine tr_region ?_
               refine tr1 rfl (s_move (v := .cp [.sl 1 (s_0.Program.Days.map encSl_ApiSpan), .lit (.int .i64 s_0.Program.Rest), .sl 6 (s_0.Program.Jobs.map encApiJob), .lit (.int .i64 s_0.days), encO 3 encApiSeat s_0.old, .lit (.map (some s_0_seen_r))]) (lt_of rfl) rfl rfl) ?_
               refine tr1 rfl (s_nilck_cp (lt_of rfl) rfl) ?_
               refine tr1 rfl (s_field_cp (lt_of rfl) rfl fld_158_0 (es := [.sl 1 (s_0.Program.Days.map encSl_ApiSpan), .lit (.int .i64 s_0.Program.Rest), .sl 6 (s_0.Program.Jobs.map encApiJob)]) rfl) ?_
               refine tr1 rfl (s_field_cp (lt_of rfl) rfl fld_25_0 (es := [.sl 1 (s_0.Program.Days.map encSl_ApiSpan)]) rfl) ?_
               refine tr1 rfl (s_load_cp (lt_of rfl) rfl one_22) ?_
               refine tr1 rfl (s_move (v := .d (.lit (.int .i64 n_4_26))) (lt_of rfl) rfl rfl) ?_
               obtain ⟨x37, h38, h⟩ := bind_some h
               refine tr1 rfl (s_index_sl (lt_of rfl) rfl rfl sl_22.of (idx_map encSl_ApiSpan h38)) ?_
               refine tr1 rfl (s_load_cp (lt_of rfl) rfl one_37) ?_
               refine tr1 rfl (s_lenm (lt_of rfl) rfl sl_37.of) ?_
               refine tr1 rfl (s_move (v := .d (.lit (.int .i64 0))) (lt_of rfl) rfl rfl) ?_
               refine tr_nil ?_
               refine tr_blkb ?_
               refine tr_loopk [0, 3, 6, 7, 10, 11, 51, 52, 53, 110, 111] (fun (s39 : Int × (List (PlayState × Int)) × (List Nat) × Nat) => [(112, .d (.lit (.int .i64 s39.1)))]) (fun (s39 : Int × (List (PlayState × Int)) × (List Nat) × Nat) => [.map s_0_seen_r (s39.2.1.map fun p => ((fun a : PlayState => Value.agg ((encPlayState a).map zcell).toArray) p.1, (fun v : Int => AV.d (.lit (.int .i64 v))) p.2)) s39.2.2.1 s39.2.2.2, .box b1 0 (encPlayState x_1), .box b14 0 (encApiJob x12), .box b33 0 (encPlayDay r35)]) (fun (k : Nat) (s39 : Int × (List (PlayState × Int)) × (List Nat) × Nat) => play_search_from_L6 (play_search_from_r kr) (play_search_from_L0 (play_search_from_r kr) s_0.Program s_0.days s_0.old s_0.Program.Jobs (s_0.Program.Jobs.length : Int) x_1 k10) (play_search_from_L4 (play_search_from_r kr) (play_search_from_L0 (play_search_from_r kr) s_0.Program s_0.days s_0.old s_0.Program.Jobs (s_0.Program.Jobs.length : Int) x_1 k10) s_0.Program s_0.days s_0.old t53_0_7 s_0.Program.Jobs (s_0.Program.Jobs.length : Int) t53_0_7 x_1 x12 k29) s_0.Program s_0.days s_0.old t53_0_7 n_4_26 s_0.Program.Jobs (s_0.Program.Jobs.length : Int) t53_0_7 x37 (x37.length : Int) x_1 x12 r35 k s39.1 s39.2.1) (fun _ => rfl) (0, s_4_26_4, bs27, ck28) h (ent_pick [0, 1, 2, 3] rfl rfl (le_upd rfl (le_keep ⟨rfl, rfl, rfl, rfl, rfl, rfl, rfl, rfl, rfl, rfl, rfl, trivial⟩))) ?_
               rintro k42 ⟨t112_6_39, s_6_39_4, bs40, ck41⟩ h
               simp only [play_search_from_L6] at h
               refine tr_seq ?_
               refine tr_region ?_
               refine tr1 rfl (s_cmp (lt_of rfl) rfl rfl rfl) ?_
               refine tr_nil ?_
               refine tr_seq ?_
               refine tr_if rfl (fun c43 => ?_) (fun c43 => ?_)
               ·have h := cond_tt c43 h
                refine tr_skip ?_
                refine tr_seq ?_
                refine tr_blk ?_
                refine tr_seq ?_
                refine tr_region ?_
                refine tr1 rfl (s_move (v := .d (.lit (.int .i64 t112_6_39))) (lt_of rfl) rfl rfl) ?_
                obtain ⟨x44, h45, h⟩ := bind_some h
                refine tr1 rfl (s_index_sl (lt_of rfl) rfl rfl sl_37.of (idx_map encApiSpan h45)) ?_
                refine tr1 rfl (s_loada_cp (lt_of rfl) rfl agg_34 (es := (encApiSpan x44)) rfl rfl) ?_
                refine tr_op rfl (s_alloc (zs := [.lit (.int .i64 0), .lit (.int .i64 0)]) (lt_of rfl) Try.zeroValue34 rfl rfl) ?_
                rintro _ ⟨b46, rfl⟩
                refine tr1 rfl (s_assign (v := .d (.lit (.int .i64 t112_6_39))) (lt_of rfl) rfl rfl) ?_
                refine tr1 rfl (s_store_bp (i := 4) rfl rfl rfl rfl rfl Try.sizeOf34 rfl (lt_of rfl) (Nat.le_of_ble_eq_true rfl) (ds' := (encApiSpan x44)) rfl) ?_
                refine tr_nil ?_
                refine tr_seq ?_
                refine tr_region ?_
                refine tr1 rfl (s_move (v := .d (.lit (.int .i64 t53_0_7))) (lt_of rfl) rfl rfl) ?_
                refine tr1 rfl (s_move (v := .d (.lit (.int .i64 n_4_26))) (lt_of rfl) rfl rfl) ?_
                refine tr1 rfl (s_move (v := .d (.lit (.int .i64 t112_6_39))) (lt_of rfl) rfl rfl) ?_
                refine tr1 rfl (s_build (lt_of rfl) stu_45 (zs := [.lit (.int .i64 0), .lit (.int .i64 0), .lit (.int .i64 0)]) rfl rfl rfl rfl (es := [.lit (.int .i64 t53_0_7), .lit (.int .i64 n_4_26), .lit (.int .i64 t112_6_39)]) rfl) ?_
                refine tr_op rfl (s_alloc (zs := [.lit (.int .i64 0), .lit (.int .i64 0), .lit (.int .i64 0)]) (lt_of rfl) Try.zeroValue45 rfl rfl) ?_
                rintro _ ⟨b47, rfl⟩
                refine tr1 rfl (s_store_bp (i := 5) rfl rfl rfl rfl rfl Try.sizeOf45 rfl (lt_of rfl) (Nat.le_of_ble_eq_true rfl) (ds' := (encApiSeat (ApiSeat.mk t53_0_7 n_4_26 t112_6_39))) rfl) ?_
                refine tr_nil ?_
                refine tr_seq ?_
                obtain ⟨u49, h50, h⟩ := bind_some h
                obtain ⟨r51, h52, h⟩ := bind_some h
                refine tr_drawxk mix 14 [0, 3, 6, 7, 10, 11, 13, 14, 51, 52, 53, 110, 111, 112] (fun X48 => [(15, .bp (X48 13).b 0 0), (133, .agg (encPlayState (PlayState.mk r35 (bOr x_1.done (w64 (1 * 2 ^ (min t53_0_7.toNat 64)))) (w64 (x_1.moves - r51)))))]) (fun X48 => [.map s_0_seen_r (s_6_39_4.map fun p => ((fun a : PlayState => Value.agg ((encPlayState a).map zcell).toArray) p.1, (fun v : Int => AV.d (.lit (.int .i64 v))) p.2)) bs40 ck41, .box b1 0 (encPlayState x_1), .box b14 0 (encApiJob x12), .box b33 0 (encPlayDay r35), .box b46 0 (encApiSpan x44), .box b47 0 (encApiSeat (ApiSeat.mk t53_0_7 n_4_26 t112_6_39)), .box (X48 13).b 0 (encPlayState (PlayState.mk (PlayDay.mk 0 (A3.mk 0 0 0) (A6.mk 0 0 0 0 0 0)) 0 0))]) ?_ ?_
                ·refine ⟨1, fun X48 => [(121, 0, .agg (encPlayDay r35)), (122, 1, .bp b1 0 10), (123, 2, .d (.lit (.int .i64 x_1.done))), (124, 3, .d (.lit (.int .i64 t53_0_7))), (125, 4, .d (.lit (.int .i64 ((w64 (1 * 2 ^ (min t53_0_7.toNat 64))))))), (126, 5, .d (.lit (.int .i64 ((bOr x_1.done (w64 (1 * 2 ^ (min t53_0_7.toNat 64)))))))), (127, 6, .bp b1 0 11), (128, 7, .d (.lit (.int .i64 x_1.moves))), (129, 8, .cp [.sl 1 (s_0.Program.Days.map encSl_ApiSpan), .lit (.int .i64 s_0.Program.Rest), .sl 6 (s_0.Program.Jobs.map encApiJob), .lit (.int .i64 s_0.days), encO 3 encApiSeat s_0.old, .lit (.map (some s_0_seen_r))]), (130, 9, .agg (encApiSeat (ApiSeat.mk t53_0_7 n_4_26 t112_6_39))), (131, 10, .d (.lit (.int .i64 r51))), (132, 11, .d (.lit (.int .i64 ((w64 (x_1.moves - r51)))))), (133, 12, .agg (encPlayState (PlayState.mk r35 (bOr x_1.done (w64 (1 * 2 ^ (min t53_0_7.toNat 64)))) (w64 (x_1.moves - r51))))), (15, 13, .bp (X48 13).b 0 0)], fun X48 => [([], .map s_0_seen_r (s_6_39_4.map fun p => ((fun a : PlayState => Value.agg ((encPlayState a).map zcell).toArray) p.1, (fun v : Int => AV.d (.lit (.int .i64 v))) p.2)) bs40 ck41), ([], .box b1 0 (encPlayState x_1)), ([], .box b14 0 (encApiJob x12)), ([], .box b33 0 (encPlayDay r35)), ([], .box b46 0 (encApiSpan x44)), ([], .box b47 0 (encApiSeat (ApiSeat.mk t53_0_7 n_4_26 t112_6_39))), ([(13, .box (X48 13).b 0 (encPlayState (PlayState.mk (PlayDay.mk 0 (A3.mk 0 0 0) (A6.mk 0 0 0 0 0 0)) 0 0)))], nob)], ?_, ?_⟩
                 · exact ⟨by kernel_rfl, by kernel_rfl, by kernel_rfl, fun _ => by kernel_rfl, fun _ => by kernel_rfl, fun _ => by kernel_rfl, fun _ => rfl, [([], []), ([], []), ([1], []), ([], []), ([3], []), ([2, 4], []), ([], []), ([6], []), ([], []), ([], []), ([8, 9], []), ([7, 10], []), ([0, 5, 11], []), ([], [])], by kernel_rfl, ⟨fun X48 S hw hi hS => x_pure (X := X48) rfl (hw X48) rfl (g_op rfl (s_loada_bp (lt_of rfl) (ov_ev hS rfl) (i := 3) (og hS rfl rfl) agg_124 (es := (encPlayDay r35)) rfl rfl)),
      fun X48 S hw hi hS => x_pure (X := X48) rfl (hw X48) rfl (g_op rfl (s_field_bp (lt_of rfl) (ov_ev hS rfl) fld_161_1)),
      fun X48 S hw hi hS => x_pure (X := X48) rfl (hw X48) rfl (g_op rfl (s_load_bp (lt_of rfl) (ov_ev hS rfl) (i := 1) (og hS rfl rfl) rfl one_3)),
      fun X48 S hw hi hS => x_pure (X := X48) rfl (hw X48) rfl (g_op rfl (s_move (v := .d (.lit (.int .i64 t53_0_7))) (lt_of rfl) (ov_ev hS rfl) rfl)),
      fun X48 S hw hi hS => x_pure (X := X48) rfl (hw X48) rfl (g_op rfl (s_shl (lt_of rfl) rfl (ov_ev hS rfl) (ge_of h50))),
      fun X48 S hw hi hS => x_pure (X := X48) rfl (hw X48) rfl (g_op rfl (s_bits (lt_of rfl) (ov_ev hS rfl) (ov_ev hS rfl) (.inr (.inl ⟨rfl, rfl⟩)))),
      fun X48 S hw hi hS => x_pure (X := X48) rfl (hw X48) rfl (g_op rfl (s_field_bp (lt_of rfl) (ov_ev hS rfl) fld_161_2)),
      fun X48 S hw hi hS => x_pure (X := X48) rfl (hw X48) rfl (g_op rfl (s_load_bp (lt_of rfl) (ov_ev hS rfl) (i := 1) (og hS rfl rfl) rfl one_3)),
      fun X48 S hw hi hS => x_pure (X := X48) rfl (hw X48) rfl (g_op rfl (s_move (v := .cp [.sl 1 (s_0.Program.Days.map encSl_ApiSpan), .lit (.int .i64 s_0.Program.Rest), .sl 6 (s_0.Program.Jobs.map encApiJob), .lit (.int .i64 s_0.days), encO 3 encApiSeat s_0.old, .lit (.map (some s_0_seen_r))]) (lt_of rfl) (ov_ev hS rfl) rfl)),
      fun X48 S hw hi hS => x_pure (X := X48) rfl (hw X48) rfl (g_op rfl (s_loada_bp (lt_of rfl) (ov_ev hS rfl) (i := 5) (og hS rfl rfl) agg_45 (es := (encApiSeat (ApiSeat.mk t53_0_7 n_4_26 t112_6_39))) rfl rfl)),
      fun X48 S hw hi hS => x_pure (X := X48) rfl (hw X48) rfl (g_op rfl (s_call (lt_of rfl) (.func _ _ Try.call128) (ev2 (ov_ev hS rfl) (ev2 (ov_ev hS rfl) evn)) rfl (BVs.refl _ _) (play_search_move_c _ _ h52) rfl)),
      fun X48 S hw hi hS => x_pure (X := X48) rfl (hw X48) rfl (g_op rfl (s_arith (lt_of rfl) (ov_ev hS rfl) (ov_ev hS rfl) rfl)),
      fun X48 S hw hi hS => x_pure (X := X48) rfl (hw X48) rfl (g_op rfl (s_build (lt_of rfl) stu_161 (zs := [.lit (.int .i64 0), .lit (.int .i64 0), .lit (.int .i64 0), .lit (.int .i64 0), .lit (.int .i64 0), .lit (.int .i64 0), .lit (.int .i64 0), .lit (.int .i64 0), .lit (.int .i64 0), .lit (.int .i64 0), .lit (.int .i64 0), .lit (.int .i64 0)]) rfl rfl rfl (pa2 (ov_ev hS rfl) (pa2 (ov_ev hS rfl) (pa2 (ov_ev hS rfl) pan))) (es := [.lit (.int .i64 r35.number), .lit (.int .i64 r35.free.x0), .lit (.int .i64 r35.free.x1), .lit (.int .i64 r35.free.x2), .lit (.int .i64 r35.ends.x0), .lit (.int .i64 r35.ends.x1), .lit (.int .i64 r35.ends.x2), .lit (.int .i64 r35.ends.x3), .lit (.int .i64 r35.ends.x4), .lit (.int .i64 r35.ends.x5), .lit (.int .i64 ((bOr x_1.done (w64 (1 * 2 ^ (min t53_0_7.toNat 64)))))), .lit (.int .i64 ((w64 (x_1.moves - r51))))]) rfl)),
      fun X48 S hw hi hS => x_make (X := X48) (p := 6) (v := fun x => .bp x.b 0 0) (mo := fun x => .box x.b 0 (encPlayState (PlayState.mk (PlayDay.mk 0 (A3.mk 0 0 0) (A6.mk 0 0 0 0 0 0)) 0 0))) hS hi rfl rfl (fun _ => rfl) hw (fun _ => rfl) (fun _ => rfl) (fun _ => rfl) (fun _ => ⟨rfl, rfl, .inr rfl, ⟨rfl, rfl, .inr rfl, ⟨rfl, rfl, .inr rfl, ⟨rfl, rfl, .inr rfl, ⟨rfl, rfl, .inr rfl, ⟨rfl, rfl, .inr rfl, ⟨rfl, rfl, .inr rfl, ⟨rfl, rfl, .inr rfl, ⟨rfl, rfl, .inr rfl, ⟨rfl, rfl, .inr rfl, ⟨rfl, rfl, .inr rfl, ⟨rfl, rfl, .inr rfl, ⟨rfl, rfl, .inr rfl, ⟨rfl, rfl, .inl rfl, trivial⟩⟩⟩⟩⟩⟩⟩⟩⟩⟩⟩⟩⟩⟩) (fun _ => ⟨trivial, rfl, ⟨trivial, rfl, ⟨trivial, rfl, ⟨trivial, rfl, ⟨trivial, rfl, ⟨trivial, rfl, ⟨⟨rfl, .inl rfl, trivial⟩, rfl, trivial⟩⟩⟩⟩⟩⟩⟩) (step_post (s_alloc (zs := [.lit (.int .i64 0), .lit (.int .i64 0), .lit (.int .i64 0), .lit (.int .i64 0), .lit (.int .i64 0), .lit (.int .i64 0), .lit (.int .i64 0), .lit (.int .i64 0), .lit (.int .i64 0), .lit (.int .i64 0), .lit (.int .i64 0), .lit (.int .i64 0)]) (lt_of rfl) Try.zeroValue161 rfl rfl) (by rintro _ ⟨w, rfl⟩; exact ⟨⟨w, undef⟩, ent_pick [0, 1, 2, 3, 4, 5, 7] rfl rfl (le_refl _)⟩)), trivial⟩⟩
                 · exact fun X48 => ent_le (le_upd rfl (le_upd rfl (le_keep ⟨rfl, rfl, rfl, rfl, rfl, rfl, rfl, rfl, rfl, rfl, rfl, rfl, rfl, rfl, trivial⟩)))
                ·intro X48
                 refine tr1 rfl (s_store_bp (i := 6) rfl rfl rfl rfl rfl Try.sizeOf161 rfl (lt_of rfl) (Nat.le_of_ble_eq_true rfl) (ds' := (encPlayState (PlayState.mk r35 (bOr x_1.done (w64 (1 * 2 ^ (min t53_0_7.toNat 64)))) (w64 (x_1.moves - r51))))) rfl) ?_
                 refine tr_nil ?_
                 refine tr_seq ?_
                 refine tr_seq ?_
                 obtain ⟨r54, h55, h⟩ := bind_some h
                 refine tr_drawxk mix 14 [0, 3, 6, 7, 10, 11, 13, 14, 15, 51, 52, 53, 110, 111, 112] (fun X53 => [(146, .d (.lit (.int .i64 r54.2.1)))]) (fun X53 => [.map s_0_seen_r (s_6_39_4.map fun p => ((fun a : PlayState => Value.agg ((encPlayState a).map zcell).toArray) p.1, (fun v : Int => AV.d (.lit (.int .i64 v))) p.2)) bs40 ck41, .box b1 0 (encPlayState x_1), .box b14 0 (encApiJob x12), .box b33 0 (encPlayDay r35), .box b46 0 (encApiSpan x44), .box b47 0 (encApiSeat (ApiSeat.mk t53_0_7 n_4_26 t112_6_39)), .box (X48 13).b 0 (encPlayState (PlayState.mk r54.2.2 (bOr x_1.done (w64 (1 * 2 ^ (min t53_0_7.toNat 64)))) (w64 (x_1.moves - r51))))]) ?_ ?_
                 ·refine ⟨0, fun X53 => [(135, 0, .bp (X48 13).b 0 0), (136, 1, .cp [.sl 1 (s_0.Program.Days.map encSl_ApiSpan), .lit (.int .i64 s_0.Program.Rest), .sl 6 (s_0.Program.Jobs.map encApiJob), .lit (.int .i64 s_0.days), encO 3 encApiSeat s_0.old, .lit (.map (some s_0_seen_r))]), (137, 2, .cp [.sl 1 (s_0.Program.Days.map encSl_ApiSpan), .lit (.int .i64 s_0.Program.Rest), .sl 6 (s_0.Program.Jobs.map encApiJob), .lit (.int .i64 s_0.days), encO 3 encApiSeat s_0.old, .lit (.map (some s_0_seen_r))]), (138, 3, .cp [.sl 1 (s_0.Program.Days.map encSl_ApiSpan), .lit (.int .i64 s_0.Program.Rest), .sl 6 (s_0.Program.Jobs.map encApiJob)]), (139, 4, .agg (encApiProgram s_0.Program)), (140, 5, .agg (encApiSeat (ApiSeat.mk t53_0_7 n_4_26 t112_6_39))), (141, 6, .bp b14 0 0), (142, 7, .bp b14 0 1), (143, 8, .d (.lit (.int .i64 x12.Length.High))), (144, 9, .tup [.d (.lit (.int .i64 r54.1)), .d (.lit (.int .i64 r54.2.1))]), (134, 10, .tup [.d (.lit (.int .i64 r54.1)), .d (.lit (.int .i64 r54.2.1))]), (145, 11, .d (.lit (.int .i64 r54.1))), (146, 12, .d (.lit (.int .i64 r54.2.1))), (16, 13, .d (.lit (.int .i64 r54.1)))], fun X53 => [([], .map s_0_seen_r (s_6_39_4.map fun p => ((fun a : PlayState => Value.agg ((encPlayState a).map zcell).toArray) p.1, (fun v : Int => AV.d (.lit (.int .i64 v))) p.2)) bs40 ck41), ([], .box b1 0 (encPlayState x_1)), ([], .box b14 0 (encApiJob x12)), ([], .box b33 0 (encPlayDay r35)), ([], .box b46 0 (encApiSpan x44)), ([], .box b47 0 (encApiSeat (ApiSeat.mk t53_0_7 n_4_26 t112_6_39))), ([(9, .box (X48 13).b 0 (encPlayState (PlayState.mk r54.2.2 (bOr x_1.done (w64 (1 * 2 ^ (min t53_0_7.toNat 64)))) (w64 (x_1.moves - r51)))))], .box (X48 13).b 0 (encPlayState (PlayState.mk r35 (bOr x_1.done (w64 (1 * 2 ^ (min t53_0_7.toNat 64)))) (w64 (x_1.moves - r51)))))], ?_, ?_⟩
                  · exact ⟨by kernel_rfl, by kernel_rfl, by kernel_rfl, fun _ => by kernel_rfl, fun _ => by kernel_rfl, fun _ => by kernel_rfl, fun _ => rfl, [([], [9]), ([], [9]), ([1], [9]), ([2], [9]), ([3], [9]), ([], [9]), ([], [9]), ([6], [9]), ([7], [9]), ([0, 4, 5, 8], []), ([9], []), ([9, 10], []), ([9, 10], []), ([9, 11], [])], by kernel_rfl, ⟨fun X53 S hw hi hS => x_pure (X := X53) rfl (hw X53) rfl (g_op rfl (s_field_bp (lt_of rfl) (ov_ev hS rfl) fld_161_0)),
      fun X53 S hw hi hS => x_pure (X := X53) rfl (hw X53) rfl (g_op rfl (s_move (v := .cp [.sl 1 (s_0.Program.Days.map encSl_ApiSpan), .lit (.int .i64 s_0.Program.Rest), .sl 6 (s_0.Program.Jobs.map encApiJob), .lit (.int .i64 s_0.days), encO 3 encApiSeat s_0.old, .lit (.map (some s_0_seen_r))]) (lt_of rfl) (ov_ev hS rfl) rfl)),
      fun X53 S hw hi hS => x_pure (X := X53) rfl (hw X53) rfl (g_op rfl (s_nilck_cp (lt_of rfl) (ov_ev hS rfl))),
      fun X53 S hw hi hS => x_pure (X := X53) rfl (hw X53) rfl (g_op rfl (s_field_cp (lt_of rfl) (ov_ev hS rfl) fld_158_0 (es := [.sl 1 (s_0.Program.Days.map encSl_ApiSpan), .lit (.int .i64 s_0.Program.Rest), .sl 6 (s_0.Program.Jobs.map encApiJob)]) rfl)),
      fun X53 S hw hi hS => x_pure (X := X53) rfl (hw X53) rfl (g_op rfl (s_loada_cp (lt_of rfl) (ov_ev hS rfl) agg_25 (es := (encApiProgram s_0.Program)) rfl rfl)),
      fun X53 S hw hi hS => x_pure (X := X53) rfl (hw X53) rfl (g_op rfl (s_loada_bp (lt_of rfl) (ov_ev hS rfl) (i := 5) (og hS rfl rfl) agg_45 (es := (encApiSeat (ApiSeat.mk t53_0_7 n_4_26 t112_6_39))) rfl rfl)),
      fun X53 S hw hi hS => x_pure (X := X53) rfl (hw X53) rfl (g_op rfl (s_field_bp (lt_of rfl) (ov_ev hS rfl) fld_36_0)),
      fun X53 S hw hi hS => x_pure (X := X53) rfl (hw X53) rfl (g_op rfl (s_field_bp (lt_of rfl) (ov_ev hS rfl) fld_34_1)),
      fun X53 S hw hi hS => x_pure (X := X53) rfl (hw X53) rfl (g_op rfl (s_load_bp (lt_of rfl) (ov_ev hS rfl) (i := 2) (og hS rfl rfl) rfl one_3)),
      fun X53 S hw hi hS => x_call (X := X53) (p := 6) hS rfl rfl rfl (hw X53) rfl rfl rfl (step_post (step_ent ((ent_at 6 (x := .box (X48 13).b 0 (encPlayState (PlayState.mk r35 (bOr x_1.done (w64 (1 * 2 ^ (min t53_0_7.toNat 64)))) (w64 (x_1.moves - r51))))) (og hS rfl rfl)).trans (ent_pick [6, 0, 1, 2, 3, 4, 5] rfl rfl (le_refl _))) (s_callm (passed := [.box (X48 13).b 0 ((encPlayDay r35) ++ [.lit (.int .i64 ((bOr x_1.done (w64 (1 * 2 ^ (min t53_0_7.toNat 64)))))), .lit (.int .i64 ((w64 (x_1.moves - r51))))])]) (lt_of rfl) rfl (.func _ _ Try.call87) (ev2 (ov_ev hS rfl) (ev2 (ov_ev hS rfl) (ev2 (ov_ev hS rfl) (ev2 (ov_ev hS rfl) evn)))) rfl (play_day_play_c r35 s_0.Program (ApiSeat.mk t53_0_7 n_4_26 t112_6_39) x12.Length.High (d_0_post := [.lit (.int .i64 ((bOr x_1.done (w64 (1 * 2 ^ (min t53_0_7.toNat 64)))))), .lit (.int .i64 ((w64 (x_1.moves - r51))))]) h55))) (by rintro _ ⟨_, _, ⟨rfl, rfl⟩, rfl⟩; exact ent_pick [1, 2, 3, 4, 5, 6, 0] rfl rfl (le_refl _))),
      fun X53 S hw hi hS => x_pure (X := X53) rfl (hw X53) rfl (g_op rfl (s_move (v := .tup [.d (.lit (.int .i64 r54.1)), .d (.lit (.int .i64 r54.2.1))]) (lt_of rfl) (ov_ev hS rfl) rfl)),
      fun X53 S hw hi hS => x_pure (X := X53) rfl (hw X53) rfl (g_op rfl (s_extract (lt_of rfl) (ov_ev hS rfl) rfl)),
      fun X53 S hw hi hS => x_pure (X := X53) rfl (hw X53) rfl (g_op rfl (s_extract (lt_of rfl) (ov_ev hS rfl) rfl)),
      fun X53 S hw hi hS => x_pure (X := X53) rfl (hw X53) rfl (g_op rfl (s_assign (v := .d (.lit (.int .i64 r54.1))) (lt_of rfl) (ov_ev hS rfl) rfl)), trivial⟩⟩
                  · exact fun X53 => ent_le (le_upd rfl (le_keep ⟨rfl, rfl, rfl, rfl, rfl, rfl, rfl, rfl, rfl, rfl, rfl, rfl, rfl, rfl, rfl, trivial⟩))
                 ·intro X53
                  refine tr1 rfl (s_assign (v := .d (.lit (.int .i64 r54.2.1))) (lt_of rfl) rfl rfl) ?_
                  refine tr_nil ?_
                  refine tr_seq ?_
                  refine tr_region ?_
                  refine tr1 rfl (s_move (v := .d (.lit (.int .i64 r54.2.1))) (lt_of rfl) rfl rfl) ?_
                  refine tr1 rfl (s_field_bp (lt_of rfl) rfl fld_34_1) ?_
                  refine tr1 rfl (s_load_bp (lt_of rfl) rfl (i := 4) rfl rfl one_3) ?_
                  refine tr1 rfl (s_cmp (lt_of rfl) rfl rfl rfl) ?_
                  refine tr1 rfl (s_move (v := .d (.lit (.bool ((decide (x44.High < r54.2.1)))))) (lt_of rfl) rfl rfl) ?_
                  obtain ⟨b56, h57, h⟩ := bind_some h
                  refine tr_guard 4 [0, 3, 6, 7, 10, 11, 14, 15, 51, 52, 53, 110, 111, 112] 155 b56 ?_ ?_
                  ·refine bool_cases (decide (x44.High < r54.2.1)) (fun c66 => ?_) (fun c66 => ?_)
                   ·have h57 := cond_tt c66 h57
                    refine tr_pass rfl rfl (lt_of rfl) rfl (lt_of rfl) rfl c66 ?_
                    refine tr_pass rfl rfl (lt_of rfl) rfl (lt_of rfl) rfl c66 ?_
                    refine tr_pass rfl rfl (lt_of rfl) rfl (lt_of rfl) rfl c66 ?_
                    refine tr1 rfl (s_pick_t (v := .d (.lit (.bool true))) (lt_of rfl) rfl c66 rfl rfl) ?_
                    have h57 := Option.some.inj h57
                    subst h57
                    refine tr_nil (ent_keep rfl ⟨rfl, rfl, rfl, rfl, rfl, rfl, rfl, rfl, rfl, rfl, rfl, rfl, rfl, rfl, trivial⟩ rfl)
                   ·have h57 := cond_ff c66 h57
                    refine tr_take1 rfl rfl (lt_of rfl) rfl c66 (s_field_bp (lt_of rfl) rfl fld_161_2) ?_
                    refine tr_take1 rfl rfl (lt_of rfl) rfl c66 (s_load_bp (lt_of rfl) rfl (i := 6) rfl rfl one_3) ?_
                    refine tr_take1 rfl rfl (lt_of rfl) rfl c66 (s_cmp (lt_of rfl) rfl rfl rfl) ?_
                    refine tr1 rfl (s_pick_f (v := .d (.lit (.bool ((decide ((w64 (x_1.moves - r51)) < 0)))))) (lt_of rfl) rfl c66 rfl rfl) ?_
                    have h57 := Option.some.inj h57
                    subst h57
                    refine tr_nil (ent_keep rfl ⟨rfl, rfl, rfl, rfl, rfl, rfl, rfl, rfl, rfl, rfl, rfl, rfl, rfl, rfl, trivial⟩ rfl)
                  ·refine tr_nil ?_
                   refine tr_if rfl (fun c58 => ?_) (fun c58 => ?_)
                   ·have h := cond_tt c58 h
                    refine tr_exit ?_
                    refine .inl ⟨rfl, ?_⟩
                    refine tr_region ?_
                    refine tr1 rfl (s_arith (lt_of rfl) rfl rfl rfl) ?_
                    refine tr1 rfl (s_move (v := .d (.lit (.int .i64 ((w64 (t112_6_39 + 1)))))) (lt_of rfl) rfl rfl) ?_
                    refine tr_nil ?_
                    exact ⟨(w64 (t112_6_39 + 1), s_6_39_4, bs40, ck41), h, ent_pick [0, 1, 2, 3] rfl rfl (le_upd rfl (le_keep ⟨rfl, rfl, rfl, rfl, rfl, rfl, rfl, rfl, rfl, rfl, rfl, trivial⟩))⟩
                   ·have h := cond_ff c58 h
                    refine tr_skip ?_
                    refine tr_seq ?_
                    refine tr_region ?_
                    refine tr1 rfl (s_move (v := .cp [.sl 1 (s_0.Program.Days.map encSl_ApiSpan), .lit (.int .i64 s_0.Program.Rest), .sl 6 (s_0.Program.Jobs.map encApiJob), .lit (.int .i64 s_0.days), encO 3 encApiSeat s_0.old, .lit (.map (some s_0_seen_r))]) (lt_of rfl) rfl rfl) ?_
                    refine tr1 rfl (s_loada_bp (lt_of rfl) rfl (i := 6) rfl agg_161 (es := (encPlayState (PlayState.mk r54.2.2 (bOr x_1.done (w64 (1 * 2 ^ (min t53_0_7.toNat 64)))) (w64 (x_1.moves - r51))))) rfl rfl) ?_
                    obtain ⟨r59, h60, h⟩ := bind_some h
                    refine tr_op rfl (s_callm (passed := [.map s_0_seen_r (s_6_39_4.map fun p => ((fun a : PlayState => Value.agg ((encPlayState a).map zcell).toArray) p.1, (fun v : Int => AV.d (.lit (.int .i64 v))) p.2)) bs40 ck41]) (lt_of rfl) rfl (.func _ _ Try.call110) rfl rfl (ih s_0 s_6_39_4 (PlayState.mk r54.2.2 (bOr x_1.done (w64 (1 * 2 ^ (min t53_0_7.toNat 64)))) (w64 (x_1.moves - r51))) h60)) ?_
                    rintro _ ⟨_, _, ⟨bs61, ck62, rfl, rfl⟩, rfl⟩
                    refine tr1 rfl (s_move (v := .tup [.d (.sl 3 (r59.1.map encApiSeat)), .d (.lit (.bool r59.2.1))]) (lt_of rfl) rfl rfl) ?_
                    refine tr1 rfl (s_extract (lt_of rfl) rfl rfl) ?_
                    refine tr1 rfl (s_extract (lt_of rfl) rfl rfl) ?_
                    refine tr1 rfl (s_assign (v := .d (.sl 3 (r59.1.map encApiSeat))) (lt_of rfl) rfl rfl) ?_
                    refine tr1 rfl (s_assign (v := .d (.lit (.bool r59.2.1))) (lt_of rfl) rfl rfl) ?_
                    refine tr_nil ?_
                    refine tr_seq ?_
                    refine tr_region ?_
                    refine tr1 rfl (s_move (v := .d (.lit (.bool r59.2.1))) (lt_of rfl) rfl rfl) ?_
                    refine tr_nil ?_
                    refine tr_if rfl (fun c63 => ?_) (fun c63 => ?_)
                    ·have h := cond_tt c63 h
                     refine tr_seq ?_
                     refine tr_region ?_
                     refine tr1 rfl (s_loada_bp (lt_of rfl) rfl (i := 5) rfl agg_45 (es := (encApiSeat (ApiSeat.mk t53_0_7 n_4_26 t112_6_39))) rfl rfl) ?_
                     refine tr1 rfl (s_lit_fl (lt_of rfl) sl_26 rfl rfl (rows := ([(ApiSeat.mk t53_0_7 n_4_26 t112_6_39)]).map encApiSeat) rfl (map_len (f := encApiSeat) fun _ => rfl) rfl (by decide)) ?_
                     refine tr1 rfl (s_move (v := .d (.sl 3 (r59.1.map encApiSeat))) (lt_of rfl) rfl rfl) ?_
                     obtain ⟨x64, h65, h⟩ := bind_some h
                     refine tr1 rfl (s_weak (.d (.weak _ _)) (s_appendf (nn := true) (f := encApiSeat) (xs := [(ApiSeat.mk t53_0_7 n_4_26 t112_6_39)]) (ys := r59.1) (lt_of rfl) sl_26 rfl rfl (fun _ => rfl) h65 rfl)) ?_
                     refine tr1 rfl (s_assign (v := .d (.sl 3 (x64.map encApiSeat))) (lt_of rfl) rfl rfl) ?_
                     refine tr1 rfl (s_assign (v := .d (.lit (.bool true))) (lt_of rfl) rfl rfl) ?_
                     refine tr_nil ?_
                     have h := Option.some.inj h
                     subst h
                     refine tr_ent (ent_pick [0] rfl rfl (le_keep (l := [4, 5]) ⟨rfl, rfl, trivial⟩)) ?_
                     exact tr_ret ⟨rfl, _, .two _ _, _, _, rfl, rfl⟩
                    ·have h := cond_ff c63 h
                     refine tr_skipb ?_
                     refine tr_region ?_
                     refine tr1 rfl (s_arith (lt_of rfl) rfl rfl rfl) ?_
                     refine tr1 rfl (s_move (v := .d (.lit (.int .i64 ((w64 (t112_6_39 + 1)))))) (lt_of rfl) rfl rfl) ?_
                     refine tr_nil ?_
                     exact ⟨(w64 (t112_6_39 + 1), r59.2.2, bs61, ck62), h, ent_pick [0, 1, 2, 3] rfl rfl (le_upd rfl (le_keep ⟨rfl, rfl, rfl, rfl, rfl, rfl, rfl, rfl, rfl, rfl, rfl, trivial⟩))⟩
               ·have h := cond_ff c43 h
                refine tr_exit ?_
                refine .inl ⟨rfl, ?_⟩
                simp only [play_search_from_K6] at h
                simp only [play_search_from_K5] at h
                refine tr_region ?_
                refine tr1 rfl (s_move (v := .d (.lit (.int .i64 n_4_26))) (lt_of rfl) rfl rfl) ?_
                refine tr1 rfl (s_arith (lt_of rfl) rfl rfl rfl) ?_
                refine tr1 rfl (s_assign (v := .d (.lit (.int .i64 ((w64 (n_4_26 + 1)))))) (lt_of rfl) rfl rfl) ?_
                refine tr_nil ?_
                exact ⟨(w64 (n_4_26 + 1), s_6_39_4, bs40, ck41), h, ent_pick [0, 1, 2] rfl rfl (le_upd rfl (le_keep ⟨rfl, rfl, rfl, rfl, rfl, rfl, rfl, trivial⟩))⟩
              ·have h := cond_ff c34 h
               refine tr_skip ?_
               refine tr_seq ?_
               refine tr_region ?_
               refine tr1 rfl (s_move (v := .cp [.sl 1 (s_0.Program.Days.map encSl_ApiSpan), .lit (.int .i64 s_0.Program.Rest), .sl 6 (s_0.Program.Jobs.map encApiJob), .lit (.int .i64 s_0.days), encO 3 encApiSeat s_0.old, .lit (.map (some s_0_seen_r))]) (lt_of rfl) rfl rfl) ?_
               refine tr1 rfl (s_nilck_cp (lt_of rfl) rfl) ?_
               refine tr1 rfl (s_field_cp (lt_of rfl) rfl fld_158_0 (es := [.sl 1 (s_0.Program.Days.map encSl_ApiSpan), .lit (.int .i64 s_0.Program.Rest), .sl 6 (s_0.Program.Jobs.map encApiJob)]) rfl) ?_
               refine tr1 rfl (s_field_cp (lt_of rfl) rfl fld_25_0 (es := [.sl 1 (s_0.Program.Days.map encSl_ApiSpan)]) rfl) ?_
               refine tr1 rfl (s_load_cp (lt_of rfl) rfl one_22) ?_
               refine tr1 rfl (s_move (v := .d (.lit (.int .i64 n_4_26))) (lt_of rfl) rfl rfl) ?_
               obtain ⟨x67, h68, h⟩ := bind_some h
               refine tr1 rfl (s_index_sl (lt_of rfl) rfl rfl sl_22.of (idx_map encSl_ApiSpan h68)) ?_
               refine tr1 rfl (s_load_cp (lt_of rfl) rfl one_37) ?_
               refine tr1 rfl (s_lenm (lt_of rfl) rfl sl_37.of) ?_
               refine tr1 rfl (s_move (v := .d (.lit (.int .i64 0))) (lt_of rfl) rfl rfl) ?_
               refine tr_nil ?_
               refine tr_blkb ?_
               refine tr_loopk [0, 3, 6, 7, 10, 11, 51, 52, 53, 110, 111] (fun (s69 : Int × (List (PlayState × Int)) × (List Nat) × Nat) => [(112, .d (.lit (.int .i64 s69.1)))]) (fun (s69 : Int × (List (PlayState × Int)) × (List Nat) × Nat) => [.map s_0_seen_r (s69.2.1.map fun p => ((fun a : PlayState => Value.agg ((encPlayState a).map zcell).toArray) p.1, (fun v : Int => AV.d (.lit (.int .i64 v))) p.2)) s69.2.2.1 s69.2.2.2, .box b1 0 (encPlayState x_1), .box b14 0 (encApiJob x12), .box b33 0 (encPlayDay x_1.day)]) (fun (k : Nat) (s69 : Int × (List (PlayState × Int)) × (List Nat) × Nat) => play_search_from_L6 (play_search_from_r kr) (play_search_from_L0 (play_search_from_r kr) s_0.Program s_0.days s_0.old s_0.Program.Jobs (s_0.Program.Jobs.length : Int) x_1 k10) (play_search_from_L4 (play_search_from_r kr) (play_search_from_L0 (play_search_from_r kr) s_0.Program s_0.days s_0.old s_0.Program.Jobs (s_0.Program.Jobs.length : Int) x_1 k10) s_0.Program s_0.days s_0.old t53_0_7 s_0.Program.Jobs (s_0.Program.Jobs.length : Int) t53_0_7 x_1 x12 k29) s_0.Program s_0.days s_0.old t53_0_7 n_4_26 s_0.Program.Jobs (s_0.Program.Jobs.length : Int) t53_0_7 x67 (x67.length : Int) x_1 x12 x_1.day k s69.1 s69.2.1) (fun _ => rfl) (0, s_4_26_4, bs27, ck28) h (ent_pick [0, 1, 2, 3] rfl rfl (le_upd rfl (le_keep ⟨rfl, rfl, rfl, rfl, rfl, rfl, rfl, rfl, rfl, rfl, rfl, trivial⟩))) ?_
               rintro k72 ⟨t112_6_69, s_6_69_4, bs70, ck71⟩ h
               simp only [play_search_from_L6] at h
               refine tr_seq ?_
               refine tr_region ?_
               refine tr1 rfl (s_cmp (lt_of rfl) rfl rfl rfl) ?_
               refine tr_nil ?_
               refine tr_seq ?_
               refine tr_if rfl (fun c73 => ?_) (fun c73 => ?_)
               ·have h := cond_tt c73 h
                refine tr_skip ?_
                refine tr_seq ?_
                refine tr_blk ?_
                refine tr_seq ?_
                refine tr_region ?_
                refine tr1 rfl (s_move (v := .d (.lit (.int .i64 t112_6_69))) (lt_of rfl) rfl rfl) ?_
                obtain ⟨x74, h75, h⟩ := bind_some h
                refine tr1 rfl (s_index_sl (lt_of rfl) rfl rfl sl_37.of (idx_map encApiSpan h75)) ?_
                refine tr1 rfl (s_loada_cp (lt_of rfl) rfl agg_34 (es := (encApiSpan x74)) rfl rfl) ?_
                refine tr_op rfl (s_alloc (zs := [.lit (.int .i64 0), .lit (.int .i64 0)]) (lt_of rfl) Try.zeroValue34 rfl rfl) ?_
                rintro _ ⟨b76, rfl⟩
                refine tr1 rfl (s_assign (v := .d (.lit (.int .i64 t112_6_69))) (lt_of rfl) rfl rfl) ?_
                refine tr1 rfl (s_store_bp (i := 4) rfl rfl rfl rfl rfl Try.sizeOf34 rfl (lt_of rfl) (Nat.le_of_ble_eq_true rfl) (ds' := (encApiSpan x74)) rfl) ?_
                refine tr_nil ?_
                refine tr_seq ?_
                refine tr_region ?_
                refine tr1 rfl (s_move (v := .d (.lit (.int .i64 t53_0_7))) (lt_of rfl) rfl rfl) ?_
                refine tr1 rfl (s_move (v := .d (.lit (.int .i64 n_4_26))) (lt_of rfl) rfl rfl) ?_
                refine tr1 rfl (s_move (v := .d (.lit (.int .i64 t112_6_69))) (lt_of rfl) rfl rfl) ?_
                refine tr1 rfl (s_build (lt_of rfl) stu_45 (zs := [.lit (.int .i64 0), .lit (.int .i64 0), .lit (.int .i64 0)]) rfl rfl rfl rfl (es := [.lit (.int .i64 t53_0_7), .lit (.int .i64 n_4_26), .lit (.int .i64 t112_6_69)]) rfl) ?_
                refine tr_op rfl (s_alloc (zs := [.lit (.int .i64 0), .lit (.int .i64 0), .lit (.int .i64 0)]) (lt_of rfl) Try.zeroValue45 rfl rfl) ?_
                rintro _ ⟨b77, rfl⟩
                refine tr1 rfl (s_store_bp (i := 5) rfl rfl rfl rfl rfl Try.sizeOf45 rfl (lt_of rfl) (Nat.le_of_ble_eq_true rfl) (ds' := (encApiSeat (ApiSeat.mk t53_0_7 n_4_26 t112_6_69))) rfl) ?_
                refine tr_nil ?_
                refine tr_seq ?_
                obtain ⟨u79, h80, h⟩ := bind_some h
                obtain ⟨r81, h82, h⟩ := bind_some h
                refine tr_drawxk mix 14 [0, 3, 6, 7, 10, 11, 13, 14, 51, 52, 53, 110, 111, 112] (fun X78 => [(15, .bp (X78 13).b 0 0), (133, .agg (encPlayState (PlayState.mk x_1.day (bOr x_1.done (w64 (1 * 2 ^ (min t53_0_7.toNat 64)))) (w64 (x_1.moves - r81)))))]) (fun X78 => [.map s_0_seen_r (s_6_69_4.map fun p => ((fun a : PlayState => Value.agg ((encPlayState a).map zcell).toArray) p.1, (fun v : Int => AV.d (.lit (.int .i64 v))) p.2)) bs70 ck71, .box b1 0 (encPlayState x_1), .box b14 0 (encApiJob x12), .box b33 0 (encPlayDay x_1.day), .box b76 0 (encApiSpan x74), .box b77 0 (encApiSeat (ApiSeat.mk t53_0_7 n_4_26 t112_6_69)), .box (X78 13).b 0 (encPlayState (PlayState.mk (PlayDay.mk 0 (A3.mk 0 0 0) (A6.mk 0 0 0 0 0 0)) 0 0))]) ?_ ?_
                ·refine ⟨1, fun X78 => [(121, 0, .agg (encPlayDay x_1.day)), (122, 1, .bp b1 0 10), (123, 2, .d (.lit (.int .i64 x_1.done))), (124, 3, .d (.lit (.int .i64 t53_0_7))), (125, 4, .d (.lit (.int .i64 ((w64 (1 * 2 ^ (min t53_0_7.toNat 64))))))), (126, 5, .d (.lit (.int .i64 ((bOr x_1.done (w64 (1 * 2 ^ (min t53_0_7.toNat 64)))))))), (127, 6, .bp b1 0 11), (128, 7, .d (.lit (.int .i64 x_1.moves))), (129, 8, .cp [.sl 1 (s_0.Program.Days.map encSl_ApiSpan), .lit (.int .i64 s_0.Program.Rest), .sl 6 (s_0.Program.Jobs.map encApiJob), .lit (.int .i64 s_0.days), encO 3 encApiSeat s_0.old, .lit (.map (some s_0_seen_r))]), (130, 9, .agg (encApiSeat (ApiSeat.mk t53_0_7 n_4_26 t112_6_69))), (131, 10, .d (.lit (.int .i64 r81))), (132, 11, .d (.lit (.int .i64 ((w64 (x_1.moves - r81)))))), (133, 12, .agg (encPlayState (PlayState.mk x_1.day (bOr x_1.done (w64 (1 * 2 ^ (min t53_0_7.toNat 64)))) (w64 (x_1.moves - r81))))), (15, 13, .bp (X78 13).b 0 0)], fun X78 => [([], .map s_0_seen_r (s_6_69_4.map fun p => ((fun a : PlayState => Value.agg ((encPlayState a).map zcell).toArray) p.1, (fun v : Int => AV.d (.lit (.int .i64 v))) p.2)) bs70 ck71), ([], .box b1 0 (encPlayState x_1)), ([], .box b14 0 (encApiJob x12)), ([], .box b33 0 (encPlayDay x_1.day)), ([], .box b76 0 (encApiSpan x74)), ([], .box b77 0 (encApiSeat (ApiSeat.mk t53_0_7 n_4_26 t112_6_69))), ([(13, .box (X78 13).b 0 (encPlayState (PlayState.mk (PlayDay.mk 0 (A3.mk 0 0 0) (A6.mk 0 0 0 0 0 0)) 0 0)))], nob)], ?_, ?_⟩
                 · exact ⟨by kernel_rfl, by kernel_rfl, by kernel_rfl, fun _ => by kernel_rfl, fun _ => by kernel_rfl, fun _ => by kernel_rfl, fun _ => rfl, [([], []), ([], []), ([1], []), ([], []), ([3], []), ([2, 4], []), ([], []), ([6], []), ([], []), ([], []), ([8, 9], []), ([7, 10], []), ([0, 5, 11], []), ([], [])], by kernel_rfl, ⟨fun X78 S hw hi hS => x_pure (X := X78) rfl (hw X78) rfl (g_op rfl (s_loada_bp (lt_of rfl) (ov_ev hS rfl) (i := 3) (og hS rfl rfl) agg_124 (es := (encPlayDay x_1.day)) rfl rfl)),
      fun X78 S hw hi hS => x_pure (X := X78) rfl (hw X78) rfl (g_op rfl (s_field_bp (lt_of rfl) (ov_ev hS rfl) fld_161_1)),
      fun X78 S hw hi hS => x_pure (X := X78) rfl (hw X78) rfl (g_op rfl (s_load_bp (lt_of rfl) (ov_ev hS rfl) (i := 1) (og hS rfl rfl) rfl one_3)),
      fun X78 S hw hi hS => x_pure (X := X78) rfl (hw X78) rfl (g_op rfl (s_move (v := .d (.lit (.int .i64 t53_0_7))) (lt_of rfl) (ov_ev hS rfl) rfl)),
      fun X78 S hw hi hS => x_pure (X := X78) rfl (hw X78) rfl (g_op rfl (s_shl (lt_of rfl) rfl (ov_ev hS rfl) (ge_of h80))),
      fun X78 S hw hi hS => x_pure (X := X78) rfl (hw X78) rfl (g_op rfl (s_bits (lt_of rfl) (ov_ev hS rfl) (ov_ev hS rfl) (.inr (.inl ⟨rfl, rfl⟩)))),
      fun X78 S hw hi hS => x_pure (X := X78) rfl (hw X78) rfl (g_op rfl (s_field_bp (lt_of rfl) (ov_ev hS rfl) fld_161_2)),
      fun X78 S hw hi hS => x_pure (X := X78) rfl (hw X78) rfl (g_op rfl (s_load_bp (lt_of rfl) (ov_ev hS rfl) (i := 1) (og hS rfl rfl) rfl one_3)),
      fun X78 S hw hi hS => x_pure (X := X78) rfl (hw X78) rfl (g_op rfl (s_move (v := .cp [.sl 1 (s_0.Program.Days.map encSl_ApiSpan), .lit (.int .i64 s_0.Program.Rest), .sl 6 (s_0.Program.Jobs.map encApiJob), .lit (.int .i64 s_0.days), encO 3 encApiSeat s_0.old, .lit (.map (some s_0_seen_r))]) (lt_of rfl) (ov_ev hS rfl) rfl)),
      fun X78 S hw hi hS => x_pure (X := X78) rfl (hw X78) rfl (g_op rfl (s_loada_bp (lt_of rfl) (ov_ev hS rfl) (i := 5) (og hS rfl rfl) agg_45 (es := (encApiSeat (ApiSeat.mk t53_0_7 n_4_26 t112_6_69))) rfl rfl)),
      fun X78 S hw hi hS => x_pure (X := X78) rfl (hw X78) rfl (g_op rfl (s_call (lt_of rfl) (.func _ _ Try.call128) (ev2 (ov_ev hS rfl) (ev2 (ov_ev hS rfl) evn)) rfl (BVs.refl _ _) (play_search_move_c _ _ h82) rfl)),
      fun X78 S hw hi hS => x_pure (X := X78) rfl (hw X78) rfl (g_op rfl (s_arith (lt_of rfl) (ov_ev hS rfl) (ov_ev hS rfl) rfl)),
      fun X78 S hw hi hS => x_pure (X := X78) rfl (hw X78) rfl (g_op rfl (s_build (lt_of rfl) stu_161 (zs := [.lit (.int .i64 0), .lit (.int .i64 0), .lit (.int .i64 0), .lit (.int .i64 0), .lit (.int .i64 0), .lit (.int .i64 0), .lit (.int .i64 0), .lit (.int .i64 0), .lit (.int .i64 0), .lit (.int .i64 0), .lit (.int .i64 0), .lit (.int .i64 0)]) rfl rfl rfl (pa2 (ov_ev hS rfl) (pa2 (ov_ev hS rfl) (pa2 (ov_ev hS rfl) pan))) (es := [.lit (.int .i64 x_1.day.number), .lit (.int .i64 x_1.day.free.x0), .lit (.int .i64 x_1.day.free.x1), .lit (.int .i64 x_1.day.free.x2), .lit (.int .i64 x_1.day.ends.x0), .lit (.int .i64 x_1.day.ends.x1), .lit (.int .i64 x_1.day.ends.x2), .lit (.int .i64 x_1.day.ends.x3), .lit (.int .i64 x_1.day.ends.x4), .lit (.int .i64 x_1.day.ends.x5), .lit (.int .i64 ((bOr x_1.done (w64 (1 * 2 ^ (min t53_0_7.toNat 64)))))), .lit (.int .i64 ((w64 (x_1.moves - r81))))]) rfl)),
      fun X78 S hw hi hS => x_make (X := X78) (p := 6) (v := fun x => .bp x.b 0 0) (mo := fun x => .box x.b 0 (encPlayState (PlayState.mk (PlayDay.mk 0 (A3.mk 0 0 0) (A6.mk 0 0 0 0 0 0)) 0 0))) hS hi rfl rfl (fun _ => rfl) hw (fun _ => rfl) (fun _ => rfl) (fun _ => rfl) (fun _ => ⟨rfl, rfl, .inr rfl, ⟨rfl, rfl, .inr rfl, ⟨rfl, rfl, .inr rfl, ⟨rfl, rfl, .inr rfl, ⟨rfl, rfl, .inr rfl, ⟨rfl, rfl, .inr rfl, ⟨rfl, rfl, .inr rfl, ⟨rfl, rfl, .inr rfl, ⟨rfl, rfl, .inr rfl, ⟨rfl, rfl, .inr rfl, ⟨rfl, rfl, .inr rfl, ⟨rfl, rfl, .inr rfl, ⟨rfl, rfl, .inr rfl, ⟨rfl, rfl, .inl rfl, trivial⟩⟩⟩⟩⟩⟩⟩⟩⟩⟩⟩⟩⟩⟩) (fun _ => ⟨trivial, rfl, ⟨trivial, rfl, ⟨trivial, rfl, ⟨trivial, rfl, ⟨trivial, rfl, ⟨trivial, rfl, ⟨⟨rfl, .inl rfl, trivial⟩, rfl, trivial⟩⟩⟩⟩⟩⟩⟩) (step_post (s_alloc (zs := [.lit (.int .i64 0), .lit (.int .i64 0), .lit (.int .i64 0), .lit (.int .i64 0), .lit (.int .i64 0), .lit (.int .i64 0), .lit (.int .i64 0), .lit (.int .i64 0), .lit (.int .i64 0), .lit (.int .i64 0), .lit (.int .i64 0), .lit (.int .i64 0)]) (lt_of rfl) Try.zeroValue161 rfl rfl) (by rintro _ ⟨w, rfl⟩; exact ⟨⟨w, undef⟩, ent_pick [0, 1, 2, 3, 4, 5, 7] rfl rfl (le_refl _)⟩)), trivial⟩⟩
                 · exact fun X78 => ent_le (le_upd rfl (le_upd rfl (le_keep ⟨rfl, rfl, rfl, rfl, rfl, rfl, rfl, rfl, rfl, rfl, rfl, rfl, rfl, rfl, trivial⟩)))
                ·intro X78
                 refine tr1 rfl (s_store_bp (i := 6) rfl rfl rfl rfl rfl Try.sizeOf161 rfl (lt_of rfl) (Nat.le_of_ble_eq_true rfl) (ds' := (encPlayState (PlayState.mk x_1.day (bOr x_1.done (w64 (1 * 2 ^ (min t53_0_7.toNat 64)))) (w64 (x_1.moves - r81))))) rfl) ?_
                 refine tr_nil ?_
                 refine tr_seq ?_
                 refine tr_seq ?_
                 obtain ⟨r84, h85, h⟩ := bind_some h
                 refine tr_drawxk mix 14 [0, 3, 6, 7, 10, 11, 13, 14, 15, 51, 52, 53, 110, 111, 112] (fun X83 => [(146, .d (.lit (.int .i64 r84.2.1)))]) (fun X83 => [.map s_0_seen_r (s_6_69_4.map fun p => ((fun a : PlayState => Value.agg ((encPlayState a).map zcell).toArray) p.1, (fun v : Int => AV.d (.lit (.int .i64 v))) p.2)) bs70 ck71, .box b1 0 (encPlayState x_1), .box b14 0 (encApiJob x12), .box b33 0 (encPlayDay x_1.day), .box b76 0 (encApiSpan x74), .box b77 0 (encApiSeat (ApiSeat.mk t53_0_7 n_4_26 t112_6_69)), .box (X78 13).b 0 (encPlayState (PlayState.mk r84.2.2 (bOr x_1.done (w64 (1 * 2 ^ (min t53_0_7.toNat 64)))) (w64 (x_1.moves - r81))))]) ?_ ?_
                 ·refine ⟨0, fun X83 => [(135, 0, .bp (X78 13).b 0 0), (136, 1, .cp [.sl 1 (s_0.Program.Days.map encSl_ApiSpan), .lit (.int .i64 s_0.Program.Rest), .sl 6 (s_0.Program.Jobs.map encApiJob), .lit (.int .i64 s_0.days), encO 3 encApiSeat s_0.old, .lit (.map (some s_0_seen_r))]), (137, 2, .cp [.sl 1 (s_0.Program.Days.map encSl_ApiSpan), .lit (.int .i64 s_0.Program.Rest), .sl 6 (s_0.Program.Jobs.map encApiJob), .lit (.int .i64 s_0.days), encO 3 encApiSeat s_0.old, .lit (.map (some s_0_seen_r))]), (138, 3, .cp [.sl 1 (s_0.Program.Days.map encSl_ApiSpan), .lit (.int .i64 s_0.Program.Rest), .sl 6 (s_0.Program.Jobs.map encApiJob)]), (139, 4, .agg (encApiProgram s_0.Program)), (140, 5, .agg (encApiSeat (ApiSeat.mk t53_0_7 n_4_26 t112_6_69))), (141, 6, .bp b14 0 0), (142, 7, .bp b14 0 1), (143, 8, .d (.lit (.int .i64 x12.Length.High))), (144, 9, .tup [.d (.lit (.int .i64 r84.1)), .d (.lit (.int .i64 r84.2.1))]), (134, 10, .tup [.d (.lit (.int .i64 r84.1)), .d (.lit (.int .i64 r84.2.1))]), (145, 11, .d (.lit (.int .i64 r84.1))), (146, 12, .d (.lit (.int .i64 r84.2.1))), (16, 13, .d (.lit (.int .i64 r84.1)))], fun X83 => [([], .map s_0_seen_r (s_6_69_4.map fun p => ((fun a : PlayState => Value.agg ((encPlayState a).map zcell).toArray) p.1, (fun v : Int => AV.d (.lit (.int .i64 v))) p.2)) bs70 ck71), ([], .box b1 0 (encPlayState x_1)), ([], .box b14 0 (encApiJob x12)), ([], .box b33 0 (encPlayDay x_1.day)), ([], .box b76 0 (encApiSpan x74)), ([], .box b77 0 (encApiSeat (ApiSeat.mk t53_0_7 n_4_26 t112_6_69))), ([(9, .box (X78 13).b 0 (encPlayState (PlayState.mk r84.2.2 (bOr x_1.done (w64 (1 * 2 ^ (min t53_0_7.toNat 64)))) (w64 (x_1.moves - r81)))))], .box (X78 13).b 0 (encPlayState (PlayState.mk x_1.day (bOr x_1.done (w64 (1 * 2 ^ (min t53_0_7.toNat 64)))) (w64 (x_1.moves - r81)))))], ?_, ?_⟩
                  · exact ⟨by kernel_rfl, by kernel_rfl, by kernel_rfl, fun _ => by kernel_rfl, fun _ => by kernel_rfl, fun _ => by kernel_rfl, fun _ => rfl, [([], [9]), ([], [9]), ([1], [9]), ([2], [9]), ([3], [9]), ([], [9]), ([], [9]), ([6], [9]), ([7], [9]), ([0, 4, 5, 8], []), ([9], []), ([9, 10], []), ([9, 10], []), ([9, 11], [])], by kernel_rfl, ⟨fun X83 S hw hi hS => x_pure (X := X83) rfl (hw X83) rfl (g_op rfl (s_field_bp (lt_of rfl) (ov_ev hS rfl) fld_161_0)),
      fun X83 S hw hi hS => x_pure (X := X83) rfl (hw X83) rfl (g_op rfl (s_move (v := .cp [.sl 1 (s_0.Program.Days.map encSl_ApiSpan), .lit (.int .i64 s_0.Program.Rest), .sl 6 (s_0.Program.Jobs.map encApiJob), .lit (.int .i64 s_0.days), encO 3 encApiSeat s_0.old, .lit (.map (some s_0_seen_r))]) (lt_of rfl) (ov_ev hS rfl) rfl)),
      fun X83 S hw hi hS => x_pure (X := X83) rfl (hw X83) rfl (g_op rfl (s_nilck_cp (lt_of rfl) (ov_ev hS rfl))),
      fun X83 S hw hi hS => x_pure (X := X83) rfl (hw X83) rfl (g_op rfl (s_field_cp (lt_of rfl) (ov_ev hS rfl) fld_158_0 (es := [.sl 1 (s_0.Program.Days.map encSl_ApiSpan), .lit (.int .i64 s_0.Program.Rest), .sl 6 (s_0.Program.Jobs.map encApiJob)]) rfl)),
      fun X83 S hw hi hS => x_pure (X := X83) rfl (hw X83) rfl (g_op rfl (s_loada_cp (lt_of rfl) (ov_ev hS rfl) agg_25 (es := (encApiProgram s_0.Program)) rfl rfl)),
      fun X83 S hw hi hS => x_pure (X := X83) rfl (hw X83) rfl (g_op rfl (s_loada_bp (lt_of rfl) (ov_ev hS rfl) (i := 5) (og hS rfl rfl) agg_45 (es := (encApiSeat (ApiSeat.mk t53_0_7 n_4_26 t112_6_69))) rfl rfl)),
      fun X83 S hw hi hS => x_pure (X := X83) rfl (hw X83) rfl (g_op rfl (s_field_bp (lt_of rfl) (ov_ev hS rfl) fld_36_0)),
      fun X83 S hw hi hS => x_pure (X := X83) rfl (hw X83) rfl (g_op rfl (s_field_bp (lt_of rfl) (ov_ev hS rfl) fld_34_1)),
      fun X83 S hw hi hS => x_pure (X := X83) rfl (hw X83) rfl (g_op rfl (s_load_bp (lt_of rfl) (ov_ev hS rfl) (i := 2) (og hS rfl rfl) rfl one_3)),
      fun X83 S hw hi hS => x_call (X := X83) (p := 6) hS rfl rfl rfl (hw X83) rfl rfl rfl (step_post (step_ent ((ent_at 6 (x := .box (X78 13).b 0 (encPlayState (PlayState.mk x_1.day (bOr x_1.done (w64 (1 * 2 ^ (min t53_0_7.toNat 64)))) (w64 (x_1.moves - r81))))) (og hS rfl rfl)).trans (ent_pick [6, 0, 1, 2, 3, 4, 5] rfl rfl (le_refl _))) (s_callm (passed := [.box (X78 13).b 0 ((encPlayDay x_1.day) ++ [.lit (.int .i64 ((bOr x_1.done (w64 (1 * 2 ^ (min t53_0_7.toNat 64)))))), .lit (.int .i64 ((w64 (x_1.moves - r81))))])]) (lt_of rfl) rfl (.func _ _ Try.call87) (ev2 (ov_ev hS rfl) (ev2 (ov_ev hS rfl) (ev2 (ov_ev hS rfl) (ev2 (ov_ev hS rfl) evn)))) rfl (play_day_play_c x_1.day s_0.Program (ApiSeat.mk t53_0_7 n_4_26 t112_6_69) x12.Length.High (d_0_post := [.lit (.int .i64 ((bOr x_1.done (w64 (1 * 2 ^ (min t53_0_7.toNat 64)))))), .lit (.int .i64 ((w64 (x_1.moves - r81))))]) h85))) (by rintro _ ⟨_, _, ⟨rfl, rfl⟩, rfl⟩; exact ent_pick [1, 2, 3, 4, 5, 6, 0] rfl rfl (le_refl _))),
      fun X83 S hw hi hS => x_pure (X := X83) rfl (hw X83) rfl (g_op rfl (s_move (v := .tup [.d (.lit (.int .i64 r84.1)), .d (.lit (.int .i64 r84.2.1))]) (lt_of rfl) (ov_ev hS rfl) rfl)),
      fun X83 S hw hi hS => x_pure (X := X83) rfl (hw X83) rfl (g_op rfl (s_extract (lt_of rfl) (ov_ev hS rfl) rfl)),
      fun X83 S hw hi hS => x_pure (X := X83) rfl (hw X83) rfl (g_op rfl (s_extract (lt_of rfl) (ov_ev hS rfl) rfl)),
      fun X83 S hw hi hS => x_pure (X := X83) rfl (hw X83) rfl (g_op rfl (s_assign (v := .d (.lit (.int .i64 r84.1))) (lt_of rfl) (ov_ev hS rfl) rfl)), trivial⟩⟩
                  · exact fun X83 => ent_le (le_upd rfl (le_keep ⟨rfl, rfl, rfl, rfl, rfl, rfl, rfl, rfl, rfl, rfl, rfl, rfl, rfl, rfl, rfl, trivial⟩))
                 ·intro X83
                  refine tr1 rfl (s_assign (v := .d (.lit (.int .i64 r84.2.1))) (lt_of rfl) rfl rfl) ?_
                  refine tr_nil ?_
                  refine tr_seq ?_
                  refine tr_region ?_
                  refine tr1 rfl (s_move (v := .d (.lit (.int .i64 r84.2.1))) (lt_of rfl) rfl rfl) ?_
                  refine tr1 rfl (s_field_bp (lt_of rfl) rfl fld_34_1) ?_
                  refine tr1 rfl (s_load_bp (lt_of rfl) rfl (i := 4) rfl rfl one_3) ?_
                  refine tr1 rfl (s_cmp (lt_of rfl) rfl rfl rfl) ?_
                  refine tr1 rfl (s_move (v := .d (.lit (.bool ((decide (x74.High < r84.2.1)))))) (lt_of rfl) rfl rfl) ?_
                  obtain ⟨b86, h87, h⟩ := bind_some h
                  refine tr_guard 4 [0, 3, 6, 7, 10, 11, 14, 15, 51, 52, 53, 110, 111, 112] 155 b86 ?_ ?_
                  ·refine bool_cases (decide (x74.High < r84.2.1)) (fun c96 => ?_) (fun c96 => ?_)
                   ·have h87 := cond_tt c96 h87
                    refine tr_pass rfl rfl (lt_of rfl) rfl (lt_of rfl) rfl c96 ?_
                    refine tr_pass rfl rfl (lt_of rfl) rfl (lt_of rfl) rfl c96 ?_
                    refine tr_pass rfl rfl (lt_of rfl) rfl (lt_of rfl) rfl c96 ?_
                    refine tr1 rfl (s_pick_t (v := .d (.lit (.bool true))) (lt_of rfl) rfl c96 rfl rfl) ?_
                    have h87 := Option.some.inj h87
                    subst h87
                    refine tr_nil (ent_keep rfl ⟨rfl, rfl, rfl, rfl, rfl, rfl, rfl, rfl, rfl, rfl, rfl, rfl, rfl, rfl, trivial⟩ rfl)
                   ·have h87 := cond_ff c96 h87
                    refine tr_take1 rfl rfl (lt_of rfl) rfl c96 (s_field_bp (lt_of rfl) rfl fld_161_2) ?_
                    refine tr_take1 rfl rfl (lt_of rfl) rfl c96 (s_load_bp (lt_of rfl) rfl (i := 6) rfl rfl one_3) ?_
                    refine tr_take1 rfl rfl (lt_of rfl) rfl c96 (s_cmp (lt_of rfl) rfl rfl rfl) ?_
                    refine tr1 rfl (s_pick_f (v := .d (.lit (.bool ((decide ((w64 (x_1.moves - r81)) < 0)))))) (lt_of rfl) rfl c96 rfl rfl) ?_
                    have h87 := Option.some.inj h87
                    subst h87
                    refine tr_nil (ent_keep rfl ⟨rfl, rfl, rfl, rfl, rfl, rfl, rfl, rfl, rfl, rfl, rfl, rfl, rfl, rfl, trivial⟩ rfl)
                  ·refine tr_nil ?_
                   refine tr_if rfl (fun c88 => ?_) (fun c88 => ?_)
                   ·have h := cond_tt c88 h
                    refine tr_exit ?_
                    refine .inl ⟨rfl, ?_⟩
                    refine tr_region ?_
                    refine tr1 rfl (s_arith (lt_of rfl) rfl rfl rfl) ?_
                    refine tr1 rfl (s_move (v := .d (.lit (.int .i64 ((w64 (t112_6_69 + 1)))))) (lt_of rfl) rfl rfl) ?_
                    refine tr_nil ?_
                    exact ⟨(w64 (t112_6_69 + 1), s_6_69_4, bs70, ck71), h, ent_pick [0, 1, 2, 3] rfl rfl (le_upd rfl (le_keep ⟨rfl, rfl, rfl, rfl, rfl, rfl, rfl, rfl, rfl, rfl, rfl, trivial⟩))⟩
                   ·have h := cond_ff c88 h
                    refine tr_skip ?_
                    refine tr_seq ?_
                    refine tr_region ?_
                    refine tr1 rfl (s_move (v := .cp [.sl 1 (s_0.Program.Days.map encSl_ApiSpan), .lit (.int .i64 s_0.Program.Rest), .sl 6 (s_0.Program.Jobs.map encApiJob), .lit (.int .i64 s_0.days), encO 3 encApiSeat s_0.old, .lit (.map (some s_0_seen_r))]) (lt_of rfl) rfl rfl) ?_
                    refine tr1 rfl (s_loada_bp (lt_of rfl) rfl (i := 6) rfl agg_161 (es := (encPlayState (PlayState.mk r84.2.2 (bOr x_1.done (w64 (1 * 2 ^ (min t53_0_7.toNat 64)))) (w64 (x_1.moves - r81))))) rfl rfl) ?_
                    obtain ⟨r89, h90, h⟩ := bind_some h
                    refine tr_op rfl (s_callm (passed := [.map s_0_seen_r (s_6_69_4.map fun p => ((fun a : PlayState => Value.agg ((encPlayState a).map zcell).toArray) p.1, (fun v : Int => AV.d (.lit (.int .i64 v))) p.2)) bs70 ck71]) (lt_of rfl) rfl (.func _ _ Try.call110) rfl rfl (ih s_0 s_6_69_4 (PlayState.mk r84.2.2 (bOr x_1.done (w64 (1 * 2 ^ (min t53_0_7.toNat 64)))) (w64 (x_1.moves - r81))) h90)) ?_
                    rintro _ ⟨_, _, ⟨bs91, ck92, rfl, rfl⟩, rfl⟩
                    refine tr1 rfl (s_move (v := .tup [.d (.sl 3 (r89.1.map encApiSeat)), .d (.lit (.bool r89.2.1))]) (lt_of rfl) rfl rfl) ?_
                    refine tr1 rfl (s_extract (lt_of rfl) rfl rfl) ?_
                    refine tr1 rfl (s_extract (lt_of rfl) rfl rfl) ?_
                    refine tr1 rfl (s_assign (v := .d (.sl 3 (r89.1.map encApiSeat))) (lt_of rfl) rfl rfl) ?_
                    refine tr1 rfl (s_assign (v := .d (.lit (.bool r89.2.1))) (lt_of rfl) rfl rfl) ?_
                    refine tr_nil ?_
                    refine tr_seq ?_
                    refine tr_region ?_
                    refine tr1 rfl (s_move (v := .d (.lit (.bool r89.2.1))) (lt_of rfl) rfl rfl) ?_
                    refine tr_nil ?_
                    refine tr_if rfl (fun c93 => ?_) (fun c93 => ?_)
                    ·have h := cond_tt c93 h
                     refine tr_seq ?_
                     refine tr_region ?_
                     refine tr1 rfl (s_loada_bp (lt_of rfl) rfl (i := 5) rfl agg_45 (es := (encApiSeat (ApiSeat.mk t53_0_7 n_4_26 t112_6_69))) rfl rfl) ?_
                     refine tr1 rfl (s_lit_fl (lt_of rfl) sl_26 rfl rfl (rows := ([(ApiSeat.mk t53_0_7 n_4_26 t112_6_69)]).map encApiSeat) rfl (map_len (f := encApiSeat) fun _ => rfl) rfl (by decide)) ?_
                     refine tr1 rfl (s_move (v := .d (.sl 3 (r89.1.map encApiSeat))) (lt_of rfl) rfl rfl) ?_
                     obtain ⟨x94, h95, h⟩ := bind_some h
                     refine tr1 rfl (s_weak (.d (.weak _ _)) (s_appendf (nn := true) (f := encApiSeat) (xs := [(ApiSeat.mk t53_0_7 n_4_26 t112_6_69)]) (ys := r89.1) (lt_of rfl) sl_26 rfl rfl (fun _ => rfl) h95 rfl)) ?_
                     refine tr1 rfl (s_assign (v := .d (.sl 3 (x94.map encApiSeat))) (lt_of rfl) rfl rfl) ?_
                     refine tr1 rfl (s_assign (v := .d (.lit (.bool true))) (lt_of rfl) rfl rfl) ?_
                     refine tr_nil ?_
                     have h := Option.some.inj h
                     subst h
                     refine tr_ent (ent_pick [0] rfl rfl (le_keep (l := [4, 5]) ⟨rfl, rfl, trivial⟩)) ?_
                     exact tr_ret ⟨rfl, _, .two _ _, _, _, rfl, rfl⟩
                    ·have h := cond_ff c93 h
                     refine tr_skipb ?_
                     refine tr_region ?_
                     refine tr1 rfl (s_arith (lt_of rfl) rfl rfl rfl) ?_
                     refine tr1 rfl (s_move (v := .d (.lit (.int .i64 ((w64 (t112_6_69 + 1)))))) (lt_of rfl) rfl rfl) ?_
                     refine tr_nil ?_
                     exact ⟨(w64 (t112_6_69 + 1), r89.2.2, bs91, ck92), h, ent_pick [0, 1, 2, 3] rfl rfl (le_upd rfl (le_keep ⟨rfl, rfl, rfl, rfl, rfl, rfl, rfl, rfl, rfl, rfl, rfl, trivial⟩))⟩
               ·have h := cond_ff c73 h
                refine tr_exit ?_
                refine .inl ⟨rfl, ?_⟩
                simp only [play_search_from_K6] at h
                simp only [play_search_from_K5] at h
                refine tr_region ?_
                refine tr1 rfl (s_move (v := .d (.lit (.int .i64 n_4_26))) (lt_of rfl) rfl rfl) ?_
                refine tr1 rfl (s_arith (lt_of rfl) rfl rfl rfl) ?_
                refine tr1 rfl (s_assign (v := .d (.lit (.int .i64 ((w64 (n_4_26 + 1)))))) (lt_of rfl) rfl rfl) ?_
                refine tr_nil ?_
                exact ⟨(w64 (n_4_26 + 1), s_6_69_4, bs70, ck71), h, ent_pick [0, 1, 2] rfl rfl (le_upd rfl (le_keep ⟨rfl, rfl, rfl, rfl, rfl, rfl, rfl, trivial⟩))⟩
             ·have h := cond_ff c32 h
              refine tr_exit ?_
              refine .inl ⟨rfl, ?_⟩
              simp only [play_search_from_K4] at h
              simp only [play_search_from_K1] at h
              refine tr_region ?_
              refine tr1 rfl (s_arith (lt_of rfl) rfl rfl rfl) ?_
              refine tr1 rfl (s_move (v := .d (.lit (.int .i64 ((w64 (t53_0_7 + 1)))))) (lt_of rfl) rfl rfl) ?_
              refine tr_nil ?_
              exact ⟨(w64 (t53_0_7 + 1), s_4_26_4, bs27, ck28), h, ent_pick [0, 1] rfl rfl (le_upd rfl (le_keep ⟨rfl, rfl, rfl, rfl, trivial⟩))⟩
         ·have h := cond_ff c11 h
          refine tr_exit ?_
          refine .inl ⟨rfl, ?_⟩
          simp only [play_search_from_K0] at h
          refine tr_seq ?_
          refine tr_region ?_
          refine tr1 rfl (s_nil 3 (lt_of rfl)) ?_
          refine tr1 rfl (s_assign (v := .d (.lit (.bool false))) (lt_of rfl) rfl rfl) ?_
          refine tr_nil ?_
          have h := Option.some.inj h
          subst h
          refine tr_ent (ent_pick [0] rfl rfl (le_keep (l := [4, 5]) ⟨rfl, rfl, trivial⟩)) ?_
          exact tr_ret ⟨rfl, _, .two _ _, _, _, rfl, rfl⟩
theorem play_search_from_c (s_0 : PlaySearch) (s_0_seen : List (PlayState × Int)) (x_1 : PlayState) {r : (List ApiSeat) × Bool × (List (PlayState × Int))} {s_0_seen_r : Nat} {s_0_seen_bs : List Nat} {s_0_seen_ck : Nat} (h : play_search_from s_0 s_0_seen x_1 = some r) : ACalls Try.prog 110 [.cp [.sl 1 (s_0.Program.Days.map encSl_ApiSpan), .lit (.int .i64 s_0.Program.Rest), .sl 6 (s_0.Program.Jobs.map encApiJob), .lit (.int .i64 s_0.days), encO 3 encApiSeat s_0.old, .lit (.map (some s_0_seen_r))], .agg (encPlayState x_1)] [.map s_0_seen_r (s_0_seen.map fun p => ((fun a : PlayState => Value.agg ((encPlayState a).map zcell).toArray) p.1, (fun v : Int => AV.d (.lit (.int .i64 v))) p.2)) s_0_seen_bs s_0_seen_ck] (fun r' o' => ∃ (bs0 : List Nat) (ck0 : Nat), r' = .tup [.d (.sl 3 (r.1.map encApiSeat)), .d (.lit (.bool r.2.1))] ∧ o' = [.map s_0_seen_r (r.2.2.map fun p => ((fun a : PlayState => Value.agg ((encPlayState a).map zcell).toArray) p.1, (fun v : Int => AV.d (.lit (.int .i64 v))) p.2)) bs0 ck0]) := play_search_from_rc BIG _ _ _ h

theorem play_order_c (p_0 : ApiProgram) (days_1 : Int) (old_2 : Option (List ApiSeat)) (moves_3 : Int) {r : (List ApiSeat) × Bool} (h : play_order p_0 days_1 old_2 moves_3 = some r) : Fn Try.prog 88 [.agg (encApiProgram p_0), .d (.lit (.int .i64 days_1)), .d (encO 3 encApiSeat old_2), .d (.lit (.int .i64 moves_3))] (.tup [.d (.sl 3 (r.1.map encApiSeat)), .d (.lit (.bool r.2))]) := by
 unfold play_order at h
 refine Fn.of_tr Try.func88 rfl (rs := [.tmp 8, .tmp 9]) Try.results88 Try.ntmps88 (Nat.le_of_ble_eq_true rfl) ?_
 refine tr_seq ?_
 refine tr_region ?_
 refine tr_op rfl (s_box (v := .agg (encApiProgram p_0)) (lt_of rfl) rfl rfl rfl) ?_
 rintro _ ⟨b1, rfl⟩
 refine tr1 rfl (s_nil 3 (lt_of rfl)) ?_
 refine tr1 rfl (s_assign (v := .d (.lit (.bool false))) (lt_of rfl) rfl rfl) ?_
 refine tr_nil ?_
 refine tr_seq ?_
 refine tr_region ?_
 refine tr1 rfl (s_loada_bp (lt_of rfl) rfl (i := 0) rfl agg_25 (es := (encApiProgram p_0)) rfl rfl) ?_
 refine tr1 rfl (s_move (v := .d (.lit (.int .i64 days_1))) (lt_of rfl) rfl rfl) ?_
 refine tr1 rfl (s_move (v := .d (encO 3 encApiSeat old_2)) (lt_of rfl) rfl rfl) ?_
 refine tr_op rfl (s_makemap (lt_of rfl)) ?_
 rintro _ ⟨r2, rfl⟩
 refine tr1 rfl (s_build (lt_of rfl) stu_158 (zs := [.sl 1 ((([] : List (List ApiSpan))).map encSl_ApiSpan), .lit (.int .i64 0), .sl 6 ((([] : List ApiJob)).map encApiJob), .lit (.int .i64 0), .sl 3 ((([] : List ApiSeat)).map encApiSeat), .lit (.map none)]) rfl rfl rfl rfl (es := [.sl 1 (p_0.Days.map encSl_ApiSpan), .lit (.int .i64 p_0.Rest), .sl 6 (p_0.Jobs.map encApiJob), .lit (.int .i64 days_1), encO 3 encApiSeat old_2, .lit (.map (some r2))]) rfl) ?_
 refine tr_op rfl (s_box (v := .agg [.sl 1 (p_0.Days.map encSl_ApiSpan), .lit (.int .i64 p_0.Rest), .sl 6 (p_0.Jobs.map encApiJob), .lit (.int .i64 days_1), encO 3 encApiSeat old_2, .lit (.map (some r2))]) (lt_of rfl) rfl rfl rfl) ?_
 rintro _ ⟨b3, rfl⟩
 refine tr1 rfl (s_assign (v := .bp b3 0 0) (lt_of rfl) rfl rfl) ?_
 refine tr_nil ?_
 refine tr_seq ?_
 refine tr_seq ?_
 refine tr_region ?_
 refine tr1 rfl (s_move (v := .d (.lit (.int .i64 days_1))) (lt_of rfl) rfl rfl) ?_
 refine tr1 rfl (s_cmp (lt_of rfl) rfl rfl rfl) ?_
 refine tr_nil ?_
 refine tr_if rfl (fun c4 => ?_) (fun c4 => ?_)
 ·have h := cond_tt c4 h
  refine tr_seq ?_
  refine tr_drawk mix 5 [] [(8, .d (.sl 3 ((([] : List ApiSeat)).map encApiSeat))), (22, .d (.lit (.bool ((decide ((p_0.Jobs.length : Int) = 0))))))] ?_ ?_
  ·refine ⟨[(19, 0, .bp b1 0 2), (20, 1, .d (.sl 6 (p_0.Jobs.map encApiJob))), (21, 2, .d (.lit (.int .i64 ((p_0.Jobs.length : Int))))), (22, 3, .d (.lit (.bool ((decide ((p_0.Jobs.length : Int) = 0)))))), (8, 4, .d (.sl 3 ((([] : List ApiSeat)).map encApiSeat)))], ?_, ?_⟩
   · exact ⟨by kernel_rfl, by kernel_rfl, by kernel_rfl, by kernel_rfl, by kernel_rfl, [([], []), ([0], []), ([1], []), ([2], []), ([], [])], by kernel_rfl, ⟨fun S hS => g_fin rfl (g_op rfl (s_field_bp (lt_of rfl) (ov_ev hS rfl) fld_25_2)),
      fun S hS => g_fin rfl (g_op rfl (s_load_bp (lt_of rfl) (ov_ev hS rfl) (i := 0) rfl rfl one_23)),
      fun S hS => g_fin rfl (g_op rfl (s_lenm (lt_of rfl) (ov_ev hS rfl) sl_23.of)),
      fun S hS => g_fin rfl (g_op rfl (s_cmp (lt_of rfl) (ov_ev hS rfl) rfl rfl)),
      fun S hS => g_fin rfl (g_op rfl (s_nil 3 (lt_of rfl))), trivial⟩⟩
   · exact ent_le (le_upd rfl (le_upd rfl (le_keep trivial)))
  ·refine tr1 rfl (s_assign (v := .d (.lit (.bool ((decide ((p_0.Jobs.length : Int) = 0)))))) (lt_of rfl) rfl rfl) ?_
   refine tr_nil ?_
   have h := Option.some.inj h
   subst h
   refine tr_ent (ent_free (ble_keep (l := [8, 9]) ⟨rfl, rfl, trivial⟩)) ?_
   exact tr_ret ⟨rfl, _, .two _ _, rfl, rfl⟩
 ·have h := cond_ff c4 h
  refine tr_skip ?_
  refine tr_seq ?_
  refine tr_region ?_
  refine tr1 rfl (s_move (v := .bp b3 0 0) (lt_of rfl) rfl rfl) ?_
  refine tr1 rfl (s_loada_bp (lt_of rfl) rfl (i := 0) rfl agg_25 (es := (encApiProgram p_0)) rfl rfl) ?_
  obtain ⟨r5, h6, h⟩ := bind_some h
  refine tr1 rfl (s_callf (lt_of rfl) (.func _ _ Try.call86) rfl rfl (play_open_c _ _ h6)) ?_
  refine tr1 rfl (s_move (v := .d (.lit (.int .i64 moves_3))) (lt_of rfl) rfl rfl) ?_
  refine tr1 rfl (s_build (lt_of rfl) stu_161 (zs := [.lit (.int .i64 0), .lit (.int .i64 0), .lit (.int .i64 0), .lit (.int .i64 0), .lit (.int .i64 0), .lit (.int .i64 0), .lit (.int .i64 0), .lit (.int .i64 0), .lit (.int .i64 0), .lit (.int .i64 0), .lit (.int .i64 0), .lit (.int .i64 0)]) rfl rfl rfl rfl (es := [.lit (.int .i64 r5.number), .lit (.int .i64 r5.free.x0), .lit (.int .i64 r5.free.x1), .lit (.int .i64 r5.free.x2), .lit (.int .i64 r5.ends.x0), .lit (.int .i64 r5.ends.x1), .lit (.int .i64 r5.ends.x2), .lit (.int .i64 r5.ends.x3), .lit (.int .i64 r5.ends.x4), .lit (.int .i64 r5.ends.x5), .lit (.int .i64 0), .lit (.int .i64 moves_3)]) rfl) ?_
  refine trl_ent (ent_let [.box b1 0 (encApiProgram p_0), .map r2 (([] : List (PlayState × Int)).map fun p => ((fun a : PlayState => Value.agg ((encPlayState a).map zcell).toArray) p.1, (fun v : Int => AV.d (.lit (.int .i64 v))) p.2)) ([]) 0] [.box b3 0 [.sl 1 (p_0.Days.map encSl_ApiSpan), .lit (.int .i64 p_0.Rest), .sl 6 (p_0.Jobs.map encApiJob), .lit (.int .i64 days_1), encO 3 encApiSeat old_2, .lit (.map (some r2))]] rfl (ble_upd (k := 23) (v := .cp [.sl 1 (p_0.Days.map encSl_ApiSpan), .lit (.int .i64 p_0.Rest), .sl 6 (p_0.Jobs.map encApiJob), .lit (.int .i64 days_1), encO 3 encApiSeat old_2, .lit (.map (some r2))]) ((bv_bp 0 rfl rfl (dvc (.same _) (dvc (.same _) (dvc (.same _) (dvc (.same _) (dvc (.same _) (dvc (.same _) dvn)))))))) (ble_upd (k := 16) (v := .cp [.sl 1 (p_0.Days.map encSl_ApiSpan), .lit (.int .i64 p_0.Rest), .sl 6 (p_0.Jobs.map encApiJob), .lit (.int .i64 days_1), encO 3 encApiSeat old_2, .lit (.map (some r2))]) ((bv_bp 0 rfl rfl (dvc (.same _) (dvc (.same _) (dvc (.same _) (dvc (.same _) (dvc (.same _) (dvc (.same _) dvn)))))))) (ble_upd (k := 10) (v := .cp [.sl 1 (p_0.Days.map encSl_ApiSpan), .lit (.int .i64 p_0.Rest), .sl 6 (p_0.Jobs.map encApiJob), .lit (.int .i64 days_1), encO 3 encApiSeat old_2, .lit (.map (some r2))]) ((bv_bp 0 rfl rfl (dvc (.same _) (dvc (.same _) (dvc (.same _) (dvc (.same _) (dvc (.same _) (dvc (.same _) dvn)))))))) (ble_refl _ _))))) ?_
  obtain ⟨r7, h8, h⟩ := bind_some h
  refine trl_ent (ent_pick [1, 0] rfl rfl (le_refl _)) ?_
  refine tr_op rfl (s_callm (passed := [.map r2 (([] : List (PlayState × Int)).map fun p => ((fun a : PlayState => Value.agg ((encPlayState a).map zcell).toArray) p.1, (fun v : Int => AV.d (.lit (.int .i64 v))) p.2)) ([]) 0]) (lt_of rfl) rfl (.func _ _ Try.call110) rfl rfl (play_search_from_c (PlaySearch.mk p_0 days_1 old_2) ([] : List (PlayState × Int)) (PlayState.mk r5 0 moves_3) h8)) ?_
  rintro _ ⟨_, _, ⟨bs9, ck10, rfl, rfl⟩, rfl⟩
  refine tr1 rfl (s_extract (lt_of rfl) rfl rfl) ?_
  refine tr1 rfl (s_extract (lt_of rfl) rfl rfl) ?_
  refine tr1 rfl (s_assign (v := .d (.sl 3 (r7.1.map encApiSeat))) (lt_of rfl) rfl rfl) ?_
  refine tr1 rfl (s_assign (v := .d (.lit (.bool r7.2.1))) (lt_of rfl) rfl rfl) ?_
  refine tr_nil ?_
  have h := Option.some.inj h
  subst h
  refine tr_ent (ent_free (ble_keep (l := [8, 9]) ⟨rfl, rfl, trivial⟩)) ?_
  exact tr_ret ⟨rfl, _, .two _ _, rfl, rfl⟩

theorem play_best_c (p_0 : ApiProgram) {r : Int × (List ApiSeat) × Bool} (h : play_best p_0 = some r) : Fn Try.prog 56 [.agg (encApiProgram p_0)] (.tup [.d (.lit (.int .i64 r.1)), .d (.sl 3 (r.2.1.map encApiSeat)), .d (.lit (.bool r.2.2))]) := by
 unfold play_best at h
 refine Fn.of_tr Try.func56 rfl (rs := [.tmp 2, .tmp 3, .tmp 4]) Try.results56 Try.ntmps56 (Nat.le_of_ble_eq_true rfl) ?_
 refine tr_seq ?_
 refine tr_region ?_
 refine tr_op rfl (s_box (v := .agg (encApiProgram p_0)) (lt_of rfl) rfl rfl rfl) ?_
 rintro _ ⟨b1, rfl⟩
 refine tr1 rfl (s_assign (v := .d (.lit (.int .i64 0))) (lt_of rfl) rfl rfl) ?_
 refine tr1 rfl (s_nil 3 (lt_of rfl)) ?_
 refine tr1 rfl (s_assign (v := .d (.lit (.bool false))) (lt_of rfl) rfl rfl) ?_
 refine tr_nil ?_
 refine tr_seq ?_
 refine tr_seq ?_
 refine tr_region ?_
 refine tr1 rfl (s_field_bp (lt_of rfl) rfl fld_25_0) ?_
 refine tr1 rfl (s_load_bp (lt_of rfl) rfl (i := 0) rfl rfl one_22) ?_
 refine tr1 rfl (s_lenm (lt_of rfl) rfl sl_22.of) ?_
 refine tr1 rfl (s_arith (lt_of rfl) rfl rfl rfl) ?_
 refine tr1 rfl (s_move (v := .d (.lit (.int .i64 0))) (lt_of rfl) rfl rfl) ?_
 refine tr_nil ?_
 refine tr_blk ?_
 refine tr_loopk [1, 11] (fun (s2 : Int) => [(12, .d (.lit (.int .i64 s2)))]) (fun (s2 : Int) => [.box b1 0 (encApiProgram p_0)]) (fun (k : Nat) (s2 : Int) => play_best_L0 (w64 ((p_0.Days.length : Int) + 1)) p_0 k s2) (fun _ => rfl) (0) h (ent_pick [0] rfl rfl (le_upd rfl (le_keep ⟨rfl, rfl, trivial⟩))) ?_
 rintro k3 t12_0_2 h
 simp only [play_best_L0] at h
 refine tr_seq ?_
 refine tr_region ?_
 refine tr1 rfl (s_cmp (lt_of rfl) rfl rfl rfl) ?_
 refine tr_nil ?_
 refine tr_seq ?_
 refine tr_if rfl (fun c4 => ?_) (fun c4 => ?_)
 ·have h := cond_tt c4 h
  refine tr_skip ?_
  refine tr_seq ?_
  refine tr_blk ?_
  refine tr_seq ?_
  refine tr_region ?_
  refine tr1 rfl (s_move (v := .d (.lit (.int .i64 t12_0_2))) (lt_of rfl) rfl rfl) ?_
  refine tr1 rfl (s_assign (v := .d (.lit (.int .i64 t12_0_2))) (lt_of rfl) rfl rfl) ?_
  refine tr_nil ?_
  refine tr_seq ?_
  refine tr_region ?_
  refine tr1 rfl (s_loada_bp (lt_of rfl) rfl (i := 0) rfl agg_25 (es := (encApiProgram p_0)) rfl rfl) ?_
  refine tr1 rfl (s_move (v := .d (.lit (.int .i64 t12_0_2))) (lt_of rfl) rfl rfl) ?_
  obtain ⟨r5, h6, h⟩ := bind_some h
  refine tr1 rfl (s_callf (lt_of rfl) (.func _ _ Try.call88) rfl rfl (play_order_c _ _ _ _ h6)) ?_
  refine tr1 rfl (s_move (v := .tup [.d (.sl 3 (r5.1.map encApiSeat)), .d (.lit (.bool r5.2))]) (lt_of rfl) rfl rfl) ?_
  refine tr1 rfl (s_extract (lt_of rfl) rfl rfl) ?_
  refine tr1 rfl (s_extract (lt_of rfl) rfl rfl) ?_
  refine tr1 rfl (s_assign (v := .d (.sl 3 (r5.1.map encApiSeat))) (lt_of rfl) rfl rfl) ?_
  refine tr1 rfl (s_assign (v := .d (.lit (.bool r5.2))) (lt_of rfl) rfl rfl) ?_
  refine tr_nil ?_
  refine tr_seq ?_
  refine tr_region ?_
  refine tr1 rfl (s_move (v := .d (.lit (.bool r5.2))) (lt_of rfl) rfl rfl) ?_
  refine tr_nil ?_
  refine tr_if rfl (fun c7 => ?_) (fun c7 => ?_)
  ·have h := cond_tt c7 h
   refine tr_seq ?_
   refine tr_region ?_
   refine tr1 rfl (s_move (v := .d (.lit (.int .i64 t12_0_2))) (lt_of rfl) rfl rfl) ?_
   refine tr1 rfl (s_move (v := .d (.sl 3 (r5.1.map encApiSeat))) (lt_of rfl) rfl rfl) ?_
   refine tr1 rfl (s_assign (v := .d (.lit (.int .i64 t12_0_2))) (lt_of rfl) rfl rfl) ?_
   refine tr1 rfl (s_assign (v := .d (.sl 3 (r5.1.map encApiSeat))) (lt_of rfl) rfl rfl) ?_
   refine tr1 rfl (s_assign (v := .d (.lit (.bool true))) (lt_of rfl) rfl rfl) ?_
   refine tr_nil ?_
   have h := Option.some.inj h
   subst h
   refine tr_ent (ent_free (ble_keep (l := [2, 3, 4]) ⟨rfl, rfl, rfl, trivial⟩)) ?_
   exact tr_ret ⟨rfl, _, .three _ _ _, rfl, rfl⟩
  ·have h := cond_ff c7 h
   refine tr_skipb ?_
   refine tr_region ?_
   refine tr1 rfl (s_arith (lt_of rfl) rfl rfl rfl) ?_
   refine tr1 rfl (s_move (v := .d (.lit (.int .i64 ((w64 (t12_0_2 + 1)))))) (lt_of rfl) rfl rfl) ?_
   refine tr_nil ?_
   exact ⟨(w64 (t12_0_2 + 1)), h, ent_pick [0] rfl rfl (le_upd rfl (le_keep ⟨rfl, rfl, trivial⟩))⟩
 ·have h := cond_ff c4 h
  refine tr_exit ?_
  refine .inl ⟨rfl, ?_⟩
  simp only [play_best_K0] at h
  refine tr_seq ?_
  refine tr_region ?_
  refine tr1 rfl (s_assign (v := .d (.lit (.int .i64 0))) (lt_of rfl) rfl rfl) ?_
  refine tr1 rfl (s_nil 3 (lt_of rfl)) ?_
  refine tr1 rfl (s_assign (v := .d (.lit (.bool false))) (lt_of rfl) rfl rfl) ?_
  refine tr_nil ?_
  have h := Option.some.inj h
  subst h
  refine tr_ent (ent_free (ble_keep (l := [2, 3, 4]) ⟨rfl, rfl, rfl, trivial⟩)) ?_
  exact tr_ret ⟨rfl, _, .three _ _ _, rfl, rfl⟩

theorem play_Days_c (p_0 : ApiProgram) {r : Int × Int} (h : play_Days p_0 = some r) : Fn Try.prog 23 [.agg (encApiProgram p_0)] (.tup [.d (.lit (.int .i64 r.1)), .d (.lit (.int .i64 r.2))]) := by
 unfold play_Days at h
 refine Fn.of_tr Try.func23 rfl (rs := [.tmp 2, .tmp 3]) Try.results23 Try.ntmps23 (Nat.le_of_ble_eq_true rfl) ?_
 refine tr_seq ?_
 refine tr_region ?_
 refine tr_op rfl (s_box (v := .agg (encApiProgram p_0)) (lt_of rfl) rfl rfl rfl) ?_
 rintro _ ⟨b1, rfl⟩
 refine tr1 rfl (s_assign (v := .d (.lit (.int .i64 0))) (lt_of rfl) rfl rfl) ?_
 refine tr1 rfl (s_assign (v := .d (.lit (.int .i64 0))) (lt_of rfl) rfl rfl) ?_
 refine tr_nil ?_
 refine tr_seq ?_
 refine tr_seq ?_
 refine tr_region ?_
 refine tr1 rfl (s_loada_bp (lt_of rfl) rfl (i := 0) rfl agg_25 (es := (encApiProgram p_0)) rfl rfl) ?_
 obtain ⟨r2, h3, h⟩ := bind_some h
 refine tr1 rfl (s_call (lt_of rfl) (.func _ _ Try.call25) rfl rfl (BVs.refl _ _) (play_Check_c _ h3) rfl) ?_
 refine tr1 rfl (s_assign (v := .d (.lit (.int .i64 r2))) (lt_of rfl) rfl rfl) ?_
 refine tr_nil ?_
 refine tr_seq ?_
 refine tr_region ?_
 refine tr1 rfl (s_move (v := .d (.lit (.int .i64 r2))) (lt_of rfl) rfl rfl) ?_
 refine tr1 rfl (s_cmp (lt_of rfl) rfl rfl rfl) ?_
 refine tr_nil ?_
 refine tr_if rfl (fun c4 => ?_) (fun c4 => ?_)
 ·have h := cond_tt c4 h
  refine tr_seq ?_
  refine tr_region ?_
  refine tr1 rfl (s_move (v := .d (.lit (.int .i64 r2))) (lt_of rfl) rfl rfl) ?_
  refine tr1 rfl (s_assign (v := .d (.lit (.int .i64 0))) (lt_of rfl) rfl rfl) ?_
  refine tr1 rfl (s_assign (v := .d (.lit (.int .i64 r2))) (lt_of rfl) rfl rfl) ?_
  refine tr_nil ?_
  have h := Option.some.inj h
  subst h
  refine tr_ent (ent_free (ble_keep (l := [2, 3]) ⟨rfl, rfl, trivial⟩)) ?_
  exact tr_ret ⟨rfl, _, .two _ _, rfl, rfl⟩
 ·have h := cond_ff c4 h
  refine tr_skip ?_
  refine tr_seq ?_
  refine tr_region ?_
  refine tr1 rfl (s_loada_bp (lt_of rfl) rfl (i := 0) rfl agg_25 (es := (encApiProgram p_0)) rfl rfl) ?_
  obtain ⟨r5, h6, h⟩ := bind_some h
  refine tr1 rfl (s_callf (lt_of rfl) (.func _ _ Try.call56) rfl rfl (play_best_c _ h6)) ?_
  refine tr1 rfl (s_move (v := .tup [.d (.lit (.int .i64 r5.1)), .d (.sl 3 (r5.2.1.map encApiSeat)), .d (.lit (.bool r5.2.2))]) (lt_of rfl) rfl rfl) ?_
  refine tr1 rfl (s_extract (lt_of rfl) rfl rfl) ?_
  refine tr1 rfl (s_extract (lt_of rfl) rfl rfl) ?_
  refine tr1 rfl (s_extract (lt_of rfl) rfl rfl) ?_
  refine tr1 rfl (s_assign (v := .d (.lit (.int .i64 r5.1))) (lt_of rfl) rfl rfl) ?_
  refine tr1 rfl (s_assign (v := .d (.sl 3 (r5.2.1.map encApiSeat))) (lt_of rfl) rfl rfl) ?_
  refine tr1 rfl (s_assign (v := .d (.lit (.bool r5.2.2))) (lt_of rfl) rfl rfl) ?_
  refine tr_nil ?_
  refine tr_seq ?_
  refine tr_seq ?_
  refine tr_region ?_
  refine tr1 rfl (s_move (v := .d (.lit (.bool r5.2.2))) (lt_of rfl) rfl rfl) ?_
  refine tr1 rfl (s_not (lt_of rfl) rfl) ?_
  refine tr_nil ?_
  refine tr_if rfl (fun c7 => ?_) (fun c7 => ?_)
  ·have h := cond_tt c7 h
   refine tr_seq ?_
   refine tr_region ?_
   refine tr1 rfl (s_assign (v := .d (.lit (.int .i64 0))) (lt_of rfl) rfl rfl) ?_
   refine tr1 rfl (s_assign (v := .d (.lit (.int .i64 3))) (lt_of rfl) rfl rfl) ?_
   refine tr_nil ?_
   have h := Option.some.inj h
   subst h
   refine tr_ent (ent_free (ble_keep (l := [2, 3]) ⟨rfl, rfl, trivial⟩)) ?_
   exact tr_ret ⟨rfl, _, .two _ _, rfl, rfl⟩
  ·have h := cond_ff c7 h
   refine tr_skip ?_
   refine tr_seq ?_
   refine tr_region ?_
   refine tr1 rfl (s_move (v := .d (.lit (.int .i64 r5.1))) (lt_of rfl) rfl rfl) ?_
   refine tr1 rfl (s_assign (v := .d (.lit (.int .i64 r5.1))) (lt_of rfl) rfl rfl) ?_
   refine tr1 rfl (s_assign (v := .d (.lit (.int .i64 0))) (lt_of rfl) rfl rfl) ?_
   refine tr_nil ?_
   have h := Option.some.inj h
   subst h
   refine tr_ent (ent_free (ble_keep (l := [2, 3]) ⟨rfl, rfl, trivial⟩)) ?_
   exact tr_ret ⟨rfl, _, .two _ _, rfl, rfl⟩

theorem play_shortest_c (s_0 : ApiSpan) {r : Int} (h : play_shortest s_0 = some r) : Fn Try.prog 52 [.agg (encApiSpan s_0)] (.d (.lit (.int .i64 r))) := by
 unfold play_shortest at h
 refine Fn.of_tr Try.func52 rfl (rs := [.tmp 2]) Try.results52 Try.ntmps52 (Nat.le_of_ble_eq_true rfl) ?_
 refine tr_seq ?_
 refine tr_region ?_
 refine tr_op rfl (s_box (v := .agg (encApiSpan s_0)) (lt_of rfl) rfl rfl rfl) ?_
 rintro _ ⟨b1, rfl⟩
 refine tr1 rfl (s_assign (v := .d (.lit (.int .i64 0))) (lt_of rfl) rfl rfl) ?_
 refine tr_nil ?_
 refine tr_seq ?_
 refine tr_region ?_
 refine tr1 rfl (s_field_bp (lt_of rfl) rfl fld_34_0) ?_
 refine tr1 rfl (s_load_bp (lt_of rfl) rfl (i := 0) rfl rfl one_3) ?_
 refine tr1 rfl (s_assign (v := .d (.lit (.int .i64 s_0.Low))) (lt_of rfl) rfl rfl) ?_
 refine tr_nil ?_
 have h := Option.some.inj h
 subst h
 refine tr_ent (ent_free (ble_keep (l := [2]) ⟨rfl, trivial⟩)) ?_
 exact tr_ret ⟨rfl, _, .one _, rfl, rfl⟩

theorem play_Times_c (p_0 : ApiProgram) (order_1 : List ApiSeat) {r : (List ApiSpan) × (List ApiSpan) × Int} (h : play_Times p_0 order_1 = some r) : Fn Try.prog 17 [.agg (encApiProgram p_0), .d (.sl 3 (order_1.map encApiSeat))] (.tup [.d (.sl 2 (r.1.map encApiSpan)), .d (.sl 2 (r.2.1.map encApiSpan)), .d (.lit (.int .i64 r.2.2))]) := by
 unfold play_Times at h
 refine Fn.of_tr Try.func17 rfl (rs := [.tmp 4, .tmp 5, .tmp 6]) Try.results17 Try.ntmps17 (Nat.le_of_ble_eq_true rfl) ?_
 refine tr_seq ?_
 refine tr_region ?_
 refine tr_op rfl (s_box (v := .agg (encApiProgram p_0)) (lt_of rfl) rfl rfl rfl) ?_
 rintro _ ⟨b1, rfl⟩
 refine tr1 rfl (s_nil_arr 34 2 (.inl rfl) (lt_of rfl)) ?_
 refine tr1 rfl (s_nil_arr 34 2 (.inl rfl) (lt_of rfl)) ?_
 refine tr1 rfl (s_assign (v := .d (.lit (.int .i64 0))) (lt_of rfl) rfl rfl) ?_
 refine tr_nil ?_
 refine tr_seq ?_
 refine tr_seq ?_
 refine tr_region ?_
 refine tr1 rfl (s_loada_bp (lt_of rfl) rfl (i := 0) rfl agg_25 (es := (encApiProgram p_0)) rfl rfl) ?_
 obtain ⟨r4, h5, h⟩ := bind_some h
 refine tr1 rfl (s_call (lt_of rfl) (.func _ _ Try.call25) rfl rfl (BVs.refl _ _) (play_Check_c _ h5) rfl) ?_
 refine tr1 rfl (s_assign (v := .d (.lit (.int .i64 r4))) (lt_of rfl) rfl rfl) ?_
 refine tr_nil ?_
 refine tr_seq ?_
 refine tr_region ?_
 refine tr1 rfl (s_move (v := .d (.lit (.int .i64 r4))) (lt_of rfl) rfl rfl) ?_
 refine tr1 rfl (s_cmp (lt_of rfl) rfl rfl rfl) ?_
 refine tr_nil ?_
 refine tr_if rfl (fun c6 => ?_) (fun c6 => ?_)
 ·have h := cond_tt c6 h
  refine tr_seq ?_
  refine tr_region ?_
  refine tr1 rfl (s_move (v := .d (.lit (.int .i64 r4))) (lt_of rfl) rfl rfl) ?_
  refine tr1 rfl (s_nil_arr 34 2 (.inl rfl) (lt_of rfl)) ?_
  refine tr1 rfl (s_nil_arr 34 2 (.inl rfl) (lt_of rfl)) ?_
  refine tr1 rfl (s_assign (v := .d (.lit (.int .i64 r4))) (lt_of rfl) rfl rfl) ?_
  refine tr_nil ?_
  have h := Option.some.inj h
  subst h
  refine tr_ent (ent_free (ble_upd (k := 6) (v := .d (.lit (.int .i64 r4))) (.same _) (ble_upd (k := 5) (v := .d (.sl 2 ((([] : List ApiSpan)).map encApiSpan))) (.d (dv_arr 4 rfl (map_len (f := encApiSpan) fun _ => rfl))) (ble_upd (k := 4) (v := .d (.sl 2 ((([] : List ApiSpan)).map encApiSpan))) (.d (dv_arr 3 rfl (map_len (f := encApiSpan) fun _ => rfl))) (ble_emp))))) ?_
  exact tr_ret ⟨rfl, _, .three _ _ _, rfl, rfl⟩
 ·have h := cond_ff c6 h
  refine tr_skip ?_
  refine tr_seq ?_
  refine tr_seq ?_
  refine tr_region ?_
  refine tr1 rfl (s_loada_bp (lt_of rfl) rfl (i := 0) rfl agg_25 (es := (encApiProgram p_0)) rfl rfl) ?_
  refine tr1 rfl (s_move (v := .d (.sl 3 (order_1.map encApiSeat))) (lt_of rfl) rfl rfl) ?_
  obtain ⟨r9, h10, h⟩ := bind_some h
  refine tr1 rfl (s_call (lt_of rfl) (.func _ _ Try.call50) rfl rfl (BVs.refl _ _) (play_isOrder_c _ _ h10) rfl) ?_
  refine tr1 rfl (s_not (lt_of rfl) rfl) ?_
  refine tr_nil ?_
  refine tr_if rfl (fun c11 => ?_) (fun c11 => ?_)
  ·have h := cond_tt c11 h
   refine tr_seq ?_
   refine tr_region ?_
   refine tr1 rfl (s_nil_arr 34 2 (.inl rfl) (lt_of rfl)) ?_
   refine tr1 rfl (s_nil_arr 34 2 (.inl rfl) (lt_of rfl)) ?_
   refine tr1 rfl (s_assign (v := .d (.lit (.int .i64 81))) (lt_of rfl) rfl rfl) ?_
   refine tr_nil ?_
   have h := Option.some.inj h
   subst h
   refine tr_ent (ent_free (ble_upd (k := 6) (v := .d (.lit (.int .i64 81))) (.same _) (ble_upd (k := 5) (v := .d (.sl 2 ((([] : List ApiSpan)).map encApiSpan))) (.d (dv_arr 4 rfl (map_len (f := encApiSpan) fun _ => rfl))) (ble_upd (k := 4) (v := .d (.sl 2 ((([] : List ApiSpan)).map encApiSpan))) (.d (dv_arr 3 rfl (map_len (f := encApiSpan) fun _ => rfl))) (ble_emp))))) ?_
   exact tr_ret ⟨rfl, _, .three _ _ _, rfl, rfl⟩
  ·have h := cond_ff c11 h
   refine tr_skip ?_
   refine tr_seq ?_
   refine tr_region ?_
   refine tr1 rfl (s_loada_bp (lt_of rfl) rfl (i := 0) rfl agg_25 (es := (encApiProgram p_0)) rfl rfl) ?_
   refine tr1 rfl (s_move (v := .d (.sl 3 (order_1.map encApiSeat))) (lt_of rfl) rfl rfl) ?_
   obtain ⟨r15, h16, h⟩ := bind_some h
   refine tr1 rfl (s_callf (lt_of rfl) (.func _ _ Try.call51) rfl rfl (play_times_c _ _ _ 52 [] Try.call52 (fun _ _ h => play_shortest_c _ h) h16)) ?_
   refine tr1 rfl (s_move (v := .tup [.d (.sl 1 (r15.1.map encI)), .d (.sl 1 (r15.2.map encI))]) (lt_of rfl) rfl rfl) ?_
   refine tr1 rfl (s_extract (lt_of rfl) rfl rfl) ?_
   refine tr1 rfl (s_extract (lt_of rfl) rfl rfl) ?_
   refine tr1 rfl (s_assign (v := .d (.sl 1 (r15.1.map encI))) (lt_of rfl) rfl rfl) ?_
   refine tr1 rfl (s_assign (v := .d (.sl 1 (r15.2.map encI))) (lt_of rfl) rfl rfl) ?_
   refine tr_nil ?_
   refine tr_seq ?_
   refine tr_region ?_
   refine tr1 rfl (s_loada_bp (lt_of rfl) rfl (i := 0) rfl agg_25 (es := (encApiProgram p_0)) rfl rfl) ?_
   refine tr1 rfl (s_move (v := .d (.sl 3 (order_1.map encApiSeat))) (lt_of rfl) rfl rfl) ?_
   obtain ⟨r18, h19, h⟩ := bind_some h
   refine tr1 rfl (s_callf (lt_of rfl) (.func _ _ Try.call51) rfl rfl (play_times_c _ _ _ 53 [] Try.call53 (fun _ _ h => play_longest_c _ h) h19)) ?_
   refine tr1 rfl (s_move (v := .tup [.d (.sl 1 (r18.1.map encI)), .d (.sl 1 (r18.2.map encI))]) (lt_of rfl) rfl rfl) ?_
   refine tr1 rfl (s_extract (lt_of rfl) rfl rfl) ?_
   refine tr1 rfl (s_extract (lt_of rfl) rfl rfl) ?_
   refine tr1 rfl (s_assign (v := .d (.sl 1 (r18.1.map encI))) (lt_of rfl) rfl rfl) ?_
   refine tr1 rfl (s_assign (v := .d (.sl 1 (r18.2.map encI))) (lt_of rfl) rfl rfl) ?_
   refine tr_nil ?_
   refine tr_seq ?_
   refine tr_seq ?_
   refine tr_region ?_
   refine tr1 rfl (s_field_bp (lt_of rfl) rfl fld_25_2) ?_
   refine tr1 rfl (s_load_bp (lt_of rfl) rfl (i := 0) rfl rfl one_23) ?_
   refine tr1 rfl (s_lenm (lt_of rfl) rfl sl_23.of) ?_
   refine tr1 rfl (s_move (v := .d (.lit (.int .i64 0))) (lt_of rfl) rfl rfl) ?_
   refine tr_nil ?_
   refine tr_blk ?_
   refine tr_loopk [8, 9, 10, 11, 36] (fun (s20 : Int × (List ApiSpan) × (List ApiSpan) × Value × Value) => [(4, .d (.lit s20.2.2.2.1)), (5, .d (.lit s20.2.2.2.2)), (37, .d (.lit (.int .i64 s20.1)))]) (fun (s20 : Int × (List ApiSpan) × (List ApiSpan) × Value × Value) => [.arr s20.2.2.2.1 34 2 (s20.2.1.map encApiSpan), .arr s20.2.2.2.2 34 2 (s20.2.2.1.map encApiSpan)]) (fun (k : Nat) (s20 : Int × (List ApiSpan) × (List ApiSpan) × Value × Value) => play_Times_L0 r15.1 r15.2 r18.1 r18.2 (p_0.Jobs.length : Int) k s20.1 s20.2.1 s20.2.2.1) (fun _ => rfl) (0, ([] : List ApiSpan), ([] : List ApiSpan), (.slice none 0 0), (.slice none 0 0)) h (ent_pick [1, 2] rfl rfl (le_upd rfl (le_upd rfl (le_upd rfl (le_keep ⟨rfl, rfl, rfl, rfl, rfl, trivial⟩))))) ?_
   rintro k23 ⟨t37_0_20, begins_0_20, ends_0_20, w21, w22⟩ h
   simp only [play_Times_L0] at h
   refine tr_seq ?_
   refine tr_region ?_
   refine tr1 rfl (s_cmp (lt_of rfl) rfl rfl rfl) ?_
   refine tr_nil ?_
   refine tr_seq ?_
   refine tr_if rfl (fun c24 => ?_) (fun c24 => ?_)
   ·have h := cond_tt c24 h
    refine tr_skip ?_
    refine tr_seq ?_
    refine tr_blk ?_
    refine tr_seq ?_
    refine tr_region ?_
    refine tr1 rfl (s_move (v := .d (.lit (.int .i64 t37_0_20))) (lt_of rfl) rfl rfl) ?_
    refine tr1 rfl (s_assign (v := .d (.lit (.int .i64 t37_0_20))) (lt_of rfl) rfl rfl) ?_
    refine tr_nil ?_
    obtain ⟨x26, h27, h⟩ := bind_some h
    obtain ⟨x28, h29, h⟩ := bind_some h
    obtain ⟨x30, h31, h⟩ := bind_some h
    obtain ⟨x32, h33, h⟩ := bind_some h
    obtain ⟨x34, h35, h⟩ := bind_some h
    refine tr_drawxk mix 23 [8, 9, 10, 11, 36, 37] (fun X25 => [(51, .d (.lit (X25 11).v)), (52, .d (.lit w22)), (62, .d (.sl 2 ((([(ApiSpan.mk x32 x34)])).map encApiSpan)))]) (fun X25 => [.arr (X25 11).v 34 2 (x30.map encApiSpan), .arr w22 34 2 (ends_0_20.map encApiSpan)]) ?_ ?_
    ·refine ⟨0, fun X25 => [(40, 0, .d (.lit w21)), (41, 1, .d (.sl 1 (r15.1.map encI))), (42, 2, .d (.lit (.int .i64 t37_0_20))), (43, 3, .cp [.lit (.int .i64 x26)]), (44, 4, .d (.lit (.int .i64 x26))), (45, 5, .d (.sl 1 (r18.1.map encI))), (46, 6, .d (.lit (.int .i64 t37_0_20))), (47, 7, .cp [.lit (.int .i64 x28)]), (48, 8, .d (.lit (.int .i64 x28))), (49, 9, .agg (encApiSpan (ApiSpan.mk x26 x28))), (50, 10, .d (.sl 2 ((([(ApiSpan.mk x26 x28)])).map encApiSpan))), (51, 11, .d (.lit (X25 11).v)), (52, 12, .d (.lit w22)), (53, 13, .d (.sl 1 (r15.2.map encI))), (54, 14, .d (.lit (.int .i64 t37_0_20))), (55, 15, .cp [.lit (.int .i64 x32)]), (56, 16, .d (.lit (.int .i64 x32))), (57, 17, .d (.sl 1 (r18.2.map encI))), (58, 18, .d (.lit (.int .i64 t37_0_20))), (59, 19, .cp [.lit (.int .i64 x34)]), (60, 20, .d (.lit (.int .i64 x34))), (61, 21, .agg (encApiSpan (ApiSpan.mk x32 x34))), (62, 22, .d (.sl 2 ((([(ApiSpan.mk x32 x34)])).map encApiSpan)))], fun X25 => [([(11, .arr (X25 11).v 34 2 (x30.map encApiSpan))], .arr w21 34 2 (begins_0_20.map encApiSpan)), ([], .arr w22 34 2 (ends_0_20.map encApiSpan))], ?_, ?_⟩
     · exact ⟨by kernel_rfl, by kernel_rfl, by kernel_rfl, fun _ => by kernel_rfl, fun _ => by kernel_rfl, fun _ => by kernel_rfl, fun _ => rfl, [([], [11]), ([], [11]), ([], [11]), ([1, 2], [11]), ([3], [11]), ([], [11]), ([], [11]), ([5, 6], [11]), ([7], [11]), ([4, 8], [11]), ([9], [11]), ([0, 10], []), ([], []), ([], []), ([], []), ([13, 14], []), ([15], []), ([], []), ([], []), ([17, 18], []), ([19], []), ([16, 20], []), ([21], [])], by kernel_rfl, ⟨fun X25 S hw hi hS => x_pure (X := X25) rfl (hw X25) rfl (g_op rfl (s_move (v := .d (.lit w21)) (lt_of rfl) (ov_ev hS rfl) rfl)),
      fun X25 S hw hi hS => x_pure (X := X25) rfl (hw X25) rfl (g_op rfl (s_move (v := .d (.sl 1 (r15.1.map encI))) (lt_of rfl) (ov_ev hS rfl) rfl)),
      fun X25 S hw hi hS => x_pure (X := X25) rfl (hw X25) rfl (g_op rfl (s_move (v := .d (.lit (.int .i64 t37_0_20))) (lt_of rfl) (ov_ev hS rfl) rfl)),
      fun X25 S hw hi hS => x_pure (X := X25) rfl (hw X25) rfl (g_op rfl (s_index_sl (lt_of rfl) (ov_ev hS rfl) (ov_ev hS rfl) sl_27.of (idx_map encI h27))),
      fun X25 S hw hi hS => x_pure (X := X25) rfl (hw X25) rfl (g_op rfl (s_load_cp (lt_of rfl) (ov_ev hS rfl) one_3)),
      fun X25 S hw hi hS => x_pure (X := X25) rfl (hw X25) rfl (g_op rfl (s_move (v := .d (.sl 1 (r18.1.map encI))) (lt_of rfl) (ov_ev hS rfl) rfl)),
      fun X25 S hw hi hS => x_pure (X := X25) rfl (hw X25) rfl (g_op rfl (s_move (v := .d (.lit (.int .i64 t37_0_20))) (lt_of rfl) (ov_ev hS rfl) rfl)),
      fun X25 S hw hi hS => x_pure (X := X25) rfl (hw X25) rfl (g_op rfl (s_index_sl (lt_of rfl) (ov_ev hS rfl) (ov_ev hS rfl) sl_27.of (idx_map encI h29))),
      fun X25 S hw hi hS => x_pure (X := X25) rfl (hw X25) rfl (g_op rfl (s_load_cp (lt_of rfl) (ov_ev hS rfl) one_3)),
      fun X25 S hw hi hS => x_pure (X := X25) rfl (hw X25) rfl (g_op rfl (s_build (lt_of rfl) stu_34 (zs := [.lit (.int .i64 0), .lit (.int .i64 0)]) rfl rfl rfl (pa2 (ov_ev hS rfl) (pa2 (ov_ev hS rfl) pan)) (es := [.lit (.int .i64 x26), .lit (.int .i64 x28)]) rfl)),
      fun X25 S hw hi hS => x_pure (X := X25) rfl (hw X25) rfl (g_op rfl (s_lit_sl (lt_of rfl) sl_37 rfl (pa2 (ov_ev hS rfl) pan) (rows := ([(ApiSpan.mk x26 x28)]).map encApiSpan) rfl (map_len (f := encApiSpan) fun _ => rfl) rfl (by decide))),
      fun X25 S hw hi hS => x_make (X := X25) (p := 0) (v := fun x => .d (.lit x.v)) (mo := fun x => .arr x.v 34 2 (x30.map encApiSpan)) hS hi rfl rfl (fun _ => rfl) hw (fun _ => rfl) (fun _ => rfl) (fun _ => rfl) (fun _ => ⟨rfl, rfl, .inr rfl, ⟨rfl, rfl, .inr rfl, ⟨rfl, rfl, .inr rfl, ⟨rfl, rfl, .inr rfl, ⟨rfl, rfl, .inr rfl, ⟨rfl, rfl, .inr rfl, ⟨rfl, rfl, .inr rfl, ⟨rfl, rfl, .inr rfl, ⟨rfl, rfl, .inr rfl, ⟨rfl, rfl, .inr rfl, ⟨rfl, rfl, .inr rfl, ⟨rfl, rfl, .inl rfl, ⟨rfl, rfl, .inr rfl, ⟨rfl, rfl, .inr rfl, ⟨rfl, rfl, .inr rfl, ⟨rfl, rfl, .inr rfl, ⟨rfl, rfl, .inr rfl, ⟨rfl, rfl, .inr rfl, ⟨rfl, rfl, .inr rfl, ⟨rfl, rfl, .inr rfl, ⟨rfl, rfl, .inr rfl, ⟨rfl, rfl, .inr rfl, ⟨rfl, rfl, .inr rfl, trivial⟩⟩⟩⟩⟩⟩⟩⟩⟩⟩⟩⟩⟩⟩⟩⟩⟩⟩⟩⟩⟩⟩⟩) (fun _ => ⟨⟨rfl, .inl rfl, trivial⟩, rfl, ⟨trivial, rfl, trivial⟩⟩) (step_post (s_appendm (i := 0) (lt_of rfl) sl_37 (ov_ev hS rfl) (og hS rfl rfl) (ov_ev hS rfl) (fun _ => rfl) h31 rfl) (by rintro _ ⟨w, rfl⟩; exact ⟨⟨0, w⟩, Ent.refl _⟩)),
      fun X25 S hw hi hS => x_pure (X := X25) rfl (hw X25) rfl (g_op rfl (s_move (v := .d (.lit w22)) (lt_of rfl) (ov_ev hS rfl) rfl)),
      fun X25 S hw hi hS => x_pure (X := X25) rfl (hw X25) rfl (g_op rfl (s_move (v := .d (.sl 1 (r15.2.map encI))) (lt_of rfl) (ov_ev hS rfl) rfl)),
      fun X25 S hw hi hS => x_pure (X := X25) rfl (hw X25) rfl (g_op rfl (s_move (v := .d (.lit (.int .i64 t37_0_20))) (lt_of rfl) (ov_ev hS rfl) rfl)),
      fun X25 S hw hi hS => x_pure (X := X25) rfl (hw X25) rfl (g_op rfl (s_index_sl (lt_of rfl) (ov_ev hS rfl) (ov_ev hS rfl) sl_27.of (idx_map encI h33))),
      fun X25 S hw hi hS => x_pure (X := X25) rfl (hw X25) rfl (g_op rfl (s_load_cp (lt_of rfl) (ov_ev hS rfl) one_3)),
      fun X25 S hw hi hS => x_pure (X := X25) rfl (hw X25) rfl (g_op rfl (s_move (v := .d (.sl 1 (r18.2.map encI))) (lt_of rfl) (ov_ev hS rfl) rfl)),
      fun X25 S hw hi hS => x_pure (X := X25) rfl (hw X25) rfl (g_op rfl (s_move (v := .d (.lit (.int .i64 t37_0_20))) (lt_of rfl) (ov_ev hS rfl) rfl)),
      fun X25 S hw hi hS => x_pure (X := X25) rfl (hw X25) rfl (g_op rfl (s_index_sl (lt_of rfl) (ov_ev hS rfl) (ov_ev hS rfl) sl_27.of (idx_map encI h35))),
      fun X25 S hw hi hS => x_pure (X := X25) rfl (hw X25) rfl (g_op rfl (s_load_cp (lt_of rfl) (ov_ev hS rfl) one_3)),
      fun X25 S hw hi hS => x_pure (X := X25) rfl (hw X25) rfl (g_op rfl (s_build (lt_of rfl) stu_34 (zs := [.lit (.int .i64 0), .lit (.int .i64 0)]) rfl rfl rfl (pa2 (ov_ev hS rfl) (pa2 (ov_ev hS rfl) pan)) (es := [.lit (.int .i64 x32), .lit (.int .i64 x34)]) rfl)),
      fun X25 S hw hi hS => x_pure (X := X25) rfl (hw X25) rfl (g_op rfl (s_lit_sl (lt_of rfl) sl_37 rfl (pa2 (ov_ev hS rfl) pan) (rows := ([(ApiSpan.mk x32 x34)]).map encApiSpan) rfl (map_len (f := encApiSpan) fun _ => rfl) rfl (by decide))), trivial⟩⟩
     · exact fun X25 => ent_le (le_upd rfl (le_upd rfl (le_upd rfl (le_keep ⟨rfl, rfl, rfl, rfl, rfl, rfl, trivial⟩))))
    ·intro X25
     obtain ⟨x36, h37, h⟩ := bind_some h
     refine tr_op rfl (s_appendm (i := 1) (lt_of rfl) sl_37 rfl rfl rfl (fun _ => rfl) h37 rfl) ?_
     rintro _ ⟨v38, rfl⟩
     refine tr1 rfl (s_assign (v := .d (.lit (X25 11).v)) (lt_of rfl) rfl rfl) ?_
     refine tr1 rfl (s_assign (v := .d (.lit v38)) (lt_of rfl) rfl rfl) ?_
     refine tr_nilb ?_
     refine tr_region ?_
     refine tr1 rfl (s_arith (lt_of rfl) rfl rfl rfl) ?_
     refine tr1 rfl (s_move (v := .d (.lit (.int .i64 ((w64 (t37_0_20 + 1)))))) (lt_of rfl) rfl rfl) ?_
     refine tr_nil ?_
     exact ⟨(w64 (t37_0_20 + 1), x30, x36, (X25 11).v, v38), h, ent_pick [0, 1] rfl rfl (le_upd rfl (le_upd rfl (le_upd rfl (le_keep ⟨rfl, rfl, rfl, rfl, rfl, trivial⟩))))⟩
   ·have h := cond_ff c24 h
    refine tr_exit ?_
    refine .inl ⟨rfl, ?_⟩
    simp only [play_Times_K0] at h
    refine tr_seq ?_
    refine tr_region ?_
    refine tr1 rfl (s_move (v := .d (.lit w21)) (lt_of rfl) rfl rfl) ?_
    refine tr1 rfl (s_move (v := .d (.lit w22)) (lt_of rfl) rfl rfl) ?_
    refine tr1 rfl (s_assign (v := .d (.lit w21)) (lt_of rfl) rfl rfl) ?_
    refine tr1 rfl (s_assign (v := .d (.lit w22)) (lt_of rfl) rfl rfl) ?_
    refine tr1 rfl (s_assign (v := .d (.lit (.int .i64 0))) (lt_of rfl) rfl rfl) ?_
    refine tr_nil ?_
    have h := Option.some.inj h
    subst h
    refine tr_ent (ent_free (ble_upd (k := 6) (v := .d (.lit (.int .i64 0))) (.same _) (ble_upd (k := 5) (v := .d (.sl 2 (ends_0_20.map encApiSpan))) (.d (dv_arr 1 rfl (map_len (f := encApiSpan) fun _ => rfl))) (ble_upd (k := 4) (v := .d (.sl 2 (begins_0_20.map encApiSpan))) (.d (dv_arr 0 rfl (map_len (f := encApiSpan) fun _ => rfl))) (ble_emp))))) ?_
    exact tr_ret ⟨rfl, _, .three _ _ _, rfl, rfl⟩

theorem deucelaw08_works_c {r : Bool} (h : deucelaw08_works = some r) : Fn Try.prog 16 [] (.d (.lit (.bool r))) := by
 unfold deucelaw08_works at h
 refine Fn.of_tr Try.func16 rfl (rs := [.tmp 0]) Try.results16 Try.ntmps16 (Nat.le_of_ble_eq_true rfl) ?_
 refine tr_seq ?_
 refine tr_region ?_
 refine tr1 rfl (s_assign (v := .d (.lit (.bool false))) (lt_of rfl) rfl rfl) ?_
 refine tr_nil ?_
 refine tr_seq ?_
 refine tr_region ?_
 obtain ⟨r1, h2, h⟩ := bind_some h
 refine tr1 rfl (s_callf (lt_of rfl) (.func _ _ Try.call49) rfl rfl (deucelaw08_Example_c h2)) ?_
 refine tr1 rfl (s_move (v := .tup [.agg (encApiProgram r1.1), .d (.sl 3 (r1.2.map encApiSeat))]) (lt_of rfl) rfl rfl) ?_
 refine tr1 rfl (s_extract (lt_of rfl) rfl rfl) ?_
 refine tr1 rfl (s_extract (lt_of rfl) rfl rfl) ?_
 refine tr_op rfl (s_alloc (zs := [.sl 1 ((([] : List (List ApiSpan))).map encSl_ApiSpan), .lit (.int .i64 0), .sl 6 ((([] : List ApiJob)).map encApiJob)]) (lt_of rfl) Try.zeroValue25 rfl rfl) ?_
 rintro _ ⟨b3, rfl⟩
 refine tr1 rfl (s_store_bp (i := 0) rfl rfl rfl rfl rfl Try.sizeOf25 rfl (lt_of rfl) (Nat.le_of_ble_eq_true rfl) (ds' := (encApiProgram r1.1)) rfl) ?_
 refine tr1 rfl (s_assign (v := .d (.sl 3 (r1.2.map encApiSeat))) (lt_of rfl) rfl rfl) ?_
 refine tr_nil ?_
 refine tr_seq ?_
 refine tr_region ?_
 refine tr1 rfl (s_loada_bp (lt_of rfl) rfl (i := 0) rfl agg_25 (es := (encApiProgram r1.1)) rfl rfl) ?_
 refine tr1 rfl (s_move (v := .d (.sl 3 (r1.2.map encApiSeat))) (lt_of rfl) rfl rfl) ?_
 obtain ⟨r4, h5, h⟩ := bind_some h
 refine tr1 rfl (s_call (lt_of rfl) (.func _ _ Try.call18) rfl rfl (BVs.refl _ _) (play_Fits_c _ _ h5) rfl) ?_
 refine tr1 rfl (s_move (v := .tup [.d (.lit (.bool r4.1)), .d (.lit (.int .i64 r4.2.1)), .d (.lit (.int .i64 r4.2.2))]) (lt_of rfl) rfl rfl) ?_
 refine tr1 rfl (s_extract (lt_of rfl) rfl rfl) ?_
 refine tr1 rfl (s_extract (lt_of rfl) rfl rfl) ?_
 refine tr1 rfl (s_extract (lt_of rfl) rfl rfl) ?_
 refine tr1 rfl (s_assign (v := .d (.lit (.bool r4.1))) (lt_of rfl) rfl rfl) ?_
 refine tr1 rfl (s_assign (v := .d (.lit (.int .i64 r4.2.1))) (lt_of rfl) rfl rfl) ?_
 refine tr1 rfl (s_assign (v := .d (.lit (.int .i64 r4.2.2))) (lt_of rfl) rfl rfl) ?_
 refine tr_nil ?_
 refine tr_seq ?_
 refine tr_region ?_
 refine tr1 rfl (s_loada_bp (lt_of rfl) rfl (i := 0) rfl agg_25 (es := (encApiProgram r1.1)) rfl rfl) ?_
 obtain ⟨r6, h7, h⟩ := bind_some h
 refine tr1 rfl (s_call (lt_of rfl) (.func _ _ Try.call23) rfl rfl (BVs.refl _ _) (play_Days_c _ h7) rfl) ?_
 refine tr1 rfl (s_move (v := .tup [.d (.lit (.int .i64 r6.1)), .d (.lit (.int .i64 r6.2))]) (lt_of rfl) rfl rfl) ?_
 refine tr1 rfl (s_extract (lt_of rfl) rfl rfl) ?_
 refine tr1 rfl (s_extract (lt_of rfl) rfl rfl) ?_
 refine tr1 rfl (s_assign (v := .d (.lit (.int .i64 r6.1))) (lt_of rfl) rfl rfl) ?_
 refine tr1 rfl (s_assign (v := .d (.lit (.int .i64 r6.2))) (lt_of rfl) rfl rfl) ?_
 refine tr_nil ?_
 refine tr_seq ?_
 refine tr_region ?_
 refine tr1 rfl (s_loada_bp (lt_of rfl) rfl (i := 0) rfl agg_25 (es := (encApiProgram r1.1)) rfl rfl) ?_
 refine tr1 rfl (s_move (v := .d (.sl 3 (r1.2.map encApiSeat))) (lt_of rfl) rfl rfl) ?_
 obtain ⟨r8, h9, h⟩ := bind_some h
 refine tr1 rfl (s_callf (lt_of rfl) (.func _ _ Try.call17) rfl rfl (play_Times_c _ _ h9)) ?_
 refine tr1 rfl (s_move (v := .tup [.d (.sl 2 (r8.1.map encApiSpan)), .d (.sl 2 (r8.2.1.map encApiSpan)), .d (.lit (.int .i64 r8.2.2))]) (lt_of rfl) rfl rfl) ?_
 refine tr1 rfl (s_extract (lt_of rfl) rfl rfl) ?_
 refine tr1 rfl (s_extract (lt_of rfl) rfl rfl) ?_
 refine tr1 rfl (s_extract (lt_of rfl) rfl rfl) ?_
 refine tr1 rfl (s_assign (v := .d (.sl 2 (r8.1.map encApiSpan))) (lt_of rfl) rfl rfl) ?_
 refine tr1 rfl (s_assign (v := .d (.sl 2 (r8.2.1.map encApiSpan))) (lt_of rfl) rfl rfl) ?_
 refine tr1 rfl (s_assign (v := .d (.lit (.int .i64 r8.2.2))) (lt_of rfl) rfl rfl) ?_
 refine tr_nil ?_
 refine tr_seq ?_
 refine tr_region ?_
 refine tr1 rfl (s_move (v := .d (.lit (.int .i64 r4.2.2))) (lt_of rfl) rfl rfl) ?_
 refine tr1 rfl (s_cmp (lt_of rfl) rfl rfl rfl) ?_
 refine tr1 rfl (s_move (v := .d (.lit (.bool ((decide (r4.2.2 = 0)))))) (lt_of rfl) rfl rfl) ?_
 obtain ⟨b10, h11, h⟩ := bind_some h
 refine tr_guard 3 [3, 4, 6, 8, 10] 39 b10 ?_ ?_
 ·refine bool_cases (decide (r4.2.2 = 0)) (fun c32 => ?_) (fun c32 => ?_)
  ·have h11 := cond_tt c32 h11
   refine tr_take1 rfl rfl (lt_of rfl) rfl c32 (s_move (v := .d (.lit (.int .i64 r6.2))) (lt_of rfl) rfl rfl) ?_
   refine tr_take1 rfl rfl (lt_of rfl) rfl c32 (s_cmp (lt_of rfl) rfl rfl rfl) ?_
   refine tr1 rfl (s_pick_t (v := .d (.lit (.bool ((decide (r6.2 = 0)))))) (lt_of rfl) rfl c32 rfl rfl) ?_
   have h11 := Option.some.inj h11
   subst h11
   refine tr_nil (ent_keep rfl ⟨rfl, rfl, rfl, rfl, rfl, trivial⟩ rfl)
  ·have h11 := cond_ff c32 h11
   refine tr_pass rfl rfl (lt_of rfl) rfl (lt_of rfl) rfl c32 ?_
   refine tr_pass rfl rfl (lt_of rfl) rfl (lt_of rfl) rfl c32 ?_
   refine tr1 rfl (s_pick_f (v := .d (.lit (.bool false))) (lt_of rfl) rfl c32 rfl rfl) ?_
   have h11 := Option.some.inj h11
   subst h11
   refine tr_nil (ent_keep rfl ⟨rfl, rfl, rfl, rfl, rfl, trivial⟩ rfl)
 ·refine tr1 rfl (s_move (v := .d (.lit (.bool b10))) (lt_of rfl) rfl rfl) ?_
  obtain ⟨b12, h13, h⟩ := bind_some h
  refine tr_guard 3 [3, 4, 6, 8] 43 b12 ?_ ?_
  ·refine bool_cases (b10) (fun c31 => ?_) (fun c31 => ?_)
   ·have h13 := cond_tt c31 h13
    refine tr_take1 rfl rfl (lt_of rfl) rfl c31 (s_move (v := .d (.lit (.int .i64 r8.2.2))) (lt_of rfl) rfl rfl) ?_
    refine tr_take1 rfl rfl (lt_of rfl) rfl c31 (s_cmp (lt_of rfl) rfl rfl rfl) ?_
    refine tr1 rfl (s_pick_t (v := .d (.lit (.bool ((decide (r8.2.2 = 0)))))) (lt_of rfl) rfl c31 rfl rfl) ?_
    have h13 := Option.some.inj h13
    subst h13
    refine tr_nil (ent_keep rfl ⟨rfl, rfl, rfl, rfl, trivial⟩ rfl)
   ·have h13 := cond_ff c31 h13
    refine tr_pass rfl rfl (lt_of rfl) rfl (lt_of rfl) rfl c31 ?_
    refine tr_pass rfl rfl (lt_of rfl) rfl (lt_of rfl) rfl c31 ?_
    refine tr1 rfl (s_pick_f (v := .d (.lit (.bool false))) (lt_of rfl) rfl c31 rfl rfl) ?_
    have h13 := Option.some.inj h13
    subst h13
    refine tr_nil (ent_keep rfl ⟨rfl, rfl, rfl, rfl, trivial⟩ rfl)
  ·refine tr1 rfl (s_move (v := .d (.lit (.bool b12))) (lt_of rfl) rfl rfl) ?_
   obtain ⟨b14, h15, h⟩ := bind_some h
   refine tr_guard 2 [4, 6, 8] 46 b14 ?_ ?_
   ·refine bool_cases (b12) (fun c30 => ?_) (fun c30 => ?_)
    ·have h15 := cond_tt c30 h15
     refine tr_take1 rfl rfl (lt_of rfl) rfl c30 (s_move (v := .d (.lit (.bool r4.1))) (lt_of rfl) rfl rfl) ?_
     refine tr1 rfl (s_pick_t (v := .d (.lit (.bool r4.1))) (lt_of rfl) rfl c30 rfl rfl) ?_
     have h15 := Option.some.inj h15
     subst h15
     refine tr_nil (ent_keep rfl ⟨rfl, rfl, rfl, trivial⟩ rfl)
    ·have h15 := cond_ff c30 h15
     refine tr_pass rfl rfl (lt_of rfl) rfl (lt_of rfl) rfl c30 ?_
     refine tr1 rfl (s_pick_f (v := .d (.lit (.bool false))) (lt_of rfl) rfl c30 rfl rfl) ?_
     have h15 := Option.some.inj h15
     subst h15
     refine tr_nil (ent_keep rfl ⟨rfl, rfl, rfl, trivial⟩ rfl)
   ·refine tr1 rfl (s_move (v := .d (.lit (.bool b14))) (lt_of rfl) rfl rfl) ?_
    obtain ⟨b16, h17, h⟩ := bind_some h
    refine tr_guard 3 [6, 8] 50 b16 ?_ ?_
    ·refine bool_cases (b14) (fun c29 => ?_) (fun c29 => ?_)
     ·have h17 := cond_tt c29 h17
      refine tr_take1 rfl rfl (lt_of rfl) rfl c29 (s_move (v := .d (.lit (.int .i64 r4.2.1))) (lt_of rfl) rfl rfl) ?_
      refine tr_take1 rfl rfl (lt_of rfl) rfl c29 (s_cmp (lt_of rfl) rfl rfl rfl) ?_
      refine tr1 rfl (s_pick_t (v := .d (.lit (.bool ((decide (r4.2.1 = (-1))))))) (lt_of rfl) rfl c29 rfl rfl) ?_
      have h17 := Option.some.inj h17
      subst h17
      refine tr_nil (ent_keep rfl ⟨rfl, rfl, trivial⟩ rfl)
     ·have h17 := cond_ff c29 h17
      refine tr_pass rfl rfl (lt_of rfl) rfl (lt_of rfl) rfl c29 ?_
      refine tr_pass rfl rfl (lt_of rfl) rfl (lt_of rfl) rfl c29 ?_
      refine tr1 rfl (s_pick_f (v := .d (.lit (.bool false))) (lt_of rfl) rfl c29 rfl rfl) ?_
      have h17 := Option.some.inj h17
      subst h17
      refine tr_nil (ent_keep rfl ⟨rfl, rfl, trivial⟩ rfl)
    ·refine tr1 rfl (s_move (v := .d (.lit (.bool b16))) (lt_of rfl) rfl rfl) ?_
     obtain ⟨b18, h19, h⟩ := bind_some h
     refine tr_guard 3 [8] 54 b18 ?_ ?_
     ·refine bool_cases (b16) (fun c28 => ?_) (fun c28 => ?_)
      ·have h19 := cond_tt c28 h19
       refine tr_take1 rfl rfl (lt_of rfl) rfl c28 (s_move (v := .d (.lit (.int .i64 r6.1))) (lt_of rfl) rfl rfl) ?_
       refine tr_take1 rfl rfl (lt_of rfl) rfl c28 (s_cmp (lt_of rfl) rfl rfl rfl) ?_
       refine tr1 rfl (s_pick_t (v := .d (.lit (.bool ((decide (r6.1 = 1)))))) (lt_of rfl) rfl c28 rfl rfl) ?_
       have h19 := Option.some.inj h19
       subst h19
       refine tr_nil (ent_keep rfl ⟨rfl, trivial⟩ rfl)
      ·have h19 := cond_ff c28 h19
       refine tr_pass rfl rfl (lt_of rfl) rfl (lt_of rfl) rfl c28 ?_
       refine tr_pass rfl rfl (lt_of rfl) rfl (lt_of rfl) rfl c28 ?_
       refine tr1 rfl (s_pick_f (v := .d (.lit (.bool false))) (lt_of rfl) rfl c28 rfl rfl) ?_
       have h19 := Option.some.inj h19
       subst h19
       refine tr_nil (ent_keep rfl ⟨rfl, trivial⟩ rfl)
     ·refine tr1 rfl (s_move (v := .d (.lit (.bool b18))) (lt_of rfl) rfl rfl) ?_
      obtain ⟨b20, h21, h⟩ := bind_some h
      refine tr_guard 4 [8] 59 b20 ?_ ?_
      ·refine bool_cases (b18) (fun c27 => ?_) (fun c27 => ?_)
       ·have h21 := cond_tt c27 h21
        refine tr_take1 rfl rfl (lt_of rfl) rfl c27 (s_move (v := .d (.sl 2 (r8.1.map encApiSpan))) (lt_of rfl) rfl rfl) ?_
        refine tr_take1 rfl rfl (lt_of rfl) rfl c27 (s_lenm (lt_of rfl) rfl sl_37.of) ?_
        refine tr_take1 rfl rfl (lt_of rfl) rfl c27 (s_cmp (lt_of rfl) rfl rfl rfl) ?_
        refine tr1 rfl (s_pick_t (v := .d (.lit (.bool ((decide ((r8.1.length : Int) = 3)))))) (lt_of rfl) rfl c27 rfl rfl) ?_
        have h21 := Option.some.inj h21
        subst h21
        refine tr_nil (ent_keep rfl ⟨rfl, trivial⟩ rfl)
       ·have h21 := cond_ff c27 h21
        refine tr_pass rfl rfl (lt_of rfl) rfl (lt_of rfl) rfl c27 ?_
        refine tr_pass rfl rfl (lt_of rfl) rfl (lt_of rfl) rfl c27 ?_
        refine tr_pass rfl rfl (lt_of rfl) rfl (lt_of rfl) rfl c27 ?_
        refine tr1 rfl (s_pick_f (v := .d (.lit (.bool false))) (lt_of rfl) rfl c27 rfl rfl) ?_
        have h21 := Option.some.inj h21
        subst h21
        refine tr_nil (ent_keep rfl ⟨rfl, trivial⟩ rfl)
      ·refine tr1 rfl (s_move (v := .d (.lit (.bool b20))) (lt_of rfl) rfl rfl) ?_
       obtain ⟨b22, h23, h⟩ := bind_some h
       refine tr_guard 6 [] 66 b22 ?_ ?_
       ·refine bool_cases (b20) (fun c24 => ?_) (fun c24 => ?_)
        ·have h23 := cond_tt c24 h23
         refine tr_take1 rfl rfl (lt_of rfl) rfl c24 (s_move (v := .d (.sl 2 (r8.1.map encApiSpan))) (lt_of rfl) rfl rfl) ?_
         obtain ⟨x25, h26, h23⟩ := bind_some h23
         refine tr_take1 rfl rfl (lt_of rfl) rfl c24 (s_index_sl (lt_of rfl) rfl rfl sl_37.of (idx_map encApiSpan h26)) ?_
         refine tr_take1 rfl rfl (lt_of rfl) rfl c24 (s_loada_cp (lt_of rfl) rfl agg_34 (es := (encApiSpan x25)) rfl rfl) ?_
         refine tr_take1 rfl rfl (lt_of rfl) rfl c24 (s_build (lt_of rfl) stu_34 (zs := [.lit (.int .i64 0), .lit (.int .i64 0)]) rfl rfl rfl rfl (es := [.lit (.int .i64 690), .lit (.int .i64 750)]) rfl) ?_
         refine tr_take1 rfl rfl (lt_of rfl) rfl c24 (s_eqs (a := x25) (b := (ApiSpan.mk 690 750)) (lt_of rfl) rfl rfl rfl rfl Try.eqGuardType34 eqt_34) ?_
         refine tr1 rfl (s_pick_t (v := .d (.lit (.bool ((decide (x25 = (ApiSpan.mk 690 750))))))) (lt_of rfl) rfl c24 rfl rfl) ?_
         have h23 := Option.some.inj h23
         subst h23
         refine tr_nil (ent_keep rfl trivial rfl)
        ·have h23 := cond_ff c24 h23
         refine tr_pass rfl rfl (lt_of rfl) rfl (lt_of rfl) rfl c24 ?_
         refine tr_pass rfl rfl (lt_of rfl) rfl (lt_of rfl) rfl c24 ?_
         refine tr_pass rfl rfl (lt_of rfl) rfl (lt_of rfl) rfl c24 ?_
         refine tr_pass rfl rfl (lt_of rfl) rfl (lt_of rfl) rfl c24 ?_
         refine tr_pass rfl rfl (lt_of rfl) rfl (lt_of rfl) rfl c24 ?_
         refine tr1 rfl (s_pick_f (v := .d (.lit (.bool false))) (lt_of rfl) rfl c24 rfl rfl) ?_
         have h23 := Option.some.inj h23
         subst h23
         refine tr_nil (ent_keep rfl trivial rfl)
       ·refine tr1 rfl (s_assign (v := .d (.lit (.bool b22))) (lt_of rfl) rfl rfl) ?_
        refine tr_nil ?_
        have h := Option.some.inj h
        subst h
        refine tr_ent (ent_free (ble_keep (l := [0]) ⟨rfl, trivial⟩)) ?_
        exact tr_ret ⟨rfl, _, .one _, rfl, rfl⟩

theorem deucelaw08_Far_c (p_0 : ApiProgram) {r : Bool} (h : deucelaw08_Far p_0 = some r) : Fn Try.prog 35 [.agg (encApiProgram p_0)] (.d (.lit (.bool r))) := by
 unfold deucelaw08_Far at h
 refine Fn.of_tr Try.func35 rfl (rs := [.tmp 2]) Try.results35 Try.ntmps35 (Nat.le_of_ble_eq_true rfl) ?_
 refine tr_seq ?_
 refine tr_region ?_
 refine tr_op rfl (s_box (v := .agg (encApiProgram p_0)) (lt_of rfl) rfl rfl rfl) ?_
 rintro _ ⟨b1, rfl⟩
 refine tr1 rfl (s_assign (v := .d (.lit (.bool false))) (lt_of rfl) rfl rfl) ?_
 refine tr_nil ?_
 refine tr_seq ?_
 obtain ⟨r2, h3, h⟩ := bind_some h
 obtain ⟨b4, h5, h⟩ := bind_some h
 refine tr_drawk mix 25 [] [(27, .d (.lit (.bool b4)))] ?_ ?_
 ·refine bool_cases (r2) (fun c6 => ?_) (fun c6 => ?_)
  ·have h5 := cond_tt c6 h5
   have h5 := Option.some.inj h5
   subst h5
   refine ⟨[(3, 0, .agg (encApiProgram p_0)), (4, 1, .d (.lit (.bool r2))), (5, 2, .d (.lit (.bool r2))), (6, 3, .tup []), (7, 4, .tup []), (8, 5, .tup []), (9, 6, .tup []), (10, 7, .tup []), (11, 8, .tup []), (12, 9, .tup []), (13, 10, .tup []), (14, 11, .tup []), (15, 12, .tup []), (16, 13, .tup []), (17, 14, .tup []), (18, 15, .tup []), (19, 16, .tup []), (20, 17, .tup []), (21, 18, .tup []), (22, 19, .tup []), (23, 20, .tup []), (24, 21, .tup []), (25, 22, .tup []), (26, 23, .tup []), (27, 24, .d (.lit (.bool true)))], ?_, ?_⟩
   · exact ⟨by kernel_rfl, by kernel_rfl, by kernel_rfl, by kernel_rfl, by kernel_rfl, [([], []), ([0], []), ([1], []), ([2], []), ([2, 3], []), ([2, 4], []), ([2, 5], []), ([6], []), ([6, 7], []), ([6, 8], []), ([6, 9], []), ([6, 10], []), ([11], []), ([11, 12], []), ([11, 13], []), ([11], []), ([11, 15], []), ([11, 16], []), ([11, 17], []), ([11, 18], []), ([11, 14, 19], []), ([11, 20], []), ([6, 11, 21], []), ([2, 6, 22], []), ([2, 23], [])], by kernel_rfl, ⟨fun S hS => g_fin rfl (g_op rfl (s_loada_bp (lt_of rfl) (ov_ev hS rfl) (i := 0) rfl agg_25 (es := (encApiProgram p_0)) rfl rfl)),
      fun S hS => g_fin rfl (g_op rfl (s_call (lt_of rfl) (.func _ _ Try.call13) (ev2 (ov_ev hS rfl) evn) rfl (BVs.refl _ _) (deucelaw08_huge_c _ h3) rfl)),
      fun S hS => g_fin rfl (g_op rfl (s_move (v := .d (.lit (.bool r2))) (lt_of rfl) (ov_ev hS rfl) rfl)),
      fun S hS => g_fin rfl (g_pass rfl rfl (lt_of rfl) rfl (lt_of rfl) (ov_en hS rfl) c6),
      fun S hS => g_fin rfl (g_pass rfl rfl (lt_of rfl) rfl (lt_of rfl) (ov_en hS rfl) c6),
      fun S hS => g_fin rfl (g_pass rfl rfl (lt_of rfl) rfl (lt_of rfl) (ov_en hS rfl) c6),
      fun S hS => g_fin rfl (g_pass rfl rfl (lt_of rfl) rfl (lt_of rfl) (ov_en hS rfl) c6),
      fun S hS => g_fin rfl (g_pass' rfl rfl (lt_of rfl) rfl (lt_of rfl) (ov_en hS rfl)),
      fun S hS => g_fin rfl (g_pass' rfl rfl (lt_of rfl) rfl (lt_of rfl) (ov_en hS rfl)),
      fun S hS => g_fin rfl (g_pass' rfl rfl (lt_of rfl) rfl (lt_of rfl) (ov_en hS rfl)),
      fun S hS => g_fin rfl (g_pass' rfl rfl (lt_of rfl) rfl (lt_of rfl) (ov_en hS rfl)),
      fun S hS => g_fin rfl (g_pass' rfl rfl (lt_of rfl) rfl (lt_of rfl) (ov_en hS rfl)),
      fun S hS => g_fin rfl (g_pass' rfl rfl (lt_of rfl) rfl (lt_of rfl) (ov_en hS rfl)),
      fun S hS => g_fin rfl (g_pass' rfl rfl (lt_of rfl) rfl (lt_of rfl) (ov_en hS rfl)),
      fun S hS => g_fin rfl (g_pass' rfl rfl (lt_of rfl) rfl (lt_of rfl) (ov_en hS rfl)),
      fun S hS => g_fin rfl (g_pass' rfl rfl (lt_of rfl) rfl (lt_of rfl) (ov_en hS rfl)),
      fun S hS => g_fin rfl (g_pass' rfl rfl (lt_of rfl) rfl (lt_of rfl) (ov_en hS rfl)),
      fun S hS => g_fin rfl (g_pass' rfl rfl (lt_of rfl) rfl (lt_of rfl) (ov_en hS rfl)),
      fun S hS => g_fin rfl (g_pass' rfl rfl (lt_of rfl) rfl (lt_of rfl) (ov_en hS rfl)),
      fun S hS => g_fin rfl (g_pass' rfl rfl (lt_of rfl) rfl (lt_of rfl) (ov_en hS rfl)),
      fun S hS => g_fin rfl (g_pass' rfl rfl (lt_of rfl) rfl (lt_of rfl) (ov_en hS rfl)),
      fun S hS => g_fin rfl (g_pass' rfl rfl (lt_of rfl) rfl (lt_of rfl) (ov_en hS rfl)),
      fun S hS => g_fin rfl (g_pass' rfl rfl (lt_of rfl) rfl (lt_of rfl) (ov_en hS rfl)),
      fun S hS => g_fin rfl (g_pass rfl rfl (lt_of rfl) rfl (lt_of rfl) (ov_en hS rfl) c6),
      fun S hS => g_fin rfl (g_op rfl (s_pick_t (v := .d (.lit (.bool true))) (lt_of rfl) (ov_ev hS rfl) c6 rfl rfl)), trivial⟩⟩
   · exact ent_le (le_upd rfl (le_keep trivial))
  ·have h5 := cond_ff c6 h5
   obtain ⟨r7, h8, h5⟩ := bind_some h5
   obtain ⟨b9, h10, h5⟩ := bind_some h5
   refine bool_cases (decide (r7 = 0)) (fun c11 => ?_) (fun c11 => ?_)
   ·have h10 := cond_tt c11 h10
    obtain ⟨b12, h13, h10⟩ := bind_some h10
    refine bool_cases (decide (4 < (p_0.Jobs.length : Int))) (fun c14 => ?_) (fun c14 => ?_)
    ·have h13 := cond_tt c14 h13
     have h13 := Option.some.inj h13
     subst h13
     have h10 := Option.some.inj h10
     subst h10
     have h5 := Option.some.inj h5
     subst h5
     refine ⟨[(3, 0, .agg (encApiProgram p_0)), (4, 1, .d (.lit (.bool r2))), (5, 2, .d (.lit (.bool r2))), (6, 3, .agg (encApiProgram p_0)), (7, 4, .d (.lit (.int .i64 r7))), (8, 5, .d (.lit (.bool ((decide (r7 = 0)))))), (9, 6, .d (.lit (.bool ((decide (r7 = 0)))))), (10, 7, .bp b1 0 2), (11, 8, .d (.sl 6 (p_0.Jobs.map encApiJob))), (12, 9, .d (.lit (.int .i64 ((p_0.Jobs.length : Int))))), (13, 10, .d (.lit (.bool ((decide (4 < (p_0.Jobs.length : Int))))))), (14, 11, .d (.lit (.bool ((decide (4 < (p_0.Jobs.length : Int))))))), (15, 12, .tup []), (16, 13, .tup []), (17, 14, .tup []), (18, 15, .tup []), (19, 16, .tup []), (20, 17, .tup []), (21, 18, .tup []), (22, 19, .tup []), (23, 20, .tup []), (24, 21, .tup []), (25, 22, .d (.lit (.bool true))), (26, 23, .d (.lit (.bool (true)))), (27, 24, .d (.lit (.bool (true))))], ?_, ?_⟩
     · exact ⟨by kernel_rfl, by kernel_rfl, by kernel_rfl, by kernel_rfl, by kernel_rfl, [([], []), ([0], []), ([1], []), ([2], []), ([2, 3], []), ([2, 4], []), ([2, 5], []), ([6], []), ([6, 7], []), ([6, 8], []), ([6, 9], []), ([6, 10], []), ([11], []), ([11, 12], []), ([11, 13], []), ([11], []), ([11, 15], []), ([11, 16], []), ([11, 17], []), ([11, 18], []), ([11, 14, 19], []), ([11, 20], []), ([6, 11, 21], []), ([2, 6, 22], []), ([2, 23], [])], by kernel_rfl, ⟨fun S hS => g_fin rfl (g_op rfl (s_loada_bp (lt_of rfl) (ov_ev hS rfl) (i := 0) rfl agg_25 (es := (encApiProgram p_0)) rfl rfl)),
      fun S hS => g_fin rfl (g_op rfl (s_call (lt_of rfl) (.func _ _ Try.call13) (ev2 (ov_ev hS rfl) evn) rfl (BVs.refl _ _) (deucelaw08_huge_c _ h3) rfl)),
      fun S hS => g_fin rfl (g_op rfl (s_move (v := .d (.lit (.bool r2))) (lt_of rfl) (ov_ev hS rfl) rfl)),
      fun S hS => g_fin rfl (g_take rfl rfl (lt_of rfl) (ov_en hS rfl) c6 (s_loada_bp (lt_of rfl) (ov_ev hS rfl) (i := 0) rfl agg_25 (es := (encApiProgram p_0)) rfl rfl)),
      fun S hS => g_fin rfl (g_take rfl rfl (lt_of rfl) (ov_en hS rfl) c6 (s_call (lt_of rfl) (.func _ _ Try.call14) (ev2 (ov_ev hS rfl) evn) rfl (BVs.refl _ _) (deuceref08_Check_c _ h8) rfl)),
      fun S hS => g_fin rfl (g_take rfl rfl (lt_of rfl) (ov_en hS rfl) c6 (s_cmp (lt_of rfl) (ov_ev hS rfl) rfl rfl)),
      fun S hS => g_fin rfl (g_take rfl rfl (lt_of rfl) (ov_en hS rfl) c6 (s_move (v := .d (.lit (.bool ((decide (r7 = 0)))))) (lt_of rfl) (ov_ev hS rfl) rfl)),
      fun S hS => g_fin rfl (g_take rfl rfl (lt_of rfl) (ov_en hS rfl) c11 (s_field_bp (lt_of rfl) (ov_ev hS rfl) fld_25_2)),
      fun S hS => g_fin rfl (g_take rfl rfl (lt_of rfl) (ov_en hS rfl) c11 (s_load_bp (lt_of rfl) (ov_ev hS rfl) (i := 0) rfl rfl one_23)),
      fun S hS => g_fin rfl (g_take rfl rfl (lt_of rfl) (ov_en hS rfl) c11 (s_lenm (lt_of rfl) (ov_ev hS rfl) sl_23.of)),
      fun S hS => g_fin rfl (g_take rfl rfl (lt_of rfl) (ov_en hS rfl) c11 (s_cmp (lt_of rfl) (ov_ev hS rfl) rfl rfl)),
      fun S hS => g_fin rfl (g_take rfl rfl (lt_of rfl) (ov_en hS rfl) c11 (s_move (v := .d (.lit (.bool ((decide (4 < (p_0.Jobs.length : Int))))))) (lt_of rfl) (ov_ev hS rfl) rfl)),
      fun S hS => g_fin rfl (g_pass rfl rfl (lt_of rfl) rfl (lt_of rfl) (ov_en hS rfl) c14),
      fun S hS => g_fin rfl (g_pass rfl rfl (lt_of rfl) rfl (lt_of rfl) (ov_en hS rfl) c14),
      fun S hS => g_fin rfl (g_pass rfl rfl (lt_of rfl) rfl (lt_of rfl) (ov_en hS rfl) c14),
      fun S hS => g_fin rfl (g_pass rfl rfl (lt_of rfl) rfl (lt_of rfl) (ov_en hS rfl) c14),
      fun S hS => g_fin rfl (g_pass rfl rfl (lt_of rfl) rfl (lt_of rfl) (ov_en hS rfl) c14),
      fun S hS => g_fin rfl (g_pass rfl rfl (lt_of rfl) rfl (lt_of rfl) (ov_en hS rfl) c14),
      fun S hS => g_fin rfl (g_pass rfl rfl (lt_of rfl) rfl (lt_of rfl) (ov_en hS rfl) c14),
      fun S hS => g_fin rfl (g_pass rfl rfl (lt_of rfl) rfl (lt_of rfl) (ov_en hS rfl) c14),
      fun S hS => g_fin rfl (g_pass rfl rfl (lt_of rfl) rfl (lt_of rfl) (ov_en hS rfl) c14),
      fun S hS => g_fin rfl (g_pass rfl rfl (lt_of rfl) rfl (lt_of rfl) (ov_en hS rfl) c14),
      fun S hS => g_fin rfl (g_take rfl rfl (lt_of rfl) (ov_en hS rfl) c11 (s_pick_t (v := .d (.lit (.bool true))) (lt_of rfl) (ov_ev hS rfl) c14 rfl rfl)),
      fun S hS => g_fin rfl (g_take rfl rfl (lt_of rfl) (ov_en hS rfl) c6 (s_pick_t (v := .d (.lit (.bool (true)))) (lt_of rfl) (ov_ev hS rfl) c11 (ov_ev hS rfl) rfl)),
      fun S hS => g_fin rfl (g_op rfl (s_pick_f (v := .d (.lit (.bool (true)))) (lt_of rfl) (ov_ev hS rfl) c6 (ov_ev hS rfl) rfl)), trivial⟩⟩
     · exact ent_le (le_upd rfl (le_keep trivial))
    ·have h13 := cond_ff c14 h13
     obtain ⟨x15, h16, h13⟩ := bind_some h13
     have h13 := Option.some.inj h13
     subst h13
     have h10 := Option.some.inj h10
     subst h10
     have h5 := Option.some.inj h5
     subst h5
     refine ⟨[(3, 0, .agg (encApiProgram p_0)), (4, 1, .d (.lit (.bool r2))), (5, 2, .d (.lit (.bool r2))), (6, 3, .agg (encApiProgram p_0)), (7, 4, .d (.lit (.int .i64 r7))), (8, 5, .d (.lit (.bool ((decide (r7 = 0)))))), (9, 6, .d (.lit (.bool ((decide (r7 = 0)))))), (10, 7, .bp b1 0 2), (11, 8, .d (.sl 6 (p_0.Jobs.map encApiJob))), (12, 9, .d (.lit (.int .i64 ((p_0.Jobs.length : Int))))), (13, 10, .d (.lit (.bool ((decide (4 < (p_0.Jobs.length : Int))))))), (14, 11, .d (.lit (.bool ((decide (4 < (p_0.Jobs.length : Int))))))), (15, 12, .bp b1 0 0), (16, 13, .d (.sl 1 (p_0.Days.map encSl_ApiSpan))), (17, 14, .d (.lit (.int .i64 ((p_0.Days.length : Int))))), (18, 15, .bp b1 0 0), (19, 16, .d (.sl 1 (p_0.Days.map encSl_ApiSpan))), (20, 17, .cp [.sl 2 (x15.map encApiSpan)]), (21, 18, .d (.sl 2 (x15.map encApiSpan))), (22, 19, .d (.lit (.int .i64 ((x15.length : Int))))), (23, 20, .d (.lit (.int .i64 ((w64 ((p_0.Days.length : Int) * (x15.length : Int))))))), (24, 21, .d (.lit (.bool ((decide (4 < (w64 ((p_0.Days.length : Int) * (x15.length : Int))))))))), (25, 22, .d (.lit (.bool ((decide (4 < (w64 ((p_0.Days.length : Int) * (x15.length : Int))))))))), (26, 23, .d (.lit (.bool (decide (4 < (w64 ((p_0.Days.length : Int) * (x15.length : Int)))))))), (27, 24, .d (.lit (.bool (decide (4 < (w64 ((p_0.Days.length : Int) * (x15.length : Int))))))))], ?_, ?_⟩
     · exact ⟨by kernel_rfl, by kernel_rfl, by kernel_rfl, by kernel_rfl, by kernel_rfl, [([], []), ([0], []), ([1], []), ([2], []), ([2, 3], []), ([2, 4], []), ([2, 5], []), ([6], []), ([6, 7], []), ([6, 8], []), ([6, 9], []), ([6, 10], []), ([11], []), ([11, 12], []), ([11, 13], []), ([11], []), ([11, 15], []), ([11, 16], []), ([11, 17], []), ([11, 18], []), ([11, 14, 19], []), ([11, 20], []), ([6, 11, 21], []), ([2, 6, 22], []), ([2, 23], [])], by kernel_rfl, ⟨fun S hS => g_fin rfl (g_op rfl (s_loada_bp (lt_of rfl) (ov_ev hS rfl) (i := 0) rfl agg_25 (es := (encApiProgram p_0)) rfl rfl)),
      fun S hS => g_fin rfl (g_op rfl (s_call (lt_of rfl) (.func _ _ Try.call13) (ev2 (ov_ev hS rfl) evn) rfl (BVs.refl _ _) (deucelaw08_huge_c _ h3) rfl)),
      fun S hS => g_fin rfl (g_op rfl (s_move (v := .d (.lit (.bool r2))) (lt_of rfl) (ov_ev hS rfl) rfl)),
      fun S hS => g_fin rfl (g_take rfl rfl (lt_of rfl) (ov_en hS rfl) c6 (s_loada_bp (lt_of rfl) (ov_ev hS rfl) (i := 0) rfl agg_25 (es := (encApiProgram p_0)) rfl rfl)),
      fun S hS => g_fin rfl (g_take rfl rfl (lt_of rfl) (ov_en hS rfl) c6 (s_call (lt_of rfl) (.func _ _ Try.call14) (ev2 (ov_ev hS rfl) evn) rfl (BVs.refl _ _) (deuceref08_Check_c _ h8) rfl)),
      fun S hS => g_fin rfl (g_take rfl rfl (lt_of rfl) (ov_en hS rfl) c6 (s_cmp (lt_of rfl) (ov_ev hS rfl) rfl rfl)),
      fun S hS => g_fin rfl (g_take rfl rfl (lt_of rfl) (ov_en hS rfl) c6 (s_move (v := .d (.lit (.bool ((decide (r7 = 0)))))) (lt_of rfl) (ov_ev hS rfl) rfl)),
      fun S hS => g_fin rfl (g_take rfl rfl (lt_of rfl) (ov_en hS rfl) c11 (s_field_bp (lt_of rfl) (ov_ev hS rfl) fld_25_2)),
      fun S hS => g_fin rfl (g_take rfl rfl (lt_of rfl) (ov_en hS rfl) c11 (s_load_bp (lt_of rfl) (ov_ev hS rfl) (i := 0) rfl rfl one_23)),
      fun S hS => g_fin rfl (g_take rfl rfl (lt_of rfl) (ov_en hS rfl) c11 (s_lenm (lt_of rfl) (ov_ev hS rfl) sl_23.of)),
      fun S hS => g_fin rfl (g_take rfl rfl (lt_of rfl) (ov_en hS rfl) c11 (s_cmp (lt_of rfl) (ov_ev hS rfl) rfl rfl)),
      fun S hS => g_fin rfl (g_take rfl rfl (lt_of rfl) (ov_en hS rfl) c11 (s_move (v := .d (.lit (.bool ((decide (4 < (p_0.Jobs.length : Int))))))) (lt_of rfl) (ov_ev hS rfl) rfl)),
      fun S hS => g_fin rfl (g_take rfl rfl (lt_of rfl) (ov_en hS rfl) c14 (s_field_bp (lt_of rfl) (ov_ev hS rfl) fld_25_0)),
      fun S hS => g_fin rfl (g_take rfl rfl (lt_of rfl) (ov_en hS rfl) c14 (s_load_bp (lt_of rfl) (ov_ev hS rfl) (i := 0) rfl rfl one_22)),
      fun S hS => g_fin rfl (g_take rfl rfl (lt_of rfl) (ov_en hS rfl) c14 (s_lenm (lt_of rfl) (ov_ev hS rfl) sl_22.of)),
      fun S hS => g_fin rfl (g_take rfl rfl (lt_of rfl) (ov_en hS rfl) c14 (s_field_bp (lt_of rfl) (ov_ev hS rfl) fld_25_0)),
      fun S hS => g_fin rfl (g_take rfl rfl (lt_of rfl) (ov_en hS rfl) c14 (s_load_bp (lt_of rfl) (ov_ev hS rfl) (i := 0) rfl rfl one_22)),
      fun S hS => g_fin rfl (g_take rfl rfl (lt_of rfl) (ov_en hS rfl) c14 (s_index_sl (lt_of rfl) (ov_ev hS rfl) rfl sl_22.of (idx_map encSl_ApiSpan h16))),
      fun S hS => g_fin rfl (g_take rfl rfl (lt_of rfl) (ov_en hS rfl) c14 (s_load_cp (lt_of rfl) (ov_ev hS rfl) one_37)),
      fun S hS => g_fin rfl (g_take rfl rfl (lt_of rfl) (ov_en hS rfl) c14 (s_lenm (lt_of rfl) (ov_ev hS rfl) sl_37.of)),
      fun S hS => g_fin rfl (g_take rfl rfl (lt_of rfl) (ov_en hS rfl) c14 (s_arith (lt_of rfl) (ov_ev hS rfl) (ov_ev hS rfl) rfl)),
      fun S hS => g_fin rfl (g_take rfl rfl (lt_of rfl) (ov_en hS rfl) c14 (s_cmp (lt_of rfl) (ov_ev hS rfl) rfl rfl)),
      fun S hS => g_fin rfl (g_take rfl rfl (lt_of rfl) (ov_en hS rfl) c11 (s_pick_f (v := .d (.lit (.bool ((decide (4 < (w64 ((p_0.Days.length : Int) * (x15.length : Int))))))))) (lt_of rfl) (ov_ev hS rfl) c14 (ov_ev hS rfl) rfl)),
      fun S hS => g_fin rfl (g_take rfl rfl (lt_of rfl) (ov_en hS rfl) c6 (s_pick_t (v := .d (.lit (.bool (decide (4 < (w64 ((p_0.Days.length : Int) * (x15.length : Int)))))))) (lt_of rfl) (ov_ev hS rfl) c11 (ov_ev hS rfl) rfl)),
      fun S hS => g_fin rfl (g_op rfl (s_pick_f (v := .d (.lit (.bool (decide (4 < (w64 ((p_0.Days.length : Int) * (x15.length : Int)))))))) (lt_of rfl) (ov_ev hS rfl) c6 (ov_ev hS rfl) rfl)), trivial⟩⟩
     · exact ent_le (le_upd rfl (le_keep trivial))
   ·have h10 := cond_ff c11 h10
    have h10 := Option.some.inj h10
    subst h10
    have h5 := Option.some.inj h5
    subst h5
    refine ⟨[(3, 0, .agg (encApiProgram p_0)), (4, 1, .d (.lit (.bool r2))), (5, 2, .d (.lit (.bool r2))), (6, 3, .agg (encApiProgram p_0)), (7, 4, .d (.lit (.int .i64 r7))), (8, 5, .d (.lit (.bool ((decide (r7 = 0)))))), (9, 6, .d (.lit (.bool ((decide (r7 = 0)))))), (10, 7, .tup []), (11, 8, .tup []), (12, 9, .tup []), (13, 10, .tup []), (14, 11, .tup []), (15, 12, .tup []), (16, 13, .tup []), (17, 14, .tup []), (18, 15, .tup []), (19, 16, .tup []), (20, 17, .tup []), (21, 18, .tup []), (22, 19, .tup []), (23, 20, .tup []), (24, 21, .tup []), (25, 22, .tup []), (26, 23, .d (.lit (.bool false))), (27, 24, .d (.lit (.bool (false))))], ?_, ?_⟩
    · exact ⟨by kernel_rfl, by kernel_rfl, by kernel_rfl, by kernel_rfl, by kernel_rfl, [([], []), ([0], []), ([1], []), ([2], []), ([2, 3], []), ([2, 4], []), ([2, 5], []), ([6], []), ([6, 7], []), ([6, 8], []), ([6, 9], []), ([6, 10], []), ([11], []), ([11, 12], []), ([11, 13], []), ([11], []), ([11, 15], []), ([11, 16], []), ([11, 17], []), ([11, 18], []), ([11, 14, 19], []), ([11, 20], []), ([6, 11, 21], []), ([2, 6, 22], []), ([2, 23], [])], by kernel_rfl, ⟨fun S hS => g_fin rfl (g_op rfl (s_loada_bp (lt_of rfl) (ov_ev hS rfl) (i := 0) rfl agg_25 (es := (encApiProgram p_0)) rfl rfl)),
      fun S hS => g_fin rfl (g_op rfl (s_call (lt_of rfl) (.func _ _ Try.call13) (ev2 (ov_ev hS rfl) evn) rfl (BVs.refl _ _) (deucelaw08_huge_c _ h3) rfl)),
      fun S hS => g_fin rfl (g_op rfl (s_move (v := .d (.lit (.bool r2))) (lt_of rfl) (ov_ev hS rfl) rfl)),
      fun S hS => g_fin rfl (g_take rfl rfl (lt_of rfl) (ov_en hS rfl) c6 (s_loada_bp (lt_of rfl) (ov_ev hS rfl) (i := 0) rfl agg_25 (es := (encApiProgram p_0)) rfl rfl)),
      fun S hS => g_fin rfl (g_take rfl rfl (lt_of rfl) (ov_en hS rfl) c6 (s_call (lt_of rfl) (.func _ _ Try.call14) (ev2 (ov_ev hS rfl) evn) rfl (BVs.refl _ _) (deuceref08_Check_c _ h8) rfl)),
      fun S hS => g_fin rfl (g_take rfl rfl (lt_of rfl) (ov_en hS rfl) c6 (s_cmp (lt_of rfl) (ov_ev hS rfl) rfl rfl)),
      fun S hS => g_fin rfl (g_take rfl rfl (lt_of rfl) (ov_en hS rfl) c6 (s_move (v := .d (.lit (.bool ((decide (r7 = 0)))))) (lt_of rfl) (ov_ev hS rfl) rfl)),
      fun S hS => g_fin rfl (g_pass rfl rfl (lt_of rfl) rfl (lt_of rfl) (ov_en hS rfl) c11),
      fun S hS => g_fin rfl (g_pass rfl rfl (lt_of rfl) rfl (lt_of rfl) (ov_en hS rfl) c11),
      fun S hS => g_fin rfl (g_pass rfl rfl (lt_of rfl) rfl (lt_of rfl) (ov_en hS rfl) c11),
      fun S hS => g_fin rfl (g_pass rfl rfl (lt_of rfl) rfl (lt_of rfl) (ov_en hS rfl) c11),
      fun S hS => g_fin rfl (g_pass rfl rfl (lt_of rfl) rfl (lt_of rfl) (ov_en hS rfl) c11),
      fun S hS => g_fin rfl (g_pass' rfl rfl (lt_of rfl) rfl (lt_of rfl) (ov_en hS rfl)),
      fun S hS => g_fin rfl (g_pass' rfl rfl (lt_of rfl) rfl (lt_of rfl) (ov_en hS rfl)),
      fun S hS => g_fin rfl (g_pass' rfl rfl (lt_of rfl) rfl (lt_of rfl) (ov_en hS rfl)),
      fun S hS => g_fin rfl (g_pass' rfl rfl (lt_of rfl) rfl (lt_of rfl) (ov_en hS rfl)),
      fun S hS => g_fin rfl (g_pass' rfl rfl (lt_of rfl) rfl (lt_of rfl) (ov_en hS rfl)),
      fun S hS => g_fin rfl (g_pass' rfl rfl (lt_of rfl) rfl (lt_of rfl) (ov_en hS rfl)),
      fun S hS => g_fin rfl (g_pass' rfl rfl (lt_of rfl) rfl (lt_of rfl) (ov_en hS rfl)),
      fun S hS => g_fin rfl (g_pass' rfl rfl (lt_of rfl) rfl (lt_of rfl) (ov_en hS rfl)),
      fun S hS => g_fin rfl (g_pass' rfl rfl (lt_of rfl) rfl (lt_of rfl) (ov_en hS rfl)),
      fun S hS => g_fin rfl (g_pass' rfl rfl (lt_of rfl) rfl (lt_of rfl) (ov_en hS rfl)),
      fun S hS => g_fin rfl (g_pass rfl rfl (lt_of rfl) rfl (lt_of rfl) (ov_en hS rfl) c11),
      fun S hS => g_fin rfl (g_take rfl rfl (lt_of rfl) (ov_en hS rfl) c6 (s_pick_f (v := .d (.lit (.bool false))) (lt_of rfl) (ov_ev hS rfl) c11 rfl rfl)),
      fun S hS => g_fin rfl (g_op rfl (s_pick_f (v := .d (.lit (.bool (false)))) (lt_of rfl) (ov_ev hS rfl) c6 (ov_ev hS rfl) rfl)), trivial⟩⟩
    · exact ent_le (le_upd rfl (le_keep trivial))
 ·refine tr1 rfl (s_assign (v := .d (.lit (.bool b4))) (lt_of rfl) rfl rfl) ?_
  refine tr_nil ?_
  have h := Option.some.inj h
  subst h
  refine tr_ent (ent_free (ble_keep (l := [2]) ⟨rfl, trivial⟩)) ?_
  exact tr_ret ⟨rfl, _, .one _, rfl, rfl⟩

theorem deucelaw08_ready_c (p_0 : ApiProgram) {r : Bool} (h : deucelaw08_ready p_0 = some r) : Fn Try.prog 21 [.agg (encApiProgram p_0)] (.d (.lit (.bool r))) := by
 unfold deucelaw08_ready at h
 refine Fn.of_tr Try.func21 rfl (rs := [.tmp 2]) Try.results21 Try.ntmps21 (Nat.le_of_ble_eq_true rfl) ?_
 refine tr_seq ?_
 refine tr_region ?_
 refine tr_op rfl (s_box (v := .agg (encApiProgram p_0)) (lt_of rfl) rfl rfl rfl) ?_
 rintro _ ⟨b1, rfl⟩
 refine tr1 rfl (s_assign (v := .d (.lit (.bool false))) (lt_of rfl) rfl rfl) ?_
 refine tr_nil ?_
 refine tr_seq ?_
 refine tr_region ?_
 refine tr1 rfl (s_loada_bp (lt_of rfl) rfl (i := 0) rfl agg_25 (es := (encApiProgram p_0)) rfl rfl) ?_
 obtain ⟨r2, h3, h⟩ := bind_some h
 refine tr1 rfl (s_call (lt_of rfl) (.func _ _ Try.call35) rfl rfl (BVs.refl _ _) (deucelaw08_Far_c _ h3) rfl) ?_
 refine tr1 rfl (s_not (lt_of rfl) rfl) ?_
 refine tr1 rfl (s_move (v := .d (.lit (.bool (!r2)))) (lt_of rfl) rfl rfl) ?_
 obtain ⟨b4, h5, h⟩ := bind_some h
 refine tr_guard 4 [] 10 b4 ?_ ?_
 ·refine bool_cases (!r2) (fun c6 => ?_) (fun c6 => ?_)
  ·have h5 := cond_tt c6 h5
   refine tr_take1 rfl rfl (lt_of rfl) rfl c6 (s_loada_bp (lt_of rfl) rfl (i := 0) rfl agg_25 (es := (encApiProgram p_0)) rfl rfl) ?_
   obtain ⟨r7, h8, h5⟩ := bind_some h5
   refine tr_take1 rfl rfl (lt_of rfl) rfl c6 (s_call (lt_of rfl) (.func _ _ Try.call14) rfl rfl (BVs.refl _ _) (deuceref08_Check_c _ h8) rfl) ?_
   refine tr_take1 rfl rfl (lt_of rfl) rfl c6 (s_cmp (lt_of rfl) rfl rfl rfl) ?_
   refine tr1 rfl (s_pick_t (v := .d (.lit (.bool ((decide (r7 = 0)))))) (lt_of rfl) rfl c6 rfl rfl) ?_
   have h5 := Option.some.inj h5
   subst h5
   refine tr_nil (ent_keep rfl trivial rfl)
  ·have h5 := cond_ff c6 h5
   refine tr_pass rfl rfl (lt_of rfl) rfl (lt_of rfl) rfl c6 ?_
   refine tr_pass rfl rfl (lt_of rfl) rfl (lt_of rfl) rfl c6 ?_
   refine tr_pass rfl rfl (lt_of rfl) rfl (lt_of rfl) rfl c6 ?_
   refine tr1 rfl (s_pick_f (v := .d (.lit (.bool false))) (lt_of rfl) rfl c6 rfl rfl) ?_
   have h5 := Option.some.inj h5
   subst h5
   refine tr_nil (ent_keep rfl trivial rfl)
 ·refine tr1 rfl (s_assign (v := .d (.lit (.bool b4))) (lt_of rfl) rfl rfl) ?_
  refine tr_nil ?_
  have h := Option.some.inj h
  subst h
  refine tr_ent (ent_free (ble_keep (l := [2]) ⟨rfl, trivial⟩)) ?_
  exact tr_ret ⟨rfl, _, .one _, rfl, rfl⟩

theorem deuceref08_Copy_c (p_0 : ApiProgram) {r : ApiProgram} (h : deuceref08_Copy p_0 = some r) : Fn Try.prog 22 [.agg (encApiProgram p_0)] (.agg (encApiProgram r)) := by
 unfold deuceref08_Copy at h
 refine acalls_of_trw Try.func22 rfl (rs := [.cell 2 25]) Try.results22 Try.ntmps22 (Nat.le_of_ble_eq_true rfl) ?_
 refine tr_seq ?_
 refine tr_region ?_
 refine tr_op rfl (s_box (v := .agg (encApiProgram p_0)) (lt_of rfl) rfl rfl rfl) ?_
 rintro _ ⟨b1, rfl⟩
 refine tr_op rfl (s_alloc (zs := [.sl 1 ((([] : List (List ApiSpan))).map encSl_ApiSpan), .lit (.int .i64 0), .sl 6 ((([] : List ApiJob)).map encApiJob)]) (lt_of rfl) Try.zeroValue25 rfl rfl) ?_
 rintro _ ⟨b2, rfl⟩
 refine tr_nil ?_
 refine tr_seq ?_
 refine tr_region ?_
 refine tr1 rfl (s_field_bp (lt_of rfl) rfl fld_25_1) ?_
 refine tr1 rfl (s_load_bp (lt_of rfl) rfl (i := 0) rfl rfl one_3) ?_
 refine tr1 rfl (s_build (lt_of rfl) stu_25 (zs := [.lit (.slice none 0 0), .lit (.int .i64 0), .lit (.slice none 0 0)]) rfl rfl rfl rfl (es := [.lit (.slice none 0 0), .lit (.int .i64 p_0.Rest), .lit (.slice none 0 0)]) rfl) ?_
 refine tr_op rfl (s_alloc (zs := [.lit (.slice none 0 0), .lit (.int .i64 0), .lit (.slice none 0 0)]) (lt_of rfl) Try.zeroValue25 rfl rfl) ?_
 rintro _ ⟨b3, rfl⟩
 refine trl_ent (ent_nilarr 37 1) ?_
 refine trl_ent (ent_nilarr 36 6) ?_
 refine tr1 rfl (s_store_bp (i := 2) rfl rfl rfl rfl rfl Try.sizeOf25 rfl (lt_of rfl) (Nat.le_of_ble_eq_true rfl) (ds' := [.lit (.slice none 0 0), .lit (.int .i64 p_0.Rest), .lit (.slice none 0 0)]) rfl) ?_
 refine tr_nil ?_
 refine tr_seq ?_
 refine tr_seq ?_
 refine tr_region ?_
 refine tr1 rfl (s_assign (v := .d (.lit (.int .i64 0))) (lt_of rfl) rfl rfl) ?_
 refine tr_nil ?_
 refine tr_blk ?_
 refine tr_loopk [1, 2, 3] (fun (s4 : Int × (List (List ApiSpan)) × Int × Value) => [(4, .d (.lit (.int .i64 s4.1)))]) (fun (s4 : Int × (List (List ApiSpan)) × Int × Value) => [.box b1 0 (encApiProgram p_0), .box b2 0 (encApiProgram (ApiProgram.mk ([] : List (List ApiSpan)) 0 ([] : List ApiJob))), .arr s4.2.2.2 37 1 (s4.2.1.map encSl_ApiSpan), .arr (.slice none 0 0) 36 6 (([] : List ApiJob).map encApiJob), .box b3 0 [.lit s4.2.2.2, .lit (.int .i64 s4.2.2.1), .lit (.slice none 0 0)]]) (fun (k : Nat) (s4 : Int × (List (List ApiSpan)) × Int × Value) => deuceref08_Copy_L0 p_0 (ApiProgram.mk ([] : List (List ApiSpan)) 0 ([] : List ApiJob)) ([] : List ApiJob) k s4.1 s4.2.1 s4.2.2.1) (fun _ => rfl) (0, ([] : List (List ApiSpan)), p_0.Rest, (.slice none 0 0)) h (ent_pick [0, 1, 3, 4, 2] rfl rfl (le_upd rfl (le_keep ⟨rfl, rfl, rfl, trivial⟩))) ?_
 rintro k6 ⟨d_0_4, o_0_4, o_0_4_3, w5⟩ h
 simp only [deuceref08_Copy_L0] at h
 refine tr_seq ?_
 refine tr_seq ?_
 refine tr_region ?_
 refine tr1 rfl (s_move (v := .d (.lit (.int .i64 d_0_4))) (lt_of rfl) rfl rfl) ?_
 refine tr1 rfl (s_field_bp (lt_of rfl) rfl fld_25_0) ?_
 refine tr1 rfl (s_load_bp (lt_of rfl) rfl (i := 0) rfl rfl one_22) ?_
 refine tr1 rfl (s_lenm (lt_of rfl) rfl sl_22.of) ?_
 refine tr1 rfl (s_cmp (lt_of rfl) rfl rfl rfl) ?_
 refine tr_nil ?_
 refine tr_if rfl (fun c7 => ?_) (fun c7 => ?_)
 ·have h := cond_tt c7 h
  refine tr_skip ?_
  refine tr_seq ?_
  refine tr_blk ?_
  obtain ⟨x9, h10, h⟩ := bind_some h
  obtain ⟨x11, h12, h⟩ := bind_some h
  refine tr_drawxk mix 10 [1, 2, 3, 4] (fun X8 => [(18, .d (.lit w5)), (26, .d (.sl 1 (([x11]).map encSl_ApiSpan)))]) (fun X8 => [.box b1 0 (encApiProgram p_0), .box b2 0 (encApiProgram (ApiProgram.mk ([] : List (List ApiSpan)) 0 ([] : List ApiJob))), .arr w5 37 1 (o_0_4.map encSl_ApiSpan), .arr (.slice none 0 0) 36 6 (([] : List ApiJob).map encApiJob), .box b3 0 [.lit w5, .lit (.int .i64 o_0_4_3), .lit (.slice none 0 0)]]) ?_ ?_
  ·refine ⟨0, fun X8 => [(17, 0, .bp b3 0 0), (18, 1, .d (.lit w5)), (19, 2, .fl true 2 (([] : List ApiSpan).map encApiSpan)), (20, 3, .bp b1 0 0), (21, 4, .d (.sl 1 (p_0.Days.map encSl_ApiSpan))), (22, 5, .d (.lit (.int .i64 d_0_4))), (23, 6, .cp [.sl 2 (x9.map encApiSpan)]), (24, 7, .d (.sl 2 (x9.map encApiSpan))), (25, 8, .d (.sl 2 (x11.map encApiSpan))), (26, 9, .d (.sl 1 (([x11]).map encSl_ApiSpan)))], fun X8 => [([], .box b1 0 (encApiProgram p_0)), ([], .box b2 0 (encApiProgram (ApiProgram.mk ([] : List (List ApiSpan)) 0 ([] : List ApiJob)))), ([], .arr w5 37 1 (o_0_4.map encSl_ApiSpan)), ([], .arr (.slice none 0 0) 36 6 (([] : List ApiJob).map encApiJob)), ([], .box b3 0 [.lit w5, .lit (.int .i64 o_0_4_3), .lit (.slice none 0 0)])], ?_, ?_⟩
   · exact ⟨by kernel_rfl, by kernel_rfl, by kernel_rfl, fun _ => by kernel_rfl, fun _ => by kernel_rfl, fun _ => by kernel_rfl, fun _ => rfl, [([], []), ([0], []), ([], [8]), ([], [8]), ([3], [8]), ([], [8]), ([4, 5], [8]), ([6], [8]), ([2, 7], []), ([8], [])], by kernel_rfl, ⟨fun X8 S hw hi hS => x_pure (X := X8) rfl (hw X8) rfl (g_op rfl (s_field_bp (lt_of rfl) (ov_ev hS rfl) fld_25_0)),
      fun X8 S hw hi hS => x_pure (X := X8) rfl (hw X8) rfl (g_op rfl (s_load_bp (lt_of rfl) (ov_ev hS rfl) (i := 4) (og hS rfl rfl) rfl one_22)),
      fun X8 S hw hi hS => x_pure (X := X8) rfl (hw X8) rfl (g_op rfl (s_lit_fl (lt_of rfl) sl_37 rfl pan (rows := (([] : List ApiSpan)).map encApiSpan) rfl (map_len (f := encApiSpan) fun _ => rfl) rfl (by decide))),
      fun X8 S hw hi hS => x_pure (X := X8) rfl (hw X8) rfl (g_op rfl (s_field_bp (lt_of rfl) (ov_ev hS rfl) fld_25_0)),
      fun X8 S hw hi hS => x_pure (X := X8) rfl (hw X8) rfl (g_op rfl (s_load_bp (lt_of rfl) (ov_ev hS rfl) (i := 0) (og hS rfl rfl) rfl one_22)),
      fun X8 S hw hi hS => x_pure (X := X8) rfl (hw X8) rfl (g_op rfl (s_move (v := .d (.lit (.int .i64 d_0_4))) (lt_of rfl) (ov_ev hS rfl) rfl)),
      fun X8 S hw hi hS => x_pure (X := X8) rfl (hw X8) rfl (g_op rfl (s_index_sl (lt_of rfl) (ov_ev hS rfl) (ov_ev hS rfl) sl_22.of (idx_map encSl_ApiSpan h10))),
      fun X8 S hw hi hS => x_pure (X := X8) rfl (hw X8) rfl (g_op rfl (s_load_cp (lt_of rfl) (ov_ev hS rfl) one_37)),
      fun X8 S hw hi hS => x_pure (X := X8) rfl (hw X8) rfl (g_op rfl (s_weak (.d (.weak _ _)) (s_appendf (nn := true) (f := encApiSpan) (xs := ([] : List ApiSpan)) (ys := x9) (lt_of rfl) sl_37 (ov_ev hS rfl) (ov_ev hS rfl) (fun _ => rfl) h12 rfl))),
      fun X8 S hw hi hS => x_pure (X := X8) rfl (hw X8) rfl (g_op rfl (s_lit_sl (lt_of rfl) sl_22 rfl (pa2 (ov_ev hS rfl) pan) (rows := ([x11]).map encSl_ApiSpan) rfl (map_len (f := encSl_ApiSpan) fun _ => rfl) rfl (by decide))), trivial⟩⟩
   · exact fun X8 => ent_le (le_upd rfl (le_upd rfl (le_keep ⟨rfl, rfl, rfl, rfl, trivial⟩)))
  ·intro X8
   obtain ⟨x13, h14, h⟩ := bind_some h
   refine tr_op rfl (s_appendm (i := 2) (lt_of rfl) sl_22 rfl rfl rfl (fun _ => rfl) h14 rfl) ?_
   rintro _ ⟨v15, rfl⟩
   refine tr1 rfl (s_field_bp (lt_of rfl) rfl fld_25_0) ?_
   refine tr1 rfl (s_store_bp (i := 4) rfl rfl rfl rfl rfl Try.sizeOf22 rfl (lt_of rfl) (Nat.le_of_ble_eq_true rfl) (ds' := [.lit v15, .lit (.int .i64 o_0_4_3), .lit (.slice none 0 0)]) rfl) ?_
   refine tr_nilb ?_
   refine tr_region ?_
   refine tr1 rfl (s_move (v := .d (.lit (.int .i64 d_0_4))) (lt_of rfl) rfl rfl) ?_
   refine tr1 rfl (s_arith (lt_of rfl) rfl rfl rfl) ?_
   refine tr1 rfl (s_assign (v := .d (.lit (.int .i64 ((w64 (d_0_4 + 1)))))) (lt_of rfl) rfl rfl) ?_
   refine tr_nil ?_
   exact ⟨(w64 (d_0_4 + 1), x13, o_0_4_3, v15), h, ent_pick [0, 1, 2, 3, 4] rfl rfl (le_upd rfl (le_keep ⟨rfl, rfl, rfl, trivial⟩))⟩
 ·have h := cond_ff c7 h
  refine tr_exit ?_
  refine .inl ⟨rfl, ?_⟩
  simp only [deuceref08_Copy_K0] at h
  refine tr_seq ?_
  refine tr_seq ?_
  refine tr_region ?_
  refine tr1 rfl (s_assign (v := .d (.lit (.int .i64 0))) (lt_of rfl) rfl rfl) ?_
  refine tr_nil ?_
  refine tr_blk ?_
  refine tr_loopk [1, 2, 3] (fun (s16 : Int × (List ApiJob) × Int × Value) => [(5, .d (.lit (.int .i64 s16.1)))]) (fun (s16 : Int × (List ApiJob) × Int × Value) => [.box b1 0 (encApiProgram p_0), .box b2 0 (encApiProgram (ApiProgram.mk ([] : List (List ApiSpan)) 0 ([] : List ApiJob))), .arr w5 37 1 (o_0_4.map encSl_ApiSpan), .arr s16.2.2.2 36 6 (s16.2.1.map encApiJob), .box b3 0 [.lit w5, .lit (.int .i64 s16.2.2.1), .lit s16.2.2.2]]) (fun (k : Nat) (s16 : Int × (List ApiJob) × Int × Value) => deuceref08_Copy_L2 p_0 (ApiProgram.mk ([] : List (List ApiSpan)) 0 ([] : List ApiJob)) o_0_4 k s16.1 s16.2.1 s16.2.2.1) (fun _ => rfl) (0, ([] : List ApiJob), o_0_4_3, (.slice none 0 0)) h (ent_pick [0, 1, 2, 3, 4] rfl rfl (le_upd rfl (le_keep ⟨rfl, rfl, rfl, trivial⟩))) ?_
  rintro k18 ⟨i_2_16, o_2_16_2, o_2_16_3, w17⟩ h
  simp only [deuceref08_Copy_L2] at h
  refine tr_seq ?_
  refine tr_seq ?_
  refine tr_region ?_
  refine tr1 rfl (s_move (v := .d (.lit (.int .i64 i_2_16))) (lt_of rfl) rfl rfl) ?_
  refine tr1 rfl (s_field_bp (lt_of rfl) rfl fld_25_2) ?_
  refine tr1 rfl (s_load_bp (lt_of rfl) rfl (i := 0) rfl rfl one_23) ?_
  refine tr1 rfl (s_lenm (lt_of rfl) rfl sl_23.of) ?_
  refine tr1 rfl (s_cmp (lt_of rfl) rfl rfl rfl) ?_
  refine tr_nil ?_
  refine tr_if rfl (fun c19 => ?_) (fun c19 => ?_)
  ·have h := cond_tt c19 h
   refine tr_skip ?_
   refine tr_seq ?_
   refine tr_blk ?_
   refine tr_seq ?_
   refine tr_region ?_
   refine tr1 rfl (s_field_bp (lt_of rfl) rfl fld_25_2) ?_
   refine tr1 rfl (s_load_bp (lt_of rfl) rfl (i := 0) rfl rfl one_23) ?_
   refine tr1 rfl (s_move (v := .d (.lit (.int .i64 i_2_16))) (lt_of rfl) rfl rfl) ?_
   obtain ⟨x20, h21, h⟩ := bind_some h
   refine tr1 rfl (s_index_sl (lt_of rfl) rfl rfl sl_23.of (idx_map encApiJob h21)) ?_
   refine tr1 rfl (s_loada_cp (lt_of rfl) rfl agg_36 (es := (encApiJob x20)) rfl rfl) ?_
   refine tr_op rfl (s_alloc (zs := [.lit (.int .i64 0), .lit (.int .i64 0), .sl 1 ((([] : List Int)).map encI), .sl 1 ((([] : List Int)).map encI), .lit (.int .i64 0), .lit (.int .i64 0)]) (lt_of rfl) Try.zeroValue36 rfl rfl) ?_
   rintro _ ⟨b22, rfl⟩
   refine tr1 rfl (s_store_bp (i := 5) rfl rfl rfl rfl rfl Try.sizeOf36 rfl (lt_of rfl) (Nat.le_of_ble_eq_true rfl) (ds' := (encApiJob x20)) rfl) ?_
   refine tr_nil ?_
   refine tr_seq ?_
   obtain ⟨x24, h25, h⟩ := bind_some h
   obtain ⟨x26, h27, h⟩ := bind_some h
   refine tr_drawxk mix 9 [1, 2, 3, 5, 6] (fun X23 => [(44, .d (.sl 1 (x24.map encI))), (48, .d (.sl 1 (x26.map encI))), (49, .bp b22 0 2)]) (fun X23 => [.box b1 0 (encApiProgram p_0), .box b2 0 (encApiProgram (ApiProgram.mk ([] : List (List ApiSpan)) 0 ([] : List ApiJob))), .arr w5 37 1 (o_0_4.map encSl_ApiSpan), .arr w17 36 6 (o_2_16_2.map encApiJob), .box b3 0 [.lit w5, .lit (.int .i64 o_2_16_3), .lit w17], .box b22 0 (encApiJob x20)]) ?_ ?_
   ·refine ⟨0, fun X23 => [(41, 0, .fl true 1 (([] : List Int).map encI)), (42, 1, .bp b22 0 2), (43, 2, .d (.sl 1 (x20.After.map encI))), (44, 3, .d (.sl 1 (x24.map encI))), (45, 4, .fl true 1 (([] : List Int).map encI)), (46, 5, .bp b22 0 3), (47, 6, .d (.sl 1 (x20.With.map encI))), (48, 7, .d (.sl 1 (x26.map encI))), (49, 8, .bp b22 0 2)], fun X23 => [([], .box b1 0 (encApiProgram p_0)), ([], .box b2 0 (encApiProgram (ApiProgram.mk ([] : List (List ApiSpan)) 0 ([] : List ApiJob)))), ([], .arr w5 37 1 (o_0_4.map encSl_ApiSpan)), ([], .arr w17 36 6 (o_2_16_2.map encApiJob)), ([], .box b3 0 [.lit w5, .lit (.int .i64 o_2_16_3), .lit w17]), ([], .box b22 0 (encApiJob x20))], ?_, ?_⟩
    · exact ⟨by kernel_rfl, by kernel_rfl, by kernel_rfl, fun _ => by kernel_rfl, fun _ => by kernel_rfl, fun _ => by kernel_rfl, fun _ => rfl, [([], [3, 7]), ([], [3, 7]), ([1], [3, 7]), ([0, 2], [7]), ([], [7]), ([], [7]), ([5], [7]), ([3, 4, 6], []), ([3], [])], by kernel_rfl, ⟨fun X23 S hw hi hS => x_pure (X := X23) rfl (hw X23) rfl (g_op rfl (s_lit_fl (lt_of rfl) sl_27 rfl pan (rows := (([] : List Int)).map encI) rfl (map_len (f := encI) fun _ => rfl) rfl (by decide))),
      fun X23 S hw hi hS => x_pure (X := X23) rfl (hw X23) rfl (g_op rfl (s_field_bp (lt_of rfl) (ov_ev hS rfl) fld_36_1)),
      fun X23 S hw hi hS => x_pure (X := X23) rfl (hw X23) rfl (g_op rfl (s_load_bp (lt_of rfl) (ov_ev hS rfl) (i := 5) (og hS rfl rfl) rfl one_27)),
      fun X23 S hw hi hS => x_pure (X := X23) rfl (hw X23) rfl (g_op rfl (s_weak (.d (.weak _ _)) (s_appendf (nn := true) (f := encI) (xs := ([] : List Int)) (ys := x20.After) (lt_of rfl) sl_27 (ov_ev hS rfl) (ov_ev hS rfl) (fun _ => rfl) h25 rfl))),
      fun X23 S hw hi hS => x_pure (X := X23) rfl (hw X23) rfl (g_op rfl (s_lit_fl (lt_of rfl) sl_27 rfl pan (rows := (([] : List Int)).map encI) rfl (map_len (f := encI) fun _ => rfl) rfl (by decide))),
      fun X23 S hw hi hS => x_pure (X := X23) rfl (hw X23) rfl (g_op rfl (s_field_bp (lt_of rfl) (ov_ev hS rfl) fld_36_2)),
      fun X23 S hw hi hS => x_pure (X := X23) rfl (hw X23) rfl (g_op rfl (s_load_bp (lt_of rfl) (ov_ev hS rfl) (i := 5) (og hS rfl rfl) rfl one_27)),
      fun X23 S hw hi hS => x_pure (X := X23) rfl (hw X23) rfl (g_op rfl (s_weak (.d (.weak _ _)) (s_appendf (nn := true) (f := encI) (xs := ([] : List Int)) (ys := x20.With) (lt_of rfl) sl_27 (ov_ev hS rfl) (ov_ev hS rfl) (fun _ => rfl) h27 rfl))),
      fun X23 S hw hi hS => x_pure (X := X23) rfl (hw X23) rfl (g_op rfl (s_field_bp (lt_of rfl) (ov_ev hS rfl) fld_36_1)), trivial⟩⟩
    · exact fun X23 => ent_le (le_upd rfl (le_upd rfl (le_upd rfl (le_keep ⟨rfl, rfl, rfl, rfl, rfl, trivial⟩))))
   ·intro X23
    refine tr1 rfl (s_store_bp (i := 5) rfl rfl rfl rfl rfl Try.sizeOf27 rfl (lt_of rfl) (Nat.le_of_ble_eq_true rfl) (ds' := (encApiJob (ApiJob.mk x20.Length x24 x20.With x20.Due x20.Earliest))) rfl) ?_
    refine tr1 rfl (s_field_bp (lt_of rfl) rfl fld_36_2) ?_
    refine tr1 rfl (s_store_bp (i := 5) rfl rfl rfl rfl rfl Try.sizeOf27 rfl (lt_of rfl) (Nat.le_of_ble_eq_true rfl) (ds' := (encApiJob (ApiJob.mk x20.Length x24 x26 x20.Due x20.Earliest))) rfl) ?_
    refine tr_nil ?_
    refine tr_region ?_
    refine tr1 rfl (s_field_bp (lt_of rfl) rfl fld_25_2) ?_
    refine tr1 rfl (s_load_bp (lt_of rfl) rfl (i := 4) rfl rfl one_23) ?_
    refine tr1 rfl (s_loada_bp (lt_of rfl) rfl (i := 5) rfl agg_36 (es := (encApiJob (ApiJob.mk x20.Length x24 x26 x20.Due x20.Earliest))) rfl rfl) ?_
    refine tr1 rfl (s_lit_sl (lt_of rfl) sl_23 rfl rfl (rows := ([(ApiJob.mk x20.Length x24 x26 x20.Due x20.Earliest)]).map encApiJob) rfl (map_len (f := encApiJob) fun _ => rfl) rfl (by decide)) ?_
    obtain ⟨x28, h29, h⟩ := bind_some h
    refine tr_op rfl (s_appendm (i := 3) (lt_of rfl) sl_23 rfl rfl rfl (fun _ => rfl) h29 rfl) ?_
    rintro _ ⟨v30, rfl⟩
    refine tr1 rfl (s_field_bp (lt_of rfl) rfl fld_25_2) ?_
    refine tr1 rfl (s_store_bp (i := 4) rfl rfl rfl rfl rfl Try.sizeOf23 rfl (lt_of rfl) (Nat.le_of_ble_eq_true rfl) (ds' := [.lit w5, .lit (.int .i64 o_2_16_3), .lit v30]) rfl) ?_
    refine tr_nilb ?_
    refine tr_region ?_
    refine tr1 rfl (s_move (v := .d (.lit (.int .i64 i_2_16))) (lt_of rfl) rfl rfl) ?_
    refine tr1 rfl (s_arith (lt_of rfl) rfl rfl rfl) ?_
    refine tr1 rfl (s_assign (v := .d (.lit (.int .i64 ((w64 (i_2_16 + 1)))))) (lt_of rfl) rfl rfl) ?_
    refine tr_nil ?_
    exact ⟨(w64 (i_2_16 + 1), x28, o_2_16_3, v30), h, ent_pick [0, 1, 2, 3, 4] rfl rfl (le_upd rfl (le_keep ⟨rfl, rfl, rfl, trivial⟩))⟩
  ·have h := cond_ff c19 h
   refine tr_exit ?_
   refine .inl ⟨rfl, ?_⟩
   simp only [deuceref08_Copy_K2] at h
   refine tr_seq ?_
   refine tr_region ?_
   refine tr1 rfl (s_loada_bp (lt_of rfl) rfl (i := 4) rfl agg_25 (es := [.lit w5, .lit (.int .i64 o_2_16_3), .lit w17]) rfl rfl) ?_
   refine tr1 rfl (s_store_bp (i := 1) rfl rfl rfl rfl rfl Try.sizeOf25 rfl (lt_of rfl) (Nat.le_of_ble_eq_true rfl) (ds' := [.lit w5, .lit (.int .i64 o_2_16_3), .lit w17]) rfl) ?_
   refine tr_nil ?_
   have h := Option.some.inj h
   subst h
   exact tr_ret ⟨rfl, _, [.box b1 0 (encApiProgram p_0), .box b2 0 [.lit w5, .lit (.int .i64 o_2_16_3), .lit w17], .arr w5 37 1 (o_0_4.map encSl_ApiSpan), .arr w17 36 6 (o_2_16_2.map encApiJob), .box b3 0 [.lit w5, .lit (.int .i64 o_2_16_3), .lit w17]], .one (.cell 2 25 rfl (i := 1) rfl agg_25 (es := [.lit w5, .lit (.int .i64 o_2_16_3), .lit w17]) rfl rfl), .refl _, .agg (dvc (dv_arr 2 rfl (map_len (f := encSl_ApiSpan) fun _ => rfl)) (dvc (.same _) (dvc (dv_arr 3 rfl (map_len (f := encApiJob) fun _ => rfl)) dvn)))⟩

theorem deuceref08_Copy_co (p_0 : ApiProgram) {r : ApiProgram} (h : deuceref08_Copy p_0 = some r) : ACalls Try.prog 22 [.agg (encApiProgram p_0)] [] (fun r' o' => ∃ (w0 : Value) (vs0 : List Value) (w2 : Value), r' = .agg [.lit w0, .lit (.int .i64 r.Rest), .lit w2] ∧ o' = [.arr w0 37 1 (vs0.map fun v => [.lit v]), .fam 34 2 vs0 (r.Days.map fun r => r.map encApiSpan), .arr w2 36 6 (r.Jobs.map encApiJob)]) := by
 unfold deuceref08_Copy at h
 refine acalls_trq Try.func22 rfl (rs := [.cell 2 25]) Try.results22 Try.ntmps22 (Nat.le_of_ble_eq_true rfl) ?_
 refine tr_seq ?_
 refine tr_region ?_
 refine tr_op rfl (s_box (v := .agg (encApiProgram p_0)) (lt_of rfl) rfl rfl rfl) ?_
 rintro _ ⟨b1, rfl⟩
 refine tr_op rfl (s_alloc (zs := [.sl 1 ((([] : List (List ApiSpan))).map encSl_ApiSpan), .lit (.int .i64 0), .sl 6 ((([] : List ApiJob)).map encApiJob)]) (lt_of rfl) Try.zeroValue25 rfl rfl) ?_
 rintro _ ⟨b2, rfl⟩
 refine tr_nil ?_
 refine tr_seq ?_
 refine tr_region ?_
 refine tr1 rfl (s_field_bp (lt_of rfl) rfl fld_25_1) ?_
 refine tr1 rfl (s_load_bp (lt_of rfl) rfl (i := 0) rfl rfl one_3) ?_
 refine tr1 rfl (s_build (lt_of rfl) stu_25 (zs := [.lit (.slice none 0 0), .lit (.int .i64 0), .lit (.slice none 0 0)]) rfl rfl rfl rfl (es := [.lit (.slice none 0 0), .lit (.int .i64 p_0.Rest), .lit (.slice none 0 0)]) rfl) ?_
 refine tr_op rfl (s_alloc (zs := [.lit (.slice none 0 0), .lit (.int .i64 0), .lit (.slice none 0 0)]) (lt_of rfl) Try.zeroValue25 rfl rfl) ?_
 rintro _ ⟨b3, rfl⟩
 refine trl_ent (ent_nilarr 37 1) ?_
 refine trl_ent (ent_nilfam 34 2) ?_
 refine trl_ent (ent_nilarr 36 6) ?_
 refine tr1 rfl (s_store_bp (i := 2) rfl rfl rfl rfl rfl Try.sizeOf25 rfl (lt_of rfl) (Nat.le_of_ble_eq_true rfl) (ds' := [.lit (.slice none 0 0), .lit (.int .i64 p_0.Rest), .lit (.slice none 0 0)]) rfl) ?_
 refine tr_nil ?_
 refine tr_seq ?_
 refine tr_seq ?_
 refine tr_region ?_
 refine tr1 rfl (s_assign (v := .d (.lit (.int .i64 0))) (lt_of rfl) rfl rfl) ?_
 refine tr_nil ?_
 refine tr_blk ?_
 refine tr_loopk [1, 2, 3] (fun (s4 : Int × (List (List ApiSpan)) × Int × (List Value) × Value) => [(4, .d (.lit (.int .i64 s4.1)))]) (fun (s4 : Int × (List (List ApiSpan)) × Int × (List Value) × Value) => [.box b1 0 (encApiProgram p_0), .box b2 0 (encApiProgram (ApiProgram.mk ([] : List (List ApiSpan)) 0 ([] : List ApiJob))), .fam 34 2 s4.2.2.2.1 (s4.2.1.map fun r => r.map encApiSpan), .arr (.slice none 0 0) 36 6 (([] : List ApiJob).map encApiJob), .arr s4.2.2.2.2 37 1 (s4.2.2.2.1.map fun v => [.lit v]), .box b3 0 [.lit s4.2.2.2.2, .lit (.int .i64 s4.2.2.1), .lit (.slice none 0 0)]]) (fun (k : Nat) (s4 : Int × (List (List ApiSpan)) × Int × (List Value) × Value) => deuceref08_Copy_L0 p_0 (ApiProgram.mk ([] : List (List ApiSpan)) 0 ([] : List ApiJob)) ([] : List ApiJob) k s4.1 s4.2.1 s4.2.2.1) (fun _ => rfl) (0, ([] : List (List ApiSpan)), p_0.Rest, [], (.slice none 0 0)) h (ent_pick [0, 1, 4, 5, 3, 2] rfl rfl (le_upd rfl (le_keep ⟨rfl, rfl, rfl, trivial⟩))) ?_
 rintro k7 ⟨d_0_4, o_0_4, o_0_4_3, vs5, w6⟩ h
 simp only [deuceref08_Copy_L0] at h
 refine tr_seq ?_
 refine tr_seq ?_
 refine tr_region ?_
 refine tr1 rfl (s_move (v := .d (.lit (.int .i64 d_0_4))) (lt_of rfl) rfl rfl) ?_
 refine tr1 rfl (s_field_bp (lt_of rfl) rfl fld_25_0) ?_
 refine tr1 rfl (s_load_bp (lt_of rfl) rfl (i := 0) rfl rfl one_22) ?_
 refine tr1 rfl (s_lenm (lt_of rfl) rfl sl_22.of) ?_
 refine tr1 rfl (s_cmp (lt_of rfl) rfl rfl rfl) ?_
 refine tr_nil ?_
 refine tr_if rfl (fun c8 => ?_) (fun c8 => ?_)
 ·have h := cond_tt c8 h
  refine tr_skip ?_
  refine tr_seq ?_
  refine tr_blk ?_
  obtain ⟨x10, h11, h⟩ := bind_some h
  obtain ⟨x12, h13, h⟩ := bind_some h
  refine tr_drawxk mix 10 [1, 2, 3, 4] (fun X9 => [(18, .d (.lit w6)), (26, .d (.sl 1 [[.lit (X9 8).v]]))]) (fun X9 => [.box b1 0 (encApiProgram p_0), .box b2 0 (encApiProgram (ApiProgram.mk ([] : List (List ApiSpan)) 0 ([] : List ApiJob))), .fam 34 2 vs5 (o_0_4.map fun r => r.map encApiSpan), .arr (.slice none 0 0) 36 6 (([] : List ApiJob).map encApiJob), .arr w6 37 1 (vs5.map fun v => [.lit v]), .box b3 0 [.lit w6, .lit (.int .i64 o_0_4_3), .lit (.slice none 0 0)], .arr (X9 8).v 34 2 (x12.map encApiSpan)]) ?_ ?_
  ·refine ⟨1, fun X9 => [(17, 0, .bp b3 0 0), (18, 1, .d (.lit w6)), (19, 2, .d (.lit (X9 2).v)), (20, 3, .bp b1 0 0), (21, 4, .d (.sl 1 (p_0.Days.map encSl_ApiSpan))), (22, 5, .d (.lit (.int .i64 d_0_4))), (23, 6, .cp [.sl 2 (x10.map encApiSpan)]), (24, 7, .d (.sl 2 (x10.map encApiSpan))), (25, 8, .d (.lit (X9 8).v)), (26, 9, .d (.sl 1 [[.lit (X9 8).v]]))], fun X9 => [([], .box b1 0 (encApiProgram p_0)), ([], .box b2 0 (encApiProgram (ApiProgram.mk ([] : List (List ApiSpan)) 0 ([] : List ApiJob)))), ([], .fam 34 2 vs5 (o_0_4.map fun r => r.map encApiSpan)), ([], .arr (.slice none 0 0) 36 6 (([] : List ApiJob).map encApiJob)), ([], .arr w6 37 1 (vs5.map fun v => [.lit v])), ([], .box b3 0 [.lit w6, .lit (.int .i64 o_0_4_3), .lit (.slice none 0 0)]), ([(8, .arr (X9 8).v 34 2 (x12.map encApiSpan)), (2, .arr (X9 2).v 34 2 (([] : List ApiSpan).map encApiSpan))], nob)], ?_, ?_⟩
   · exact ⟨by kernel_rfl, by kernel_rfl, by kernel_rfl, fun _ => by kernel_rfl, fun _ => by kernel_rfl, fun _ => by kernel_rfl, fun _ => rfl, [([], []), ([0], []), ([], [8]), ([], [8]), ([3], [8]), ([], [8]), ([4, 5], [8]), ([6], [8]), ([2, 7], [9]), ([2, 8], [])], by kernel_rfl, ⟨fun X9 S hw hi hS => x_pure (X := X9) rfl (hw X9) rfl (g_op rfl (s_field_bp (lt_of rfl) (ov_ev hS rfl) fld_25_0)),
      fun X9 S hw hi hS => x_pure (X := X9) rfl (hw X9) rfl (g_op rfl (s_load_bp (lt_of rfl) (ov_ev hS rfl) (i := 5) (og hS rfl rfl) rfl one_22)),
      fun X9 S hw hi hS => x_make (X := X9) (p := 6) (v := fun x => .d (.lit x.v)) (mo := fun x => .arr x.v 34 2 (([] : List ApiSpan).map encApiSpan)) hS hi rfl rfl (fun _ => rfl) hw (fun _ => rfl) (fun _ => rfl) (fun _ => rfl) (fun _ => ⟨rfl, rfl, .inr rfl, ⟨rfl, rfl, .inr rfl, ⟨rfl, rfl, .inl rfl, ⟨rfl, rfl, .inr rfl, ⟨rfl, rfl, .inr rfl, ⟨rfl, rfl, .inr rfl, ⟨rfl, rfl, .inr rfl, ⟨rfl, rfl, .inr rfl, ⟨rfl, rfl, .inr rfl, ⟨rfl, rfl, .inr rfl, trivial⟩⟩⟩⟩⟩⟩⟩⟩⟩⟩) (fun _ => ⟨trivial, rfl, ⟨trivial, rfl, ⟨trivial, rfl, ⟨trivial, rfl, ⟨trivial, rfl, ⟨trivial, rfl, ⟨⟨rfl, .inr rfl, ⟨rfl, .inl rfl, trivial⟩⟩, rfl, trivial⟩⟩⟩⟩⟩⟩⟩) (step_post (s_lit_arr (lt_of rfl) sl_37 rfl pan (rows := (([] : List ApiSpan)).map encApiSpan) rfl (map_len (f := encApiSpan) fun _ => rfl) rfl (by decide)) (by rintro _ ⟨w, rfl⟩; exact ⟨⟨0, w⟩, ent_pick [0, 1, 2, 3, 4, 5, 7] rfl rfl (le_refl _)⟩)),
      fun X9 S hw hi hS => x_pure (X := X9) rfl (hw X9) rfl (g_op rfl (s_field_bp (lt_of rfl) (ov_ev hS rfl) fld_25_0)),
      fun X9 S hw hi hS => x_pure (X := X9) rfl (hw X9) rfl (g_op rfl (s_load_bp (lt_of rfl) (ov_ev hS rfl) (i := 0) (og hS rfl rfl) rfl one_22)),
      fun X9 S hw hi hS => x_pure (X := X9) rfl (hw X9) rfl (g_op rfl (s_move (v := .d (.lit (.int .i64 d_0_4))) (lt_of rfl) (ov_ev hS rfl) rfl)),
      fun X9 S hw hi hS => x_pure (X := X9) rfl (hw X9) rfl (g_op rfl (s_index_sl (lt_of rfl) (ov_ev hS rfl) (ov_ev hS rfl) sl_22.of (idx_map encSl_ApiSpan h11))),
      fun X9 S hw hi hS => x_pure (X := X9) rfl (hw X9) rfl (g_op rfl (s_load_cp (lt_of rfl) (ov_ev hS rfl) one_37)),
      fun X9 S hw hi hS => x_make (X := X9) (p := 6) (v := fun x => .d (.lit x.v)) (mo := fun x => .arr x.v 34 2 (x12.map encApiSpan)) hS hi rfl rfl (fun _ => rfl) hw (fun _ => rfl) (fun _ => rfl) (fun _ => rfl) (fun _ => ⟨rfl, rfl, .inr rfl, ⟨rfl, rfl, .inr rfl, ⟨rfl, rfl, .inr rfl, ⟨rfl, rfl, .inr rfl, ⟨rfl, rfl, .inr rfl, ⟨rfl, rfl, .inr rfl, ⟨rfl, rfl, .inr rfl, ⟨rfl, rfl, .inr rfl, ⟨rfl, rfl, .inl rfl, ⟨rfl, rfl, .inl rfl, trivial⟩⟩⟩⟩⟩⟩⟩⟩⟩⟩) (fun _ => ⟨trivial, rfl, ⟨trivial, rfl, ⟨trivial, rfl, ⟨trivial, rfl, ⟨trivial, rfl, ⟨trivial, rfl, ⟨⟨rfl, .inl rfl, ⟨rfl, .inr rfl, trivial⟩⟩, rfl, trivial⟩⟩⟩⟩⟩⟩⟩) (step_post (s_appendm (i := 6) (lt_of rfl) sl_37 (ov_ev hS rfl) (og hS rfl rfl) (ov_ev hS rfl) (fun _ => rfl) h13 rfl) (by rintro _ ⟨w, rfl⟩; exact ⟨⟨0, w⟩, Ent.refl _⟩)),
      fun X9 S hw hi hS => x_pure (X := X9) rfl (hw X9) rfl (g_op rfl (s_lit_sl (lt_of rfl) sl_22 rfl (pa2 (ov_ev hS rfl) pan) (rows := [[.lit (X9 8).v]]) rfl (fun r hr => by cases hr with | head => rfl | tail _ h => cases h) rfl (by decide))), trivial⟩⟩
   · exact fun X9 => ent_le (le_upd rfl (le_upd rfl (le_keep ⟨rfl, rfl, rfl, rfl, trivial⟩)))
  ·intro X9
   obtain ⟨x14, h15, h⟩ := bind_some h
   refine tr_op rfl (s_append_fam (m := 4) (f := 2) (lt_of rfl) sl_22 rfl rfl rfl rfl h15 rfl) ?_
   rintro _ ⟨v16, rfl⟩
   refine trl_ent (ent_joinapp (i := 2) [.box b1 0 (encApiProgram p_0), .box b2 0 (encApiProgram (ApiProgram.mk ([] : List (List ApiSpan)) 0 ([] : List ApiJob))), .fam 34 2 vs5 (o_0_4.map fun r => r.map encApiSpan), .arr (.slice none 0 0) 36 6 (([] : List ApiJob).map encApiJob), .arr v16 37 1 ((vs5 ++ [(X9 8).v]).map fun v => [.lit v]), .box b3 0 [.lit w6, .lit (.int .i64 o_0_4_3), .lit (.slice none 0 0)]] [.box b1 0 (encApiProgram p_0), .box b2 0 (encApiProgram (ApiProgram.mk ([] : List (List ApiSpan)) 0 ([] : List ApiJob))), .fam 34 2 (vs5 ++ [(X9 8).v]) (x14.map fun r => r.map encApiSpan), .arr (.slice none 0 0) 36 6 (([] : List ApiJob).map encApiJob), .arr v16 37 1 ((vs5 ++ [(X9 8).v]).map fun v => [.lit v]), .box b3 0 [.lit w6, .lit (.int .i64 o_0_4_3), .lit (.slice none 0 0)]] rfl rfl h15 rfl) ?_
   refine tr1 rfl (s_field_bp (lt_of rfl) rfl fld_25_0) ?_
   refine tr1 rfl (s_store_bp (i := 5) rfl rfl rfl rfl rfl Try.sizeOf22 rfl (lt_of rfl) (Nat.le_of_ble_eq_true rfl) (ds' := [.lit v16, .lit (.int .i64 o_0_4_3), .lit (.slice none 0 0)]) rfl) ?_
   refine tr_nilb ?_
   refine tr_region ?_
   refine tr1 rfl (s_move (v := .d (.lit (.int .i64 d_0_4))) (lt_of rfl) rfl rfl) ?_
   refine tr1 rfl (s_arith (lt_of rfl) rfl rfl rfl) ?_
   refine tr1 rfl (s_assign (v := .d (.lit (.int .i64 ((w64 (d_0_4 + 1)))))) (lt_of rfl) rfl rfl) ?_
   refine tr_nil ?_
   exact ⟨(w64 (d_0_4 + 1), x14, o_0_4_3, (vs5 ++ [(X9 8).v]), v16), h, ent_pick [0, 1, 2, 3, 4, 5] rfl rfl (le_upd rfl (le_keep ⟨rfl, rfl, rfl, trivial⟩))⟩
 ·have h := cond_ff c8 h
  refine tr_exit ?_
  refine .inl ⟨rfl, ?_⟩
  simp only [deuceref08_Copy_K0] at h
  refine tr_seq ?_
  refine tr_seq ?_
  refine tr_region ?_
  refine tr1 rfl (s_assign (v := .d (.lit (.int .i64 0))) (lt_of rfl) rfl rfl) ?_
  refine tr_nil ?_
  refine tr_blk ?_
  refine tr_loopk [1, 2, 3] (fun (s17 : Int × (List ApiJob) × Int × Value) => [(5, .d (.lit (.int .i64 s17.1)))]) (fun (s17 : Int × (List ApiJob) × Int × Value) => [.box b1 0 (encApiProgram p_0), .box b2 0 (encApiProgram (ApiProgram.mk ([] : List (List ApiSpan)) 0 ([] : List ApiJob))), .fam 34 2 vs5 (o_0_4.map fun r => r.map encApiSpan), .arr s17.2.2.2 36 6 (s17.2.1.map encApiJob), .arr w6 37 1 (vs5.map fun v => [.lit v]), .box b3 0 [.lit w6, .lit (.int .i64 s17.2.2.1), .lit s17.2.2.2]]) (fun (k : Nat) (s17 : Int × (List ApiJob) × Int × Value) => deuceref08_Copy_L2 p_0 (ApiProgram.mk ([] : List (List ApiSpan)) 0 ([] : List ApiJob)) o_0_4 k s17.1 s17.2.1 s17.2.2.1) (fun _ => rfl) (0, ([] : List ApiJob), o_0_4_3, (.slice none 0 0)) h (ent_pick [0, 1, 2, 3, 4, 5] rfl rfl (le_upd rfl (le_keep ⟨rfl, rfl, rfl, trivial⟩))) ?_
  rintro k19 ⟨i_2_17, o_2_17_2, o_2_17_3, w18⟩ h
  simp only [deuceref08_Copy_L2] at h
  refine tr_seq ?_
  refine tr_seq ?_
  refine tr_region ?_
  refine tr1 rfl (s_move (v := .d (.lit (.int .i64 i_2_17))) (lt_of rfl) rfl rfl) ?_
  refine tr1 rfl (s_field_bp (lt_of rfl) rfl fld_25_2) ?_
  refine tr1 rfl (s_load_bp (lt_of rfl) rfl (i := 0) rfl rfl one_23) ?_
  refine tr1 rfl (s_lenm (lt_of rfl) rfl sl_23.of) ?_
  refine tr1 rfl (s_cmp (lt_of rfl) rfl rfl rfl) ?_
  refine tr_nil ?_
  refine tr_if rfl (fun c20 => ?_) (fun c20 => ?_)
  ·have h := cond_tt c20 h
   refine tr_skip ?_
   refine tr_seq ?_
   refine tr_blk ?_
   refine tr_seq ?_
   refine tr_region ?_
   refine tr1 rfl (s_field_bp (lt_of rfl) rfl fld_25_2) ?_
   refine tr1 rfl (s_load_bp (lt_of rfl) rfl (i := 0) rfl rfl one_23) ?_
   refine tr1 rfl (s_move (v := .d (.lit (.int .i64 i_2_17))) (lt_of rfl) rfl rfl) ?_
   obtain ⟨x21, h22, h⟩ := bind_some h
   refine tr1 rfl (s_index_sl (lt_of rfl) rfl rfl sl_23.of (idx_map encApiJob h22)) ?_
   refine tr1 rfl (s_loada_cp (lt_of rfl) rfl agg_36 (es := (encApiJob x21)) rfl rfl) ?_
   refine tr_op rfl (s_alloc (zs := [.lit (.int .i64 0), .lit (.int .i64 0), .sl 1 ((([] : List Int)).map encI), .sl 1 ((([] : List Int)).map encI), .lit (.int .i64 0), .lit (.int .i64 0)]) (lt_of rfl) Try.zeroValue36 rfl rfl) ?_
   rintro _ ⟨b23, rfl⟩
   refine tr1 rfl (s_store_bp (i := 6) rfl rfl rfl rfl rfl Try.sizeOf36 rfl (lt_of rfl) (Nat.le_of_ble_eq_true rfl) (ds' := (encApiJob x21)) rfl) ?_
   refine tr_nil ?_
   refine tr_seq ?_
   obtain ⟨x25, h26, h⟩ := bind_some h
   obtain ⟨x27, h28, h⟩ := bind_some h
   refine tr_drawxk mix 9 [1, 2, 3, 5, 6] (fun X24 => [(44, .d (.sl 1 (x25.map encI))), (48, .d (.sl 1 (x27.map encI))), (49, .bp b23 0 2)]) (fun X24 => [.box b1 0 (encApiProgram p_0), .box b2 0 (encApiProgram (ApiProgram.mk ([] : List (List ApiSpan)) 0 ([] : List ApiJob))), .fam 34 2 vs5 (o_0_4.map fun r => r.map encApiSpan), .arr w18 36 6 (o_2_17_2.map encApiJob), .arr w6 37 1 (vs5.map fun v => [.lit v]), .box b3 0 [.lit w6, .lit (.int .i64 o_2_17_3), .lit w18], .box b23 0 (encApiJob x21)]) ?_ ?_
   ·refine ⟨0, fun X24 => [(41, 0, .fl true 1 (([] : List Int).map encI)), (42, 1, .bp b23 0 2), (43, 2, .d (.sl 1 (x21.After.map encI))), (44, 3, .d (.sl 1 (x25.map encI))), (45, 4, .fl true 1 (([] : List Int).map encI)), (46, 5, .bp b23 0 3), (47, 6, .d (.sl 1 (x21.With.map encI))), (48, 7, .d (.sl 1 (x27.map encI))), (49, 8, .bp b23 0 2)], fun X24 => [([], .box b1 0 (encApiProgram p_0)), ([], .box b2 0 (encApiProgram (ApiProgram.mk ([] : List (List ApiSpan)) 0 ([] : List ApiJob)))), ([], .fam 34 2 vs5 (o_0_4.map fun r => r.map encApiSpan)), ([], .arr w18 36 6 (o_2_17_2.map encApiJob)), ([], .arr w6 37 1 (vs5.map fun v => [.lit v])), ([], .box b3 0 [.lit w6, .lit (.int .i64 o_2_17_3), .lit w18]), ([], .box b23 0 (encApiJob x21))], ?_, ?_⟩
    · exact ⟨by kernel_rfl, by kernel_rfl, by kernel_rfl, fun _ => by kernel_rfl, fun _ => by kernel_rfl, fun _ => by kernel_rfl, fun _ => rfl, [([], [3, 7]), ([], [3, 7]), ([1], [3, 7]), ([0, 2], [7]), ([], [7]), ([], [7]), ([5], [7]), ([3, 4, 6], []), ([3], [])], by kernel_rfl, ⟨fun X24 S hw hi hS => x_pure (X := X24) rfl (hw X24) rfl (g_op rfl (s_lit_fl (lt_of rfl) sl_27 rfl pan (rows := (([] : List Int)).map encI) rfl (map_len (f := encI) fun _ => rfl) rfl (by decide))),
      fun X24 S hw hi hS => x_pure (X := X24) rfl (hw X24) rfl (g_op rfl (s_field_bp (lt_of rfl) (ov_ev hS rfl) fld_36_1)),
      fun X24 S hw hi hS => x_pure (X := X24) rfl (hw X24) rfl (g_op rfl (s_load_bp (lt_of rfl) (ov_ev hS rfl) (i := 6) (og hS rfl rfl) rfl one_27)),
      fun X24 S hw hi hS => x_pure (X := X24) rfl (hw X24) rfl (g_op rfl (s_weak (.d (.weak _ _)) (s_appendf (nn := true) (f := encI) (xs := ([] : List Int)) (ys := x21.After) (lt_of rfl) sl_27 (ov_ev hS rfl) (ov_ev hS rfl) (fun _ => rfl) h26 rfl))),
      fun X24 S hw hi hS => x_pure (X := X24) rfl (hw X24) rfl (g_op rfl (s_lit_fl (lt_of rfl) sl_27 rfl pan (rows := (([] : List Int)).map encI) rfl (map_len (f := encI) fun _ => rfl) rfl (by decide))),
      fun X24 S hw hi hS => x_pure (X := X24) rfl (hw X24) rfl (g_op rfl (s_field_bp (lt_of rfl) (ov_ev hS rfl) fld_36_2)),
      fun X24 S hw hi hS => x_pure (X := X24) rfl (hw X24) rfl (g_op rfl (s_load_bp (lt_of rfl) (ov_ev hS rfl) (i := 6) (og hS rfl rfl) rfl one_27)),
      fun X24 S hw hi hS => x_pure (X := X24) rfl (hw X24) rfl (g_op rfl (s_weak (.d (.weak _ _)) (s_appendf (nn := true) (f := encI) (xs := ([] : List Int)) (ys := x21.With) (lt_of rfl) sl_27 (ov_ev hS rfl) (ov_ev hS rfl) (fun _ => rfl) h28 rfl))),
      fun X24 S hw hi hS => x_pure (X := X24) rfl (hw X24) rfl (g_op rfl (s_field_bp (lt_of rfl) (ov_ev hS rfl) fld_36_1)), trivial⟩⟩
    · exact fun X24 => ent_le (le_upd rfl (le_upd rfl (le_upd rfl (le_keep ⟨rfl, rfl, rfl, rfl, rfl, trivial⟩))))
   ·intro X24
    refine tr1 rfl (s_store_bp (i := 6) rfl rfl rfl rfl rfl Try.sizeOf27 rfl (lt_of rfl) (Nat.le_of_ble_eq_true rfl) (ds' := (encApiJob (ApiJob.mk x21.Length x25 x21.With x21.Due x21.Earliest))) rfl) ?_
    refine tr1 rfl (s_field_bp (lt_of rfl) rfl fld_36_2) ?_
    refine tr1 rfl (s_store_bp (i := 6) rfl rfl rfl rfl rfl Try.sizeOf27 rfl (lt_of rfl) (Nat.le_of_ble_eq_true rfl) (ds' := (encApiJob (ApiJob.mk x21.Length x25 x27 x21.Due x21.Earliest))) rfl) ?_
    refine tr_nil ?_
    refine tr_region ?_
    refine tr1 rfl (s_field_bp (lt_of rfl) rfl fld_25_2) ?_
    refine tr1 rfl (s_load_bp (lt_of rfl) rfl (i := 5) rfl rfl one_23) ?_
    refine tr1 rfl (s_loada_bp (lt_of rfl) rfl (i := 6) rfl agg_36 (es := (encApiJob (ApiJob.mk x21.Length x25 x27 x21.Due x21.Earliest))) rfl rfl) ?_
    refine tr1 rfl (s_lit_sl (lt_of rfl) sl_23 rfl rfl (rows := ([(ApiJob.mk x21.Length x25 x27 x21.Due x21.Earliest)]).map encApiJob) rfl (map_len (f := encApiJob) fun _ => rfl) rfl (by decide)) ?_
    obtain ⟨x29, h30, h⟩ := bind_some h
    refine tr_op rfl (s_appendm (i := 3) (lt_of rfl) sl_23 rfl rfl rfl (fun _ => rfl) h30 rfl) ?_
    rintro _ ⟨v31, rfl⟩
    refine tr1 rfl (s_field_bp (lt_of rfl) rfl fld_25_2) ?_
    refine tr1 rfl (s_store_bp (i := 5) rfl rfl rfl rfl rfl Try.sizeOf23 rfl (lt_of rfl) (Nat.le_of_ble_eq_true rfl) (ds' := [.lit w6, .lit (.int .i64 o_2_17_3), .lit v31]) rfl) ?_
    refine tr_nilb ?_
    refine tr_region ?_
    refine tr1 rfl (s_move (v := .d (.lit (.int .i64 i_2_17))) (lt_of rfl) rfl rfl) ?_
    refine tr1 rfl (s_arith (lt_of rfl) rfl rfl rfl) ?_
    refine tr1 rfl (s_assign (v := .d (.lit (.int .i64 ((w64 (i_2_17 + 1)))))) (lt_of rfl) rfl rfl) ?_
    refine tr_nil ?_
    exact ⟨(w64 (i_2_17 + 1), x29, o_2_17_3, v31), h, ent_pick [0, 1, 2, 3, 4, 5] rfl rfl (le_upd rfl (le_keep ⟨rfl, rfl, rfl, trivial⟩))⟩
  ·have h := cond_ff c20 h
   refine tr_exit ?_
   refine .inl ⟨rfl, ?_⟩
   simp only [deuceref08_Copy_K2] at h
   refine tr_seq ?_
   refine tr_region ?_
   refine tr1 rfl (s_loada_bp (lt_of rfl) rfl (i := 5) rfl agg_25 (es := [.lit w6, .lit (.int .i64 o_2_17_3), .lit w18]) rfl rfl) ?_
   refine tr1 rfl (s_store_bp (i := 1) rfl rfl rfl rfl rfl Try.sizeOf25 rfl (lt_of rfl) (Nat.le_of_ble_eq_true rfl) (ds' := [.lit w6, .lit (.int .i64 o_2_17_3), .lit w18]) rfl) ?_
   refine tr_nil ?_
   have h := Option.some.inj h
   subst h
   refine tr_ent (ent_pick [4, 2, 3, 0, 1, 5] rfl rfl (le_refl _)) ?_
   exact tr_ret ⟨rfl, _, [.arr w6 37 1 (vs5.map fun v => [.lit v]), .fam 34 2 vs5 (o_0_4.map fun r => r.map encApiSpan), .arr w18 36 6 (o_2_17_2.map encApiJob)], [.box b1 0 (encApiProgram p_0), .box b2 0 [.lit w6, .lit (.int .i64 o_2_17_3), .lit w18], .box b3 0 [.lit w6, .lit (.int .i64 o_2_17_3), .lit w18]], .one (.cell 2 25 rfl (i := 4) rfl agg_25 (es := [.lit w6, .lit (.int .i64 o_2_17_3), .lit w18]) rfl rfl), .refl _, w6, vs5, w18, rfl, rfl⟩

end Go.Am
