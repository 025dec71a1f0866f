/- The functions compute what the shallow ones say: printed by program. -/
import Derived.Test.YtikcmpflkibomaaPlayStuckSimP2
namespace Go.Am
open Go.Proofs
set_option maxRecDepth 100000
set_option maxHeartbeats 4000000

theorem deucelaw08_PlayStuck_c (p_0 : ApiProgram) {r : Bool} (h : deucelaw08_PlayStuck p_0 = some r) : Fn Try.prog 9 [.agg (encApiProgram p_0)] (.d (.lit (.bool r))) := by
  unfold deucelaw08_PlayStuck at h
  refine Fn.of_tr Try.func9 rfl (rs := [.tmp 2]) Try.results9 Try.ntmps9 (Nat.le_of_ble_eq_true rfl) ?_
  refine tr_seq ?_
  refine tr_region ?_
  refine tr_op rfl (s_box (v := .agg (encApiProgram p_0)) (lt_of rfl) rfl rfl rfl) ?_
  rintro _ ⟨b1, rfl⟩
  refine tr1 rfl (s_assign (v := .d (.lit (.bool false))) (lt_of rfl) rfl rfl) ?_
  refine tr_nil ?_
  refine tr_seq ?_
  refine tr_seq ?_
  refine tr_region ?_
  refine tr1 rfl (s_loada_bp (lt_of rfl) rfl (i := 0) rfl agg_25 (es := (encApiProgram p_0)) rfl rfl) ?_
  obtain ⟨r2, h3, h⟩ := bind_some h
  refine tr1 rfl (s_call (lt_of rfl) (.func _ _ Try.call21) rfl rfl (BVs.refl _ _) (deucelaw08_ready_c _ h3) rfl) ?_
  refine tr1 rfl (s_not (lt_of rfl) rfl) ?_
  refine tr_nil ?_
  refine tr_if rfl (fun c4 => ?_) (fun c4 => ?_)
  · have h := cond_tt c4 h
    refine tr_seq ?_
    refine tr_region ?_
    obtain ⟨r5, h6, h⟩ := bind_some h
    refine tr1 rfl (s_call (lt_of rfl) (.func _ _ Try.call16) rfl rfl (BVs.refl _ _) (deucelaw08_works_c h6) rfl) ?_
    refine tr1 rfl (s_assign (v := .d (.lit (.bool r5))) (lt_of rfl) rfl rfl) ?_
    refine tr_nil ?_
    have h := Option.some.inj h
    subst h
    refine tr_ent (ent_free (ble_keep (l := [2]) ⟨rfl, trivial⟩)) ?_
    exact tr_ret ⟨rfl, _, .one _, rfl, rfl⟩
  · have h := cond_ff c4 h
    refine tr_skip ?_
    refine tr_seq ?_
    refine tr_region ?_
    refine tr1 rfl (s_loada_bp (lt_of rfl) rfl (i := 0) rfl agg_25 (es := (encApiProgram p_0)) rfl rfl) ?_
    obtain ⟨r7, h8, h⟩ := bind_some h
    refine tr1 rfl (s_call (lt_of rfl) (.func _ _ Try.call39) rfl rfl (BVs.refl _ _) (play_Stuck_c _ h8) rfl) ?_
    refine tr1 rfl (s_move (v := .tup [.d (.lit (.int .i64 r7.1)), .d (.lit (.int .i64 r7.2))]) (lt_of rfl) rfl rfl) ?_
    refine tr1 rfl (s_extract (lt_of rfl) rfl rfl) ?_
    refine tr1 rfl (s_extract (lt_of rfl) rfl rfl) ?_
    refine tr1 rfl (s_assign (v := .d (.lit (.int .i64 r7.1))) (lt_of rfl) rfl rfl) ?_
    refine tr1 rfl (s_assign (v := .d (.lit (.int .i64 r7.2))) (lt_of rfl) rfl rfl) ?_
    refine tr_nil ?_
    refine tr_seq ?_
    refine tr_region ?_
    refine tr1 rfl (s_loada_bp (lt_of rfl) rfl (i := 0) rfl agg_25 (es := (encApiProgram p_0)) rfl rfl) ?_
    obtain ⟨r9, h10, h⟩ := bind_some h
    refine tr1 rfl (s_call (lt_of rfl) (.func _ _ Try.call23) rfl rfl (BVs.refl _ _) (play_Days_c _ h10) rfl) ?_
    refine tr1 rfl (s_move (v := .tup [.d (.lit (.int .i64 r9.1)), .d (.lit (.int .i64 r9.2))]) (lt_of rfl) rfl rfl) ?_
    refine tr1 rfl (s_extract (lt_of rfl) rfl rfl) ?_
    refine tr1 rfl (s_extract (lt_of rfl) rfl rfl) ?_
    refine tr1 rfl (s_assign (v := .d (.lit (.int .i64 r9.1))) (lt_of rfl) rfl rfl) ?_
    refine tr1 rfl (s_assign (v := .d (.lit (.int .i64 r9.2))) (lt_of rfl) rfl rfl) ?_
    refine tr_nil ?_
    refine tr_seq ?_
    refine tr_seq ?_
    refine tr_region ?_
    refine tr1 rfl (s_move (v := .d (.lit (.int .i64 r7.2))) (lt_of rfl) rfl rfl) ?_
    refine tr1 rfl (s_cmp (lt_of rfl) rfl rfl rfl) ?_
    refine tr1 rfl (s_move (v := .d (.lit (.bool ((!decide (r7.2 = 0)))))) (lt_of rfl) rfl rfl) ?_
    obtain ⟨b11, h12, h⟩ := bind_some h
    refine tr_guard 7 [1, 3, 6] 34 b11 ?_ ?_
    · refine bool_cases (!decide (r7.2 = 0)) (fun c41 => ?_) (fun c41 => ?_)
      · have h12 := cond_tt c41 h12
        refine tr_pass rfl rfl (lt_of rfl) rfl (lt_of rfl) rfl c41 ?_
        refine tr_pass rfl rfl (lt_of rfl) rfl (lt_of rfl) rfl c41 ?_
        refine tr_pass rfl rfl (lt_of rfl) rfl (lt_of rfl) rfl c41 ?_
        refine tr_pass' rfl rfl (lt_of rfl) rfl (lt_of rfl) rfl ?_
        refine tr_pass' rfl rfl (lt_of rfl) rfl (lt_of rfl) rfl ?_
        refine tr_pass rfl rfl (lt_of rfl) rfl (lt_of rfl) rfl c41 ?_
        refine tr1 rfl (s_pick_t (v := .d (.lit (.bool true))) (lt_of rfl) rfl c41 rfl rfl) ?_
        have h12 := Option.some.inj h12
        subst h12
        refine tr_nil (ent_keep rfl ⟨rfl, rfl, rfl, trivial⟩ rfl)
      · have h12 := cond_ff c41 h12
        refine tr_take1 rfl rfl (lt_of rfl) rfl c41 (s_move (v := .d (.lit (.int .i64 r9.2))) (lt_of rfl) rfl rfl) ?_
        refine tr_take1 rfl rfl (lt_of rfl) rfl c41 (s_cmp (lt_of rfl) rfl rfl rfl) ?_
        refine tr_take1 rfl rfl (lt_of rfl) rfl c41 (s_move (v := .d (.lit (.bool ((!decide (r9.2 = 0)))))) (lt_of rfl) rfl rfl) ?_
        obtain ⟨b42, h43, h12⟩ := bind_some h12
        refine tr_guard 3 [1, 3, 6, 27] 33 b42 ?_ ?_
        · refine bool_cases (!decide (r9.2 = 0)) (fun c44 => ?_) (fun c44 => ?_)
          · have h43 := cond_tt c44 h43
            refine tr_take1 rfl rfl (lt_of rfl) rfl c44 (s_move (v := .d (.lit (.int .i64 r9.2))) (lt_of rfl) rfl rfl) ?_
            refine tr_take1 rfl rfl (lt_of rfl) rfl c44 (s_cmp (lt_of rfl) rfl rfl rfl) ?_
            refine tr_take1 rfl rfl (lt_of rfl) rfl c41 (s_pick_t (v := .d (.lit (.bool ((!decide (r9.2 = 3)))))) (lt_of rfl) rfl c44 rfl rfl) ?_
            have h43 := Option.some.inj h43
            subst h43
            refine tr_nil (ent_keep rfl ⟨rfl, rfl, rfl, rfl, trivial⟩ rfl)
          · have h43 := cond_ff c44 h43
            refine tr_pass rfl rfl (lt_of rfl) rfl (lt_of rfl) rfl c44 ?_
            refine tr_pass rfl rfl (lt_of rfl) rfl (lt_of rfl) rfl c44 ?_
            refine tr_take1 rfl rfl (lt_of rfl) rfl c41 (s_pick_f (v := .d (.lit (.bool false))) (lt_of rfl) rfl c44 rfl rfl) ?_
            have h43 := Option.some.inj h43
            subst h43
            refine tr_nil (ent_keep rfl ⟨rfl, rfl, rfl, rfl, trivial⟩ rfl)
        · refine tr1 rfl (s_pick_f (v := .d (.lit (.bool b42))) (lt_of rfl) rfl c41 rfl rfl) ?_
          have h12 := Option.some.inj h12
          subst h12
          refine tr_nil (ent_keep rfl ⟨rfl, rfl, rfl, trivial⟩ rfl)
    · refine tr1 rfl (s_move (v := .d (.lit (.bool b11))) (lt_of rfl) rfl rfl) ?_
      obtain ⟨b13, h14, h⟩ := bind_some h
      refine tr_guard 6 [1, 3] 41 b13 ?_ ?_
      · refine bool_cases (b11) (fun c40 => ?_) (fun c40 => ?_)
        · have h14 := cond_tt c40 h14
          refine tr_pass rfl rfl (lt_of rfl) rfl (lt_of rfl) rfl c40 ?_
          refine tr_pass rfl rfl (lt_of rfl) rfl (lt_of rfl) rfl c40 ?_
          refine tr_pass rfl rfl (lt_of rfl) rfl (lt_of rfl) rfl c40 ?_
          refine tr_pass rfl rfl (lt_of rfl) rfl (lt_of rfl) rfl c40 ?_
          refine tr_pass rfl rfl (lt_of rfl) rfl (lt_of rfl) rfl c40 ?_
          refine tr1 rfl (s_pick_t (v := .d (.lit (.bool true))) (lt_of rfl) rfl c40 rfl rfl) ?_
          have h14 := Option.some.inj h14
          subst h14
          refine tr_nil (ent_keep rfl ⟨rfl, rfl, trivial⟩ rfl)
        · have h14 := cond_ff c40 h14
          refine tr_take1 rfl rfl (lt_of rfl) rfl c40 (s_move (v := .d (.lit (.int .i64 r7.1))) (lt_of rfl) rfl rfl) ?_
          refine tr_take1 rfl rfl (lt_of rfl) rfl c40 (s_cmp (lt_of rfl) rfl rfl rfl) ?_
          refine tr_take1 rfl rfl (lt_of rfl) rfl c40 (s_move (v := .d (.lit (.int .i64 r9.2))) (lt_of rfl) rfl rfl) ?_
          refine tr_take1 rfl rfl (lt_of rfl) rfl c40 (s_cmp (lt_of rfl) rfl rfl rfl) ?_
          refine tr_take1 rfl rfl (lt_of rfl) rfl c40 (s_neb (lt_of rfl) rfl rfl Try.underlying4) ?_
          refine tr1 rfl (s_pick_f (v := .d (.lit (.bool ((!decide ((decide (r7.1 = (-1))) = (decide (r9.2 = 0)))))))) (lt_of rfl) rfl c40 rfl rfl) ?_
          have h14 := Option.some.inj h14
          subst h14
          refine tr_nil (ent_keep rfl ⟨rfl, rfl, trivial⟩ rfl)
      · refine tr1 rfl (s_move (v := .d (.lit (.bool b13))) (lt_of rfl) rfl rfl) ?_
        obtain ⟨b15, h16, h⟩ := bind_some h
        refine tr_guard 3 [1, 3] 45 b15 ?_ ?_
        · refine bool_cases (b13) (fun c39 => ?_) (fun c39 => ?_)
          · have h16 := cond_tt c39 h16
            refine tr_pass rfl rfl (lt_of rfl) rfl (lt_of rfl) rfl c39 ?_
            refine tr_pass rfl rfl (lt_of rfl) rfl (lt_of rfl) rfl c39 ?_
            refine tr1 rfl (s_pick_t (v := .d (.lit (.bool true))) (lt_of rfl) rfl c39 rfl rfl) ?_
            have h16 := Option.some.inj h16
            subst h16
            refine tr_nil (ent_keep rfl ⟨rfl, rfl, trivial⟩ rfl)
          · have h16 := cond_ff c39 h16
            refine tr_take1 rfl rfl (lt_of rfl) rfl c39 (s_move (v := .d (.lit (.int .i64 r7.1))) (lt_of rfl) rfl rfl) ?_
            refine tr_take1 rfl rfl (lt_of rfl) rfl c39 (s_cmp (lt_of rfl) rfl rfl rfl) ?_
            refine tr1 rfl (s_pick_f (v := .d (.lit (.bool ((decide (r7.1 < (-1))))))) (lt_of rfl) rfl c39 rfl rfl) ?_
            have h16 := Option.some.inj h16
            subst h16
            refine tr_nil (ent_keep rfl ⟨rfl, rfl, trivial⟩ rfl)
        · refine tr1 rfl (s_move (v := .d (.lit (.bool b15))) (lt_of rfl) rfl rfl) ?_
          obtain ⟨b17, h18, h⟩ := bind_some h
          refine tr_guard 3 [1, 3] 49 b17 ?_ ?_
          · refine bool_cases (b15) (fun c38 => ?_) (fun c38 => ?_)
            · have h18 := cond_tt c38 h18
              refine tr_pass rfl rfl (lt_of rfl) rfl (lt_of rfl) rfl c38 ?_
              refine tr_pass rfl rfl (lt_of rfl) rfl (lt_of rfl) rfl c38 ?_
              refine tr1 rfl (s_pick_t (v := .d (.lit (.bool true))) (lt_of rfl) rfl c38 rfl rfl) ?_
              have h18 := Option.some.inj h18
              subst h18
              refine tr_nil (ent_keep rfl ⟨rfl, rfl, trivial⟩ rfl)
            · have h18 := cond_ff c38 h18
              refine tr_take1 rfl rfl (lt_of rfl) rfl c38 (s_move (v := .d (.lit (.int .i64 r7.1))) (lt_of rfl) rfl rfl) ?_
              refine tr_take1 rfl rfl (lt_of rfl) rfl c38 (s_cmp (lt_of rfl) rfl rfl rfl) ?_
              refine tr1 rfl (s_pick_f (v := .d (.lit (.bool ((decide (3 ≤ r7.1)))))) (lt_of rfl) rfl c38 rfl rfl) ?_
              have h18 := Option.some.inj h18
              subst h18
              refine tr_nil (ent_keep rfl ⟨rfl, rfl, trivial⟩ rfl)
          · refine tr_nil ?_
            refine tr_if rfl (fun c19 => ?_) (fun c19 => ?_)
            · have h := cond_tt c19 h
              refine tr_seq ?_
              refine tr_region ?_
              refine tr1 rfl (s_assign (v := .d (.lit (.bool false))) (lt_of rfl) rfl rfl) ?_
              refine tr_nil ?_
              have h := Option.some.inj h
              subst h
              refine tr_ent (ent_free (ble_keep (l := [2]) ⟨rfl, trivial⟩)) ?_
              exact tr_ret ⟨rfl, _, .one _, rfl, rfl⟩
            · have h := cond_ff c19 h
              refine tr_skip ?_
              refine tr_seq ?_
              refine tr_seq ?_
              refine tr_region ?_
              refine tr1 rfl (s_move (v := .d (.lit (.int .i64 r7.1))) (lt_of rfl) rfl rfl) ?_
              refine tr1 rfl (s_cmp (lt_of rfl) rfl rfl rfl) ?_
              refine tr_nil ?_
              refine tr_if rfl (fun c20 => ?_) (fun c20 => ?_)
              · have h := cond_tt c20 h
                refine tr_seq ?_
                refine tr_region ?_
                obtain ⟨r21, h22, h⟩ := bind_some h
                refine tr1 rfl (s_call (lt_of rfl) (.func _ _ Try.call16) rfl rfl (BVs.refl _ _) (deucelaw08_works_c h22) rfl) ?_
                refine tr1 rfl (s_assign (v := .d (.lit (.bool r21))) (lt_of rfl) rfl rfl) ?_
                refine tr_nil ?_
                have h := Option.some.inj h
                subst h
                refine tr_ent (ent_free (ble_keep (l := [2]) ⟨rfl, trivial⟩)) ?_
                exact tr_ret ⟨rfl, _, .one _, rfl, rfl⟩
              · have h := cond_ff c20 h
                refine tr_skip ?_
                refine tr_seq ?_
                refine tr_region ?_
                refine tr1 rfl (s_loada_bp (lt_of rfl) rfl (i := 0) rfl agg_25 (es := (encApiProgram p_0)) rfl rfl) ?_
                refine tr1 rfl (s_move (v := .d (.lit (.int .i64 r7.1))) (lt_of rfl) rfl rfl) ?_
                obtain ⟨r23, h24, h⟩ := bind_some h
                refine tr1 rfl (s_callf (lt_of rfl) (.func _ _ Try.call40) rfl rfl (deuceref08_DueBy_c _ _ h24)) ?_
                obtain ⟨r25, h26, h⟩ := bind_some h
                refine tr1 rfl (s_call (lt_of rfl) (.func _ _ Try.call23) rfl rfl (BVs.refl _ _) (play_Days_c _ h26) rfl) ?_
                refine tr1 rfl (s_move (v := .tup [.d (.lit (.int .i64 r25.1)), .d (.lit (.int .i64 r25.2))]) (lt_of rfl) rfl rfl) ?_
                refine tr1 rfl (s_extract (lt_of rfl) rfl rfl) ?_
                refine tr1 rfl (s_extract (lt_of rfl) rfl rfl) ?_
                refine tr1 rfl (s_assign (v := .d (.lit (.int .i64 r25.1))) (lt_of rfl) rfl rfl) ?_
                refine tr1 rfl (s_assign (v := .d (.lit (.int .i64 r25.2))) (lt_of rfl) rfl rfl) ?_
                refine tr_nil ?_
                refine tr_seq ?_
                refine tr_seq ?_
                refine tr_region ?_
                refine tr1 rfl (s_move (v := .d (.lit (.int .i64 r25.2))) (lt_of rfl) rfl rfl) ?_
                refine tr1 rfl (s_cmp (lt_of rfl) rfl rfl rfl) ?_
                refine tr_nil ?_
                refine tr_if rfl (fun c27 => ?_) (fun c27 => ?_)
                · have h := cond_tt c27 h
                  refine tr_seq ?_
                  refine tr_region ?_
                  refine tr1 rfl (s_assign (v := .d (.lit (.bool false))) (lt_of rfl) rfl rfl) ?_
                  refine tr_nil ?_
                  have h := Option.some.inj h
                  subst h
                  refine tr_ent (ent_free (ble_keep (l := [2]) ⟨rfl, trivial⟩)) ?_
                  exact tr_ret ⟨rfl, _, .one _, rfl, rfl⟩
                · have h := cond_ff c27 h
                  refine tr_skip ?_
                  refine tr_seq ?_
                  refine tr_seq ?_
                  refine tr_region ?_
                  refine tr1 rfl (s_move (v := .d (.lit (.int .i64 r7.1))) (lt_of rfl) rfl rfl) ?_
                  refine tr1 rfl (s_cmp (lt_of rfl) rfl rfl rfl) ?_
                  refine tr_nil ?_
                  refine tr_if rfl (fun c28 => ?_) (fun c28 => ?_)
                  · have h := cond_tt c28 h
                    refine tr_seq ?_
                    refine tr_region ?_
                    refine tr1 rfl (s_loada_bp (lt_of rfl) rfl (i := 0) rfl agg_25 (es := (encApiProgram p_0)) rfl rfl) ?_
                    refine tr1 rfl (s_move (v := .d (.lit (.int .i64 r7.1))) (lt_of rfl) rfl rfl) ?_
                    refine tr1 rfl (s_arith (lt_of rfl) rfl rfl rfl) ?_
                    obtain ⟨r29, h30, h⟩ := bind_some h
                    refine tr1 rfl (s_callf (lt_of rfl) (.func _ _ Try.call40) rfl rfl (deuceref08_DueBy_c _ _ h30)) ?_
                    obtain ⟨r31, h32, h⟩ := bind_some h
                    refine tr1 rfl (s_call (lt_of rfl) (.func _ _ Try.call23) rfl rfl (BVs.refl _ _) (play_Days_c _ h32) rfl) ?_
                    refine tr1 rfl (s_move (v := .tup [.d (.lit (.int .i64 r31.1)), .d (.lit (.int .i64 r31.2))]) (lt_of rfl) rfl rfl) ?_
                    refine tr1 rfl (s_extract (lt_of rfl) rfl rfl) ?_
                    refine tr1 rfl (s_extract (lt_of rfl) rfl rfl) ?_
                    refine tr1 rfl (s_assign (v := .d (.lit (.int .i64 r31.1))) (lt_of rfl) rfl rfl) ?_
                    refine tr1 rfl (s_assign (v := .d (.lit (.int .i64 r31.2))) (lt_of rfl) rfl rfl) ?_
                    refine tr_nil ?_
                    refine tr_seq ?_
                    refine tr_region ?_
                    refine tr1 rfl (s_move (v := .d (.lit (.int .i64 r31.2))) (lt_of rfl) rfl rfl) ?_
                    refine tr1 rfl (s_cmp (lt_of rfl) rfl rfl rfl) ?_
                    refine tr_nil ?_
                    refine tr_if rfl (fun c33 => ?_) (fun c33 => ?_)
                    · have h := cond_tt c33 h
                      refine tr_seq ?_
                      refine tr_region ?_
                      refine tr1 rfl (s_assign (v := .d (.lit (.bool false))) (lt_of rfl) rfl rfl) ?_
                      refine tr_nil ?_
                      have h := Option.some.inj h
                      subst h
                      refine tr_ent (ent_free (ble_keep (l := [2]) ⟨rfl, trivial⟩)) ?_
                      exact tr_ret ⟨rfl, _, .one _, rfl, rfl⟩
                    · have h := cond_ff c33 h
                      refine tr_skip ?_
                      refine tr_seq ?_
                      refine tr_region ?_
                      obtain ⟨r34, h35, h⟩ := bind_some h
                      refine tr1 rfl (s_call (lt_of rfl) (.func _ _ Try.call16) rfl rfl (BVs.refl _ _) (deucelaw08_works_c h35) rfl) ?_
                      refine tr1 rfl (s_assign (v := .d (.lit (.bool r34))) (lt_of rfl) rfl rfl) ?_
                      refine tr_nil ?_
                      have h := Option.some.inj h
                      subst h
                      refine tr_ent (ent_free (ble_keep (l := [2]) ⟨rfl, trivial⟩)) ?_
                      exact tr_ret ⟨rfl, _, .one _, rfl, rfl⟩
                  · have h := cond_ff c28 h
                    refine tr_skip ?_
                    refine tr_seq ?_
                    refine tr_region ?_
                    obtain ⟨r36, h37, h⟩ := bind_some h
                    refine tr1 rfl (s_call (lt_of rfl) (.func _ _ Try.call16) rfl rfl (BVs.refl _ _) (deucelaw08_works_c h37) rfl) ?_
                    refine tr1 rfl (s_assign (v := .d (.lit (.bool r36))) (lt_of rfl) rfl rfl) ?_
                    refine tr_nil ?_
                    have h := Option.some.inj h
                    subst h
                    refine tr_ent (ent_free (ble_keep (l := [2]) ⟨rfl, trivial⟩)) ?_
                    exact tr_ret ⟨rfl, _, .one _, rfl, rfl⟩

end Go.Am
