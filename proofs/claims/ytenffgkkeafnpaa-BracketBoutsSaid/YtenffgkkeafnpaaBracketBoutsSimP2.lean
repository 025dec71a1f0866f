/- The functions compute what the shallow ones say: printed by program. -/
import Derived.Test.YtenffgkkeafnpaaBracketBoutsSimP1
namespace Go.Am
open Go.Proofs
set_option maxRecDepth 100000
set_option maxHeartbeats 4000000

theorem vB (t_0 : aN) (l_1 : List aE) {r : (List Int) × Bool} (h : jX t_0 l_1 = some r) : Fn Try.prog 18 [.agg (aQ t_0), .d (.sl 5 (l_1.map aL))] (.tup [.d (.sl 1 (r.1.map aO)), .d (.lit (.bool r.2))]) := by
 unfold jX at h
 refine Fn.of_tr Try.func18 rfl (rs := [.tmp 4, .tmp 5]) Try.results18 Try.ntmps18 (Nat.le_of_ble_eq_true rfl) ?_
 refine aG ?_
 refine aC ?_
 refine bV rfl (eW (v := .agg (aQ t_0)) (aA rfl) rfl rfl rfl) ?_
 rintro _ ⟨b1, rfl⟩
 refine tr1 rfl (nE 1 (aA rfl)) ?_
 refine tr1 rfl (aJ (v := .d (.lit (.bool false))) (aA rfl) rfl rfl) ?_
 refine aF ?_
 refine aG ?_
 refine aC ?_
 refine tr1 rfl (aD (v := .d (.sl 5 (l_1.map aL))) (aA rfl) rfl rfl) ?_
 obtain ⟨r2, h3, h⟩ := bind_some h
 refine tr1 rfl (eR (aA rfl) (.func _ _ Try.call51) rfl rfl (sH _ h3)) ?_
 refine tr1 rfl (aJ (v := .d (.sl 5 (r2.map aL))) (aA rfl) rfl rfl) ?_
 refine aF ?_
 refine aG ?_
 refine aC ?_
 refine bV rfl (aCi (aA rfl) cC rfl rfl (rows := (([] : List Int)).map aO) rfl (dD (f := aO) fun _ => rfl) rfl (by decide)) ?_
 rintro _ ⟨v4, rfl⟩
 refine tr1 rfl (aW (aA rfl) rfl dO) ?_
 refine tr1 rfl (aY (aA rfl) rfl (i := 0) rfl rfl cW) ?_
 obtain ⟨x5, h6, h⟩ := bind_some h
 refine bV rfl (fK (i := 1) (aA rfl) cC rfl rfl rfl (fun _ => rfl) h6 rfl) ?_
 rintro _ ⟨v7, rfl⟩
 refine tr1 rfl (aJ (v := .d (.lit v7)) (aA rfl) rfl rfl) ?_
 refine aF ?_
 refine aG ?_
 refine aC ?_
 refine tr1 rfl (jG 3 1 (.inl rfl) (aA rfl)) ?_
 refine aF ?_
 refine aG ?_
 refine aC ?_
 refine tr1 rfl (aJ (v := .d (.lit (.int .i64 0))) (aA rfl) rfl rfl) ?_
 refine aF ?_
 refine aG ?_
 refine aG ?_
 refine aC ?_
 refine tr1 rfl (aJ (v := .d (.lit (.int .i64 0))) (aA rfl) rfl rfl) ?_
 refine aF ?_
 refine cF ?_
 refine dH [2, 6] (fun (s9 : Int × Int × (List Int) × (List Int) × Value × Value) => [(7, .d (.lit s9.2.2.2.2.2)), (8, .d (.lit s9.2.2.2.2.1)), (9, .d (.lit (.int .i64 s9.1))), (10, .d (.lit (.int .i64 s9.2.1)))]) (fun (s9 : Int × Int × (List Int) × (List Int) × Value × Value) => [.box b1 0 (aQ t_0), .arr s9.2.2.2.2.1 3 1 (s9.2.2.1.map aO), .arr s9.2.2.2.2.2 3 1 (s9.2.2.2.1.map aO)]) (fun (k : Nat) (s9 : Int × Int × (List Int) × (List Int) × Value × Value) => dM r2 t_0 k s9.1 s9.2.1 s9.2.2.1 s9.2.2.2.1) (fun _ => rfl) (0, 0, ([] : List Int), x5, (.slice none 0 0), v7) h (bE [0, 2, 1] rfl rfl (aT rfl (aT rfl (aT rfl (aT rfl (bC ⟨rfl, rfl, trivial⟩)))))) ?_
 rintro k12 ⟨used_0_9, i_0_9, out_0_9, o18_0_9, w10, w11⟩ h
 simp only [dM] at h
 refine aG ?_
 refine aG ?_
 refine aC ?_
 refine tr1 rfl (aD (v := .d (.lit (.int .i64 i_0_9))) (aA rfl) rfl rfl) ?_
 refine tr1 rfl (aW (aA rfl) rfl dO) ?_
 refine tr1 rfl (aY (aA rfl) rfl (i := 0) rfl rfl cW) ?_
 refine tr1 rfl (dZ (aA rfl) rfl cC.of) ?_
 refine tr1 rfl (bK (aA rfl) rfl rfl rfl) ?_
 refine aF ?_
 refine bU rfl (fun c13 => ?_) (fun c13 => ?_)
 ·have h := bB c13 h
  refine bS ?_
  refine aG ?_
  refine cF ?_
  refine aG ?_
  refine aC ?_
  refine tr1 rfl (aW (aA rfl) rfl dO) ?_
  refine tr1 rfl (aY (aA rfl) rfl (i := 0) rfl rfl cW) ?_
  refine tr1 rfl (aD (v := .d (.lit (.int .i64 i_0_9))) (aA rfl) rfl rfl) ?_
  obtain ⟨x14, h15, h⟩ := bind_some h
  refine tr1 rfl (bQ (aA rfl) rfl rfl cC.of (cA aO h15)) ?_
  refine tr1 rfl (bT (aA rfl) rfl bO) ?_
  refine tr1 rfl (aJ (v := .d (.lit (.int .i64 x14))) (aA rfl) rfl rfl) ?_
  refine aF ?_
  refine aG ?_
  refine aG ?_
  refine aC ?_
  refine tr1 rfl (aJ (v := .d (.lit (.bool true))) (aA rfl) rfl rfl) ?_
  refine aF ?_
  refine cF ?_
  refine dH [2, 6, 8, 10] (fun (s16 : Int × Int × Bool × (List Int) × Value) => [(7, .d (.lit s16.2.2.2.2)), (9, .d (.lit (.int .i64 s16.1))), (11, .d (.lit (.int .i64 s16.2.1))), (12, .d (.lit (.bool s16.2.2.1)))]) (fun (s16 : Int × Int × Bool × (List Int) × Value) => [.box b1 0 (aQ t_0), .arr w10 3 1 (out_0_9.map aO), .arr s16.2.2.2.2 3 1 (s16.2.2.2.1.map aO)]) (fun (k : Nat) (s16 : Int × Int × Bool × (List Int) × Value) => eM (dM r2 t_0 k12) r2 i_0_9 t_0 out_0_9 k s16.1 s16.2.1 s16.2.2.1 s16.2.2.2.1) (fun _ => rfl) (used_0_9, x14, true, o18_0_9, w11) h (bE [0, 1, 2] rfl rfl (aT rfl (aT rfl (aT rfl (aT rfl (bC ⟨rfl, rfl, rfl, rfl, trivial⟩)))))) ?_
  rintro k18 ⟨used_2_16, now_2_16, again_2_16, o18_2_16, w17⟩ h
  simp only [eM] at h
  refine aG ?_
  refine aG ?_
  refine aC ?_
  refine tr1 rfl (aD (v := .d (.lit (.bool again_2_16))) (aA rfl) rfl rfl) ?_
  refine aF ?_
  refine bU rfl (fun c19 => ?_) (fun c19 => ?_)
  ·have h := bB c19 h
   refine bS ?_
   refine cF ?_
   refine aG ?_
   refine aC ?_
   refine tr1 rfl (aJ (v := .d (.lit (.bool false))) (aA rfl) rfl rfl) ?_
   refine aF ?_
   refine aG ?_
   refine aC ?_
   refine tr1 rfl (jG 3 1 (.inl rfl) (aA rfl)) ?_
   refine aF ?_
   refine aG ?_
   refine aG ?_
   refine aC ?_
   refine tr1 rfl (aJ (v := .d (.lit (.int .i64 0))) (aA rfl) rfl rfl) ?_
   refine aF ?_
   refine cF ?_
   refine dH [2, 6, 7, 8, 9, 10, 11, 12] (fun (s21 : Int × (List Int) × Value) => [(13, .d (.lit s21.2.2)), (14, .d (.lit (.int .i64 s21.1)))]) (fun (s21 : Int × (List Int) × Value) => [.box b1 0 (aQ t_0), .arr w10 3 1 (out_0_9.map aO), .arr s21.2.2 3 1 (s21.2.1.map aO), .arr w17 3 1 (o18_2_16.map aO)]) (fun (k : Nat) (s21 : Int × (List Int) × Value) => eB (dM r2 t_0 k12) (eM (dM r2 t_0 k12) r2 i_0_9 t_0 out_0_9 k18) r2 used_2_16 i_0_9 now_2_16 false t_0 out_0_9 o18_2_16 k s21.1 s21.2.1) (fun _ => rfl) (0, ([] : List Int), (.slice none 0 0)) h (bE [0, 1, 3, 2] rfl rfl (aT rfl (aT rfl (bC ⟨rfl, rfl, rfl, rfl, rfl, rfl, rfl, rfl, trivial⟩)))) ?_
   rintro k23 ⟨k_4_21, nextv_4_21, w22⟩ h
   simp only [eB] at h
   refine aG ?_
   refine aG ?_
   refine aC ?_
   refine tr1 rfl (aD (v := .d (.lit (.int .i64 k_4_21))) (aA rfl) rfl rfl) ?_
   refine tr1 rfl (aD (v := .d (.sl 5 (r2.map aL))) (aA rfl) rfl rfl) ?_
   refine tr1 rfl (dZ (aA rfl) rfl fQ.of) ?_
   refine tr1 rfl (bK (aA rfl) rfl rfl rfl) ?_
   refine aF ?_
   refine bU rfl (fun c24 => ?_) (fun c24 => ?_)
   ·have h := bB c24 h
    refine bS ?_
    refine aG ?_
    refine cF ?_
    refine aG ?_
    refine aC ?_
    refine tr1 rfl (aD (v := .d (.sl 5 (r2.map aL))) (aA rfl) rfl rfl) ?_
    refine tr1 rfl (aD (v := .d (.lit (.int .i64 k_4_21))) (aA rfl) rfl rfl) ?_
    obtain ⟨x25, h26, h⟩ := bind_some h
    refine tr1 rfl (bQ (aA rfl) rfl rfl fQ.of (cA aL h26)) ?_
    refine tr1 rfl (cO (aA rfl) rfl nB (es := [.lit (.int .i64 x25.Kind)]) rfl) ?_
    refine tr1 rfl (bT (aA rfl) rfl bO) ?_
    refine tr1 rfl (bK (aA rfl) rfl rfl rfl) ?_
    refine tr1 rfl (aD (v := .d (.lit (.bool ((decide (x25.Kind = 5)))))) (aA rfl) rfl rfl) ?_
    obtain ⟨b27, h28, h⟩ := bind_some h
    refine cG 8 [2, 6, 7, 8, 9, 10, 11, 12, 13, 14] 55 b27 ?_ ?_
    ·refine bP (decide (x25.Kind = 5)) (fun c40 => ?_) (fun c40 => ?_)
     ·have h28 := bB c40 h28
      refine aM rfl rfl (aA rfl) rfl c40 (aD (v := .d (.sl 5 (r2.map aL))) (aA rfl) rfl rfl) ?_
      refine aM rfl rfl (aA rfl) rfl c40 (aD (v := .d (.lit (.int .i64 k_4_21))) (aA rfl) rfl rfl) ?_
      obtain ⟨x41, h42, h28⟩ := bind_some h28
      refine aM rfl rfl (aA rfl) rfl c40 (bQ (aA rfl) rfl rfl fQ.of (cA aL h42)) ?_
      refine aM rfl rfl (aA rfl) rfl c40 (cO (aA rfl) rfl iM (es := [.lit (.int .i64 x41.Place)]) rfl) ?_
      refine aM rfl rfl (aA rfl) rfl c40 (bT (aA rfl) rfl bO) ?_
      refine aM rfl rfl (aA rfl) rfl c40 (aD (v := .d (.lit (.int .i64 i_0_9))) (aA rfl) rfl rfl) ?_
      refine aM rfl rfl (aA rfl) rfl c40 (bK (aA rfl) rfl rfl rfl) ?_
      refine tr1 rfl (bZ (v := .d (.lit (.bool ((decide (x41.Place = i_0_9)))))) (aA rfl) rfl c40 rfl rfl) ?_
      have h28 := Option.some.inj h28
      subst h28
      refine aF (bF rfl ⟨rfl, rfl, rfl, rfl, rfl, rfl, rfl, rfl, rfl, rfl, trivial⟩ rfl)
     ·have h28 := aZ c40 h28
      refine aP rfl rfl (aA rfl) rfl (aA rfl) rfl c40 ?_
      refine aP rfl rfl (aA rfl) rfl (aA rfl) rfl c40 ?_
      refine aP rfl rfl (aA rfl) rfl (aA rfl) rfl c40 ?_
      refine aP rfl rfl (aA rfl) rfl (aA rfl) rfl c40 ?_
      refine aP rfl rfl (aA rfl) rfl (aA rfl) rfl c40 ?_
      refine aP rfl rfl (aA rfl) rfl (aA rfl) rfl c40 ?_
      refine aP rfl rfl (aA rfl) rfl (aA rfl) rfl c40 ?_
      refine tr1 rfl (bY (v := .d (.lit (.bool false))) (aA rfl) rfl c40 rfl rfl) ?_
      have h28 := Option.some.inj h28
      subst h28
      refine aF (bF rfl ⟨rfl, rfl, rfl, rfl, rfl, rfl, rfl, rfl, rfl, rfl, trivial⟩ rfl)
    ·refine tr1 rfl (aD (v := .d (.lit (.bool b27))) (aA rfl) rfl rfl) ?_
     obtain ⟨b29, h30, h⟩ := bind_some h
     refine cG 8 [2, 6, 7, 8, 9, 10, 11, 12, 13, 14] 64 b29 ?_ ?_
     ·refine bP (b27) (fun c37 => ?_) (fun c37 => ?_)
      ·have h30 := bB c37 h30
       refine aM rfl rfl (aA rfl) rfl c37 (aD (v := .d (.sl 5 (r2.map aL))) (aA rfl) rfl rfl) ?_
       refine aM rfl rfl (aA rfl) rfl c37 (aD (v := .d (.lit (.int .i64 k_4_21))) (aA rfl) rfl rfl) ?_
       obtain ⟨x38, h39, h30⟩ := bind_some h30
       refine aM rfl rfl (aA rfl) rfl c37 (bQ (aA rfl) rfl rfl fQ.of (cA aL h39)) ?_
       refine aM rfl rfl (aA rfl) rfl c37 (cO (aA rfl) rfl qX (es := [.lit (.int .i64 x38.Old)]) rfl) ?_
       refine aM rfl rfl (aA rfl) rfl c37 (bT (aA rfl) rfl bO) ?_
       refine aM rfl rfl (aA rfl) rfl c37 (aD (v := .d (.lit (.int .i64 now_2_16))) (aA rfl) rfl rfl) ?_
       refine aM rfl rfl (aA rfl) rfl c37 (bK (aA rfl) rfl rfl rfl) ?_
       refine tr1 rfl (bZ (v := .d (.lit (.bool ((decide (x38.Old = now_2_16)))))) (aA rfl) rfl c37 rfl rfl) ?_
       have h30 := Option.some.inj h30
       subst h30
       refine aF (bF rfl ⟨rfl, rfl, rfl, rfl, rfl, rfl, rfl, rfl, rfl, rfl, trivial⟩ rfl)
      ·have h30 := aZ c37 h30
       refine aP rfl rfl (aA rfl) rfl (aA rfl) rfl c37 ?_
       refine aP rfl rfl (aA rfl) rfl (aA rfl) rfl c37 ?_
       refine aP rfl rfl (aA rfl) rfl (aA rfl) rfl c37 ?_
       refine aP rfl rfl (aA rfl) rfl (aA rfl) rfl c37 ?_
       refine aP rfl rfl (aA rfl) rfl (aA rfl) rfl c37 ?_
       refine aP rfl rfl (aA rfl) rfl (aA rfl) rfl c37 ?_
       refine aP rfl rfl (aA rfl) rfl (aA rfl) rfl c37 ?_
       refine tr1 rfl (bY (v := .d (.lit (.bool false))) (aA rfl) rfl c37 rfl rfl) ?_
       have h30 := Option.some.inj h30
       subst h30
       refine aF (bF rfl ⟨rfl, rfl, rfl, rfl, rfl, rfl, rfl, rfl, rfl, rfl, trivial⟩ rfl)
     ·refine aF ?_
      refine bU rfl (fun c31 => ?_) (fun c31 => ?_)
      ·have h := bB c31 h
       refine aC ?_
       refine tr1 rfl (aD (v := .d (.lit w22)) (aA rfl) rfl rfl) ?_
       refine tr1 rfl (aD (v := .d (.sl 5 (r2.map aL))) (aA rfl) rfl rfl) ?_
       refine tr1 rfl (aD (v := .d (.lit (.int .i64 k_4_21))) (aA rfl) rfl rfl) ?_
       obtain ⟨x32, h33, h⟩ := bind_some h
       refine tr1 rfl (bQ (aA rfl) rfl rfl fQ.of (cA aL h33)) ?_
       refine tr1 rfl (cO (aA rfl) rfl lX (es := [.lit (.int .i64 x32.Player)]) rfl) ?_
       refine tr1 rfl (bT (aA rfl) rfl bO) ?_
       refine tr1 rfl (fM (aA rfl) cC rfl rfl (rows := ([x32.Player]).map aO) rfl (dD (f := aO) fun _ => rfl) rfl (by decide)) ?_
       obtain ⟨x34, h35, h⟩ := bind_some h
       refine bV rfl (fK (i := 2) (aA rfl) cC rfl rfl rfl (fun _ => rfl) h35 rfl) ?_
       rintro _ ⟨v36, rfl⟩
       refine tr1 rfl (aJ (v := .d (.lit v36)) (aA rfl) rfl rfl) ?_
       refine fD ?_
       refine aC ?_
       refine tr1 rfl (aD (v := .d (.lit (.int .i64 k_4_21))) (aA rfl) rfl rfl) ?_
       refine tr1 rfl (bN (aA rfl) rfl rfl rfl) ?_
       refine tr1 rfl (aJ (v := .d (.lit (.int .i64 ((w64 (k_4_21 + 1)))))) (aA rfl) rfl rfl) ?_
       refine aF ?_
       exact ⟨(w64 (k_4_21 + 1), x34, v36), h, bE [0, 1, 2, 3] rfl rfl (aT rfl (aT rfl (bC ⟨rfl, rfl, rfl, rfl, rfl, rfl, rfl, rfl, trivial⟩)))⟩
      ·have h := aZ c31 h
       refine eA ?_
       refine aC ?_
       refine tr1 rfl (aD (v := .d (.lit (.int .i64 k_4_21))) (aA rfl) rfl rfl) ?_
       refine tr1 rfl (bN (aA rfl) rfl rfl rfl) ?_
       refine tr1 rfl (aJ (v := .d (.lit (.int .i64 ((w64 (k_4_21 + 1)))))) (aA rfl) rfl rfl) ?_
       refine aF ?_
       exact ⟨(w64 (k_4_21 + 1), nextv_4_21, w22), h, bE [0, 1, 2, 3] rfl rfl (aT rfl (aT rfl (bC ⟨rfl, rfl, rfl, rfl, rfl, rfl, rfl, rfl, trivial⟩)))⟩
   ·have h := aZ c24 h
    refine cV ?_
    refine .inl ⟨rfl, ?_⟩
    simp only [iQ] at h
    refine aG ?_
    refine aG ?_
    refine aC ?_
    refine tr1 rfl (aD (v := .d (.lit w22)) (aA rfl) rfl rfl) ?_
    refine tr1 rfl (oV (m := 2) (aA rfl) rfl rfl cC.of) ?_
    refine tr1 rfl (bK (aA rfl) rfl rfl rfl) ?_
    refine tr1 rfl (aD (v := .d (.lit (.bool ((decide (1 < (nextv_4_21.length : Int))))))) (aA rfl) rfl rfl) ?_
    obtain ⟨b43, h44, h⟩ := bind_some h
    refine cG 11 [2, 6, 7, 8, 9, 10, 11, 12, 13] 87 b43 ?_ ?_
    ·refine bP (decide (1 < (nextv_4_21.length : Int))) (fun c52 => ?_) (fun c52 => ?_)
     ·have h44 := bB c52 h44
      refine aP rfl rfl (aA rfl) rfl (aA rfl) rfl c52 ?_
      refine aP rfl rfl (aA rfl) rfl (aA rfl) rfl c52 ?_
      refine aP rfl rfl (aA rfl) rfl (aA rfl) rfl c52 ?_
      refine aP rfl rfl (aA rfl) rfl (aA rfl) rfl c52 ?_
      refine dX rfl rfl (aA rfl) rfl (aA rfl) rfl ?_
      refine dX rfl rfl (aA rfl) rfl (aA rfl) rfl ?_
      refine dX rfl rfl (aA rfl) rfl (aA rfl) rfl ?_
      refine dX rfl rfl (aA rfl) rfl (aA rfl) rfl ?_
      refine dX rfl rfl (aA rfl) rfl (aA rfl) rfl ?_
      refine aP rfl rfl (aA rfl) rfl (aA rfl) rfl c52 ?_
      refine tr1 rfl (bZ (v := .d (.lit (.bool true))) (aA rfl) rfl c52 rfl rfl) ?_
      have h44 := Option.some.inj h44
      subst h44
      refine aF (bF rfl ⟨rfl, rfl, rfl, rfl, rfl, rfl, rfl, rfl, rfl, trivial⟩ rfl)
     ·have h44 := aZ c52 h44
      refine aM rfl rfl (aA rfl) rfl c52 (aD (v := .d (.lit w22)) (aA rfl) rfl rfl) ?_
      refine aM rfl rfl (aA rfl) rfl c52 (oV (m := 2) (aA rfl) rfl rfl cC.of) ?_
      refine aM rfl rfl (aA rfl) rfl c52 (bK (aA rfl) rfl rfl rfl) ?_
      refine aM rfl rfl (aA rfl) rfl c52 (aD (v := .d (.lit (.bool ((decide ((nextv_4_21.length : Int) = 1)))))) (aA rfl) rfl rfl) ?_
      obtain ⟨b53, h54, h44⟩ := bind_some h44
      refine cG 6 [2, 6, 7, 8, 9, 10, 11, 12, 13, 76, 77, 78, 79, 80] 86 b53 ?_ ?_
      ·refine bP (decide ((nextv_4_21.length : Int) = 1)) (fun c55 => ?_) (fun c55 => ?_)
       ·have h54 := bB c55 h54
        refine aM rfl rfl (aA rfl) rfl c55 (aD (v := .d (.lit w17)) (aA rfl) rfl rfl) ?_
        refine aM rfl rfl (aA rfl) rfl c55 (aD (v := .d (.lit w22)) (aA rfl) rfl rfl) ?_
        obtain ⟨x56, h57, h54⟩ := bind_some h54
        refine aM rfl rfl (aA rfl) rfl c55 (iX (m := 2) (aA rfl) rfl rfl rfl cC.of (cA aO h57)) ?_
        refine aM rfl rfl (aA rfl) rfl c55 (mP (aA rfl) rfl (m := 2) rfl (rY aO h57) rfl bO) ?_
        obtain ⟨r58, h59, h54⟩ := bind_some h54
        refine aM rfl rfl (aA rfl) rfl c55 (cN (aA rfl) (.func _ _ Try.call52) rfl rfl (.cons (.d (lR 3 rfl (dD (f := aO) fun _ => rfl))) (.cons (.same _) .nil)) (zW _ _ h59) rfl) ?_
        refine aM rfl rfl (aA rfl) rfl c52 (bZ (v := .d (.lit (.bool r58))) (aA rfl) rfl c55 rfl rfl) ?_
        have h54 := Option.some.inj h54
        subst h54
        refine aF (bF rfl ⟨rfl, rfl, rfl, rfl, rfl, rfl, rfl, rfl, rfl, rfl, rfl, rfl, rfl, rfl, trivial⟩ rfl)
       ·have h54 := aZ c55 h54
        refine aP rfl rfl (aA rfl) rfl (aA rfl) rfl c55 ?_
        refine aP rfl rfl (aA rfl) rfl (aA rfl) rfl c55 ?_
        refine aP rfl rfl (aA rfl) rfl (aA rfl) rfl c55 ?_
        refine aP rfl rfl (aA rfl) rfl (aA rfl) rfl c55 ?_
        refine aP rfl rfl (aA rfl) rfl (aA rfl) rfl c55 ?_
        refine aM rfl rfl (aA rfl) rfl c52 (bY (v := .d (.lit (.bool false))) (aA rfl) rfl c55 rfl rfl) ?_
        have h54 := Option.some.inj h54
        subst h54
        refine aF (bF rfl ⟨rfl, rfl, rfl, rfl, rfl, rfl, rfl, rfl, rfl, rfl, rfl, rfl, rfl, rfl, trivial⟩ rfl)
      ·refine tr1 rfl (bY (v := .d (.lit (.bool b53))) (aA rfl) rfl c52 rfl rfl) ?_
       have h44 := Option.some.inj h44
       subst h44
       refine aF (bF rfl ⟨rfl, rfl, rfl, rfl, rfl, rfl, rfl, rfl, rfl, trivial⟩ rfl)
    ·refine aF ?_
     refine bU rfl (fun c45 => ?_) (fun c45 => ?_)
     ·have h := bB c45 h
      refine aG ?_
      refine aC ?_
      refine tr1 rfl (nE 1 (aA rfl)) ?_
      refine tr1 rfl (aJ (v := .d (.lit (.bool false))) (aA rfl) rfl rfl) ?_
      refine aF ?_
      have h := Option.some.inj h
      subst h
      refine cQ (cP (cS (l := [4, 5]) ⟨rfl, rfl, trivial⟩)) ?_
      exact bR ⟨rfl, _, .two _ _, rfl, rfl⟩
     ·have h := aZ c45 h
      refine bS ?_
      refine aG ?_
      refine aC ?_
      refine tr1 rfl (aD (v := .d (.lit w22)) (aA rfl) rfl rfl) ?_
      refine tr1 rfl (oV (m := 2) (aA rfl) rfl rfl cC.of) ?_
      refine tr1 rfl (bK (aA rfl) rfl rfl rfl) ?_
      refine aF ?_
      refine bU rfl (fun c46 => ?_) (fun c46 => ?_)
      ·have h := bB c46 h
       refine aG ?_
       refine aC ?_
       refine tr1 rfl (aD (v := .d (.lit w22)) (aA rfl) rfl rfl) ?_
       obtain ⟨x47, h48, h⟩ := bind_some h
       refine tr1 rfl (iX (m := 2) (aA rfl) rfl rfl rfl cC.of (cA aO h48)) ?_
       refine tr1 rfl (mP (aA rfl) rfl (m := 2) rfl (rY aO h48) rfl bO) ?_
       refine tr1 rfl (aJ (v := .d (.lit (.int .i64 x47))) (aA rfl) rfl rfl) ?_
       refine aF ?_
       refine aG ?_
       refine aC ?_
       refine tr1 rfl (aD (v := .d (.lit w17)) (aA rfl) rfl rfl) ?_
       refine tr1 rfl (aD (v := .d (.lit (.int .i64 x47))) (aA rfl) rfl rfl) ?_
       refine tr1 rfl (fM (aA rfl) cC rfl rfl (rows := ([x47]).map aO) rfl (dD (f := aO) fun _ => rfl) rfl (by decide)) ?_
       obtain ⟨x49, h50, h⟩ := bind_some h
       refine bV rfl (fK (i := 3) (aA rfl) cC rfl rfl rfl (fun _ => rfl) h50 rfl) ?_
       rintro _ ⟨v51, rfl⟩
       refine tr1 rfl (aJ (v := .d (.lit v51)) (aA rfl) rfl rfl) ?_
       refine aF ?_
       refine aG ?_
       refine aC ?_
       refine tr1 rfl (aD (v := .d (.lit (.int .i64 used_2_16))) (aA rfl) rfl rfl) ?_
       refine tr1 rfl (bN (aA rfl) rfl rfl rfl) ?_
       refine tr1 rfl (aJ (v := .d (.lit (.int .i64 ((w64 (used_2_16 + 1)))))) (aA rfl) rfl rfl) ?_
       refine aF ?_
       refine aC ?_
       refine tr1 rfl (aJ (v := .d (.lit (.bool true))) (aA rfl) rfl rfl) ?_
       refine fD ?_
       simp only [gU] at h
       exact ⟨(w64 (used_2_16 + 1), x47, true, x49, v51), h, bE [0, 1, 3] rfl rfl (aT rfl (aT rfl (aT rfl (aT rfl (bC ⟨rfl, rfl, rfl, rfl, trivial⟩)))))⟩
      ·have h := aZ c46 h
       refine eA ?_
       simp only [gU] at h
       exact ⟨(used_2_16, now_2_16, false, o18_2_16, w17), h, bE [0, 1, 3] rfl rfl (aT rfl (aT rfl (aT rfl (aT rfl (bC ⟨rfl, rfl, rfl, rfl, trivial⟩)))))⟩
  ·have h := aZ c19 h
   refine cV ?_
   refine .inl ⟨rfl, ?_⟩
   simp only [kG] at h
   refine aC ?_
   refine tr1 rfl (aD (v := .d (.lit w10)) (aA rfl) rfl rfl) ?_
   refine tr1 rfl (aD (v := .d (.lit (.int .i64 now_2_16))) (aA rfl) rfl rfl) ?_
   refine tr1 rfl (fM (aA rfl) cC rfl rfl (rows := ([now_2_16]).map aO) rfl (dD (f := aO) fun _ => rfl) rfl (by decide)) ?_
   obtain ⟨x60, h61, h⟩ := bind_some h
   refine bV rfl (fK (i := 1) (aA rfl) cC rfl rfl rfl (fun _ => rfl) h61 rfl) ?_
   rintro _ ⟨v62, rfl⟩
   refine tr1 rfl (aJ (v := .d (.lit v62)) (aA rfl) rfl rfl) ?_
   refine fD ?_
   simp only [mI] at h
   refine aC ?_
   refine tr1 rfl (aD (v := .d (.lit (.int .i64 i_0_9))) (aA rfl) rfl rfl) ?_
   refine tr1 rfl (bN (aA rfl) rfl rfl rfl) ?_
   refine tr1 rfl (aJ (v := .d (.lit (.int .i64 ((w64 (i_0_9 + 1)))))) (aA rfl) rfl rfl) ?_
   refine aF ?_
   exact ⟨(used_2_16, w64 (i_0_9 + 1), x60, o18_2_16, v62, w17), h, bE [0, 1, 2] rfl rfl (aT rfl (aT rfl (aT rfl (aT rfl (bC ⟨rfl, rfl, trivial⟩)))))⟩
 ·have h := aZ c13 h
  refine cV ?_
  refine .inl ⟨rfl, ?_⟩
  simp only [mH] at h
  refine aG ?_
  refine aG ?_
  refine aC ?_
  refine tr1 rfl (aJ (v := .d (.lit (.int .i64 0))) (aA rfl) rfl rfl) ?_
  refine aF ?_
  refine cF ?_
  refine dH [6, 8] (fun (s63 : Int × Int) => [(9, .d (.lit (.int .i64 s63.1))), (15, .d (.lit (.int .i64 s63.2)))]) (fun (s63 : Int × Int) => [.arr w10 3 1 (out_0_9.map aO)]) (fun (k : Nat) (s63 : Int × Int) => eC r2 out_0_9 k s63.1 s63.2) (fun _ => rfl) (used_0_9, 0) h (bE [1] rfl rfl (aT rfl (aT rfl (bC ⟨rfl, rfl, trivial⟩)))) ?_
  rintro k64 ⟨used_6_63, k_6_63⟩ h
  simp only [eC] at h
  refine aG ?_
  refine aG ?_
  refine aC ?_
  refine tr1 rfl (aD (v := .d (.lit (.int .i64 k_6_63))) (aA rfl) rfl rfl) ?_
  refine tr1 rfl (aD (v := .d (.sl 5 (r2.map aL))) (aA rfl) rfl rfl) ?_
  refine tr1 rfl (dZ (aA rfl) rfl fQ.of) ?_
  refine tr1 rfl (bK (aA rfl) rfl rfl rfl) ?_
  refine aF ?_
  refine bU rfl (fun c65 => ?_) (fun c65 => ?_)
  ·have h := bB c65 h
   refine bS ?_
   refine aG ?_
   refine cF ?_
   refine aG ?_
   refine aC ?_
   refine tr1 rfl (aD (v := .d (.sl 5 (r2.map aL))) (aA rfl) rfl rfl) ?_
   refine tr1 rfl (aD (v := .d (.lit (.int .i64 k_6_63))) (aA rfl) rfl rfl) ?_
   obtain ⟨x66, h67, h⟩ := bind_some h
   refine tr1 rfl (bQ (aA rfl) rfl rfl fQ.of (cA aL h67)) ?_
   refine tr1 rfl (cO (aA rfl) rfl nB (es := [.lit (.int .i64 x66.Kind)]) rfl) ?_
   refine tr1 rfl (bT (aA rfl) rfl bO) ?_
   refine tr1 rfl (bK (aA rfl) rfl rfl rfl) ?_
   refine aF ?_
   refine bU rfl (fun c68 => ?_) (fun c68 => ?_)
   ·have h := bB c68 h
    refine aC ?_
    refine tr1 rfl (aD (v := .d (.lit (.int .i64 used_6_63))) (aA rfl) rfl rfl) ?_
    refine tr1 rfl (bN (aA rfl) rfl rfl rfl) ?_
    refine tr1 rfl (aJ (v := .d (.lit (.int .i64 ((w64 (used_6_63 - 1)))))) (aA rfl) rfl rfl) ?_
    refine fD ?_
    refine aC ?_
    refine tr1 rfl (aD (v := .d (.lit (.int .i64 k_6_63))) (aA rfl) rfl rfl) ?_
    refine tr1 rfl (bN (aA rfl) rfl rfl rfl) ?_
    refine tr1 rfl (aJ (v := .d (.lit (.int .i64 ((w64 (k_6_63 + 1)))))) (aA rfl) rfl rfl) ?_
    refine aF ?_
    exact ⟨(w64 (used_6_63 - 1), w64 (k_6_63 + 1)), h, bE [0] rfl rfl (aT rfl (aT rfl (bC ⟨rfl, rfl, trivial⟩)))⟩
   ·have h := aZ c68 h
    refine eA ?_
    refine aC ?_
    refine tr1 rfl (aD (v := .d (.lit (.int .i64 k_6_63))) (aA rfl) rfl rfl) ?_
    refine tr1 rfl (bN (aA rfl) rfl rfl rfl) ?_
    refine tr1 rfl (aJ (v := .d (.lit (.int .i64 ((w64 (k_6_63 + 1)))))) (aA rfl) rfl rfl) ?_
    refine aF ?_
    exact ⟨(used_6_63, w64 (k_6_63 + 1)), h, bE [0] rfl rfl (aT rfl (aT rfl (bC ⟨rfl, rfl, trivial⟩)))⟩
  ·have h := aZ c65 h
   refine cV ?_
   refine .inl ⟨rfl, ?_⟩
   simp only [mJ] at h
   refine aG ?_
   refine aC ?_
   refine tr1 rfl (aD (v := .d (.lit w10)) (aA rfl) rfl rfl) ?_
   refine tr1 rfl (aD (v := .d (.lit (.int .i64 used_6_63))) (aA rfl) rfl rfl) ?_
   refine tr1 rfl (bK (aA rfl) rfl rfl rfl) ?_
   refine tr1 rfl (aJ (v := .d (.lit w10)) (aA rfl) rfl rfl) ?_
   refine tr1 rfl (aJ (v := .d (.lit (.bool ((decide (used_6_63 = 0)))))) (aA rfl) rfl rfl) ?_
   refine aF ?_
   have h := Option.some.inj h
   subst h
   refine cQ (cP (sT (k := 5) (v := .d (.lit (.bool ((decide (used_6_63 = 0)))))) (.same _) (sT (k := 4) (v := .d (.sl 1 (out_0_9.map aO))) (.d (lR 0 rfl (dD (f := aO) fun _ => rfl))) (xL)))) ?_
   exact bR ⟨rfl, _, .two _ _, rfl, rfl⟩

theorem mE (t_0 : aN) (l_1 : List aE) {r : aR × Bool} (h : dF t_0 l_1 = some r) : Fn Try.prog 55 [.agg (aQ t_0), .d (.sl 5 (l_1.map aL))] (.tup [.agg (bI r.1), .d (.lit (.bool r.2))]) := by
 unfold dF at h
 refine pF Try.func55 rfl (rs := [.cell 4 89, .tmp 5]) Try.results55 Try.ntmps55 (Nat.le_of_ble_eq_true rfl) ?_
 refine aG ?_
 refine aC ?_
 refine bV rfl (eW (v := .agg (aQ t_0)) (aA rfl) rfl rfl rfl) ?_
 rintro _ ⟨b1, rfl⟩
 refine bV rfl (dI (zs := [.sl 1 ((([] : List Int)).map aO), .sl 1 ((([] : List (List Int))).map gV)]) (aA rfl) Try.zeroValue89 rfl rfl) ?_
 rintro _ ⟨b2, rfl⟩
 refine tr1 rfl (aJ (v := .d (.lit (.bool false))) (aA rfl) rfl rfl) ?_
 refine aF ?_
 refine aG ?_
 refine aC ?_
 refine tr1 rfl (bH (aA rfl) rfl (i := 0) rfl dA (es := (aQ t_0)) rfl rfl) ?_
 refine tr1 rfl (aD (v := .d (.sl 5 (l_1.map aL))) (aA rfl) rfl rfl) ?_
 obtain ⟨r3, h4, h⟩ := bind_some h
 refine tr1 rfl (eR (aA rfl) (.func _ _ Try.call18) rfl rfl (vB _ _ h4)) ?_
 refine tr1 rfl (aD (v := .tup [.d (.sl 1 (r3.1.map aO)), .d (.lit (.bool r3.2))]) (aA rfl) rfl rfl) ?_
 refine tr1 rfl (bM (aA rfl) rfl rfl) ?_
 refine tr1 rfl (bM (aA rfl) rfl rfl) ?_
 refine tr1 rfl (aJ (v := .d (.sl 1 (r3.1.map aO))) (aA rfl) rfl rfl) ?_
 refine tr1 rfl (aJ (v := .d (.lit (.bool r3.2))) (aA rfl) rfl rfl) ?_
 refine aF ?_
 refine aG ?_
 refine aG ?_
 refine aC ?_
 refine tr1 rfl (aD (v := .d (.lit (.bool r3.2))) (aA rfl) rfl rfl) ?_
 refine tr1 rfl (gE (aA rfl) rfl) ?_
 refine aF ?_
 refine bU rfl (fun c5 => ?_) (fun c5 => ?_)
 ·have h := bB c5 h
  refine aG ?_
  refine aC ?_
  refine tr1 rfl (eN (aA rfl) xH (zs := [.sl 1 ((([] : List Int)).map aO), .sl 1 ((([] : List (List Int))).map gV)]) rfl rfl rfl rfl (es := [.sl 1 ((([] : List Int)).map aO), .sl 1 ((([] : List (List Int))).map gV)]) rfl) ?_
  refine tr1 rfl (cE (i := 1) rfl rfl rfl rfl rfl Try.sizeOf89 rfl (aA rfl) (Nat.le_of_ble_eq_true rfl) (ds' := (bI (aR.mk ([] : List Int) ([] : List (List Int))))) rfl) ?_
  refine tr1 rfl (aJ (v := .d (.lit (.bool false))) (aA rfl) rfl rfl) ?_
  refine aF ?_
  have h := Option.some.inj h
  subst h
  exact bR ⟨rfl, _, [.box b1 0 (aQ t_0), .box b2 0 (bI (aR.mk ([] : List Int) ([] : List (List Int))))], .two (.cell 4 89 rfl (i := 1) rfl oZ (es := (bI (aR.mk ([] : List Int) ([] : List (List Int))))) rfl rfl) (.tmp 5 (v := .d (.lit (.bool false))) rfl), .refl _, .same _⟩
 ·have h := aZ c5 h
  refine bS ?_
  refine aG ?_
  refine aC ?_
  refine tr1 rfl (aD (v := .d (.sl 1 (r3.1.map aO))) (aA rfl) rfl rfl) ?_
  refine tr1 rfl (eN (aA rfl) xH (zs := [.sl 1 ((([] : List Int)).map aO), .lit (.slice none 0 0)]) rfl rfl rfl rfl (es := [.sl 1 (r3.1.map aO), .lit (.slice none 0 0)]) rfl) ?_
  refine bV rfl (dI (zs := [.sl 1 ((([] : List Int)).map aO), .lit (.slice none 0 0)]) (aA rfl) Try.zeroValue89 rfl rfl) ?_
  rintro _ ⟨b6, rfl⟩
  refine jT (vC 22 1) ?_
  refine jT (aGi 3 1) ?_
  refine tr1 rfl (cE (i := 2) rfl rfl rfl rfl rfl Try.sizeOf89 rfl (aA rfl) (Nat.le_of_ble_eq_true rfl) (ds' := [.sl 1 (r3.1.map aO), .lit (.slice none 0 0)]) rfl) ?_
  refine aF ?_
  refine aG ?_
  refine aG ?_
  refine aC ?_
  refine tr1 rfl (aJ (v := .d (.lit (.int .i64 0))) (aA rfl) rfl rfl) ?_
  refine aF ?_
  refine cF ?_
  refine dH [1, 2, 4, 6, 8] (fun (s7 : Int × (List (List Int)) × (List Int) × (List Value) × Value) => [(9, .d (.lit (.int .i64 s7.1)))]) (fun (s7 : Int × (List (List Int)) × (List Int) × (List Value) × Value) => [.box b1 0 (aQ t_0), .box b2 0 (bI (aR.mk ([] : List Int) ([] : List (List Int)))), .fam 3 1 s7.2.2.2.1 (s7.2.1.map fun r => r.map aO), .arr s7.2.2.2.2 22 1 (s7.2.2.2.1.map fun v => [.lit v]), .box b6 0 [.sl 1 (s7.2.2.1.map aO), .lit s7.2.2.2.2]]) (fun (k : Nat) (s7 : Int × (List (List Int)) × (List Int) × (List Value) × Value) => eU l_1 r3.1 t_0 (aR.mk ([] : List Int) ([] : List (List Int))) k s7.1 s7.2.1 s7.2.2.1) (fun _ => rfl) (0, ([] : List (List Int)), r3.1, [], (.slice none 0 0)) h (bE [0, 1, 4, 3, 2] rfl rfl (aT rfl (bC ⟨rfl, rfl, rfl, rfl, rfl, trivial⟩))) ?_
  rintro k10 ⟨r_0_7, d_0_7, d_0_7_2, vs8, w9⟩ h
  simp only [eU] at h
  refine aG ?_
  refine aG ?_
  refine aC ?_
  refine tr1 rfl (aD (v := .d (.lit (.int .i64 r_0_7))) (aA rfl) rfl rfl) ?_
  refine tr1 rfl (aW (aA rfl) rfl gM) ?_
  refine tr1 rfl (aY (aA rfl) rfl (i := 0) rfl rfl bO) ?_
  refine tr1 rfl (bK (aA rfl) rfl rfl rfl) ?_
  refine aF ?_
  refine bU rfl (fun c11 => ?_) (fun c11 => ?_)
  ·have h := bB c11 h
   refine bS ?_
   refine aG ?_
   refine cF ?_
   refine aG ?_
   refine aC ?_
   refine tr1 rfl (jG 3 1 (.inl rfl) (aA rfl)) ?_
   refine aF ?_
   refine aG ?_
   refine aG ?_
   refine aC ?_
   refine tr1 rfl (aJ (v := .d (.lit (.int .i64 0))) (aA rfl) rfl rfl) ?_
   refine aF ?_
   refine cF ?_
   refine dH [1, 2, 4, 6, 8, 9] (fun (s13 : Int × (List Int) × Value) => [(10, .d (.lit s13.2.2)), (11, .d (.lit (.int .i64 s13.1)))]) (fun (s13 : Int × (List Int) × Value) => [.box b1 0 (aQ t_0), .box b2 0 (bI (aR.mk ([] : List Int) ([] : List (List Int)))), .fam 3 1 vs8 (d_0_7.map fun r => r.map aO), .arr w9 22 1 (vs8.map fun v => [.lit v]), .box b6 0 [.sl 1 (d_0_7_2.map aO), .lit w9], .arr s13.2.2 3 1 (s13.2.1.map aO)]) (fun (k : Nat) (s13 : Int × (List Int) × Value) => dU (eU l_1 r3.1 t_0 (aR.mk ([] : List Int) ([] : List (List Int))) k10) l_1 r3.1 r_0_7 t_0 (aR.mk ([] : List Int) ([] : List (List Int))) d_0_7 d_0_7_2 k s13.1 s13.2.1) (fun _ => rfl) (0, ([] : List Int), (.slice none 0 0)) h (bE [0, 1, 2, 3, 4, 5] rfl rfl (aT rfl (aT rfl (bC ⟨rfl, rfl, rfl, rfl, rfl, rfl, trivial⟩)))) ?_
   rintro k15 ⟨p_2_13, row_2_13, w14⟩ h
   simp only [dU] at h
   refine aG ?_
   refine aG ?_
   refine aC ?_
   refine tr1 rfl (aD (v := .d (.lit (.int .i64 p_2_13))) (aA rfl) rfl rfl) ?_
   refine tr1 rfl (bH (aA rfl) rfl (i := 0) rfl dA (es := (aQ t_0)) rfl rfl) ?_
   refine tr1 rfl (aD (v := .d (.lit (.int .i64 r_0_7))) (aA rfl) rfl rfl) ?_
   obtain ⟨r16, h17, h⟩ := bind_some h
   refine tr1 rfl (cN (aA rfl) (.func _ _ Try.call42) rfl rfl (BVs.refl _ _) (lF _ _ h17) rfl) ?_
   refine tr1 rfl (bK (aA rfl) rfl rfl rfl) ?_
   refine aF ?_
   refine bU rfl (fun c18 => ?_) (fun c18 => ?_)
   ·have h := bB c18 h
    refine bS ?_
    refine aG ?_
    refine cF ?_
    refine aG ?_
    refine aC ?_
    refine tr1 rfl (aJ (v := .d (.lit (.int .i64 (-2)))) (aA rfl) rfl rfl) ?_
    refine aF ?_
    refine aG ?_
    refine aG ?_
    refine aC ?_
    refine tr1 rfl (aD (v := .d (.lit (.int .i64 r_0_7))) (aA rfl) rfl rfl) ?_
    refine tr1 rfl (bK (aA rfl) rfl rfl rfl) ?_
    refine tr1 rfl (aD (v := .d (.lit (.bool ((decide (r_0_7 = 0)))))) (aA rfl) rfl rfl) ?_
    obtain ⟨b19, h20, h⟩ := bind_some h
    refine cG 7 [1, 2, 4, 6, 8, 9, 10, 11, 12] 55 b19 ?_ ?_
    ·refine bP (decide (r_0_7 = 0)) (fun c52 => ?_) (fun c52 => ?_)
     ·have h20 := bB c52 h20
      refine aM rfl rfl (aA rfl) rfl c52 (aD (v := .d (.sl 1 (r3.1.map aO))) (aA rfl) rfl rfl) ?_
      refine aM rfl rfl (aA rfl) rfl c52 (aD (v := .d (.lit (.int .i64 p_2_13))) (aA rfl) rfl rfl) ?_
      refine aM rfl rfl (aA rfl) rfl c52 (bN (aA rfl) rfl rfl rfl) ?_
      obtain ⟨x53, h54, h20⟩ := bind_some h20
      refine aM rfl rfl (aA rfl) rfl c52 (bQ (aA rfl) rfl rfl cC.of (cA aO h54)) ?_
      refine aM rfl rfl (aA rfl) rfl c52 (bT (aA rfl) rfl bO) ?_
      refine aM rfl rfl (aA rfl) rfl c52 (bK (aA rfl) rfl rfl rfl) ?_
      refine tr1 rfl (bZ (v := .d (.lit (.bool ((decide (x53 = (-1))))))) (aA rfl) rfl c52 rfl rfl) ?_
      have h20 := Option.some.inj h20
      subst h20
      refine aF (bF rfl ⟨rfl, rfl, rfl, rfl, rfl, rfl, rfl, rfl, rfl, trivial⟩ rfl)
     ·have h20 := aZ c52 h20
      refine aP rfl rfl (aA rfl) rfl (aA rfl) rfl c52 ?_
      refine aP rfl rfl (aA rfl) rfl (aA rfl) rfl c52 ?_
      refine aP rfl rfl (aA rfl) rfl (aA rfl) rfl c52 ?_
      refine aP rfl rfl (aA rfl) rfl (aA rfl) rfl c52 ?_
      refine aP rfl rfl (aA rfl) rfl (aA rfl) rfl c52 ?_
      refine aP rfl rfl (aA rfl) rfl (aA rfl) rfl c52 ?_
      refine tr1 rfl (bY (v := .d (.lit (.bool false))) (aA rfl) rfl c52 rfl rfl) ?_
      have h20 := Option.some.inj h20
      subst h20
      refine aF (bF rfl ⟨rfl, rfl, rfl, rfl, rfl, rfl, rfl, rfl, rfl, trivial⟩ rfl)
    ·refine aF ?_
     refine bU rfl (fun c21 => ?_) (fun c21 => ?_)
     ·have h := bB c21 h
      refine aC ?_
      refine tr1 rfl (aD (v := .d (.sl 1 (r3.1.map aO))) (aA rfl) rfl rfl) ?_
      refine tr1 rfl (aD (v := .d (.lit (.int .i64 p_2_13))) (aA rfl) rfl rfl) ?_
      refine tr1 rfl (bN (aA rfl) rfl rfl rfl) ?_
      refine tr1 rfl (bN (aA rfl) rfl rfl rfl) ?_
      obtain ⟨x22, h23, h⟩ := bind_some h
      refine tr1 rfl (bQ (aA rfl) rfl rfl cC.of (cA aO h23)) ?_
      refine tr1 rfl (bT (aA rfl) rfl bO) ?_
      refine tr1 rfl (aJ (v := .d (.lit (.int .i64 x22))) (aA rfl) rfl rfl) ?_
      refine aF ?_
      refine aG ?_
      refine aG ?_
      refine aC ?_
      refine tr1 rfl (aD (v := .d (.lit (.int .i64 r_0_7))) (aA rfl) rfl rfl) ?_
      refine tr1 rfl (bK (aA rfl) rfl rfl rfl) ?_
      refine tr1 rfl (aD (v := .d (.lit (.bool ((decide (r_0_7 = 0)))))) (aA rfl) rfl rfl) ?_
      obtain ⟨b24, h25, h⟩ := bind_some h
      refine cG 8 [1, 2, 4, 6, 8, 9, 10, 11, 12] 72 b24 ?_ ?_
      ·refine bP (decide (r_0_7 = 0)) (fun c35 => ?_) (fun c35 => ?_)
       ·have h25 := bB c35 h25
        refine aM rfl rfl (aA rfl) rfl c35 (aD (v := .d (.sl 1 (r3.1.map aO))) (aA rfl) rfl rfl) ?_
        refine aM rfl rfl (aA rfl) rfl c35 (aD (v := .d (.lit (.int .i64 p_2_13))) (aA rfl) rfl rfl) ?_
        refine aM rfl rfl (aA rfl) rfl c35 (bN (aA rfl) rfl rfl rfl) ?_
        refine aM rfl rfl (aA rfl) rfl c35 (bN (aA rfl) rfl rfl rfl) ?_
        obtain ⟨x36, h37, h25⟩ := bind_some h25
        refine aM rfl rfl (aA rfl) rfl c35 (bQ (aA rfl) rfl rfl cC.of (cA aO h37)) ?_
        refine aM rfl rfl (aA rfl) rfl c35 (bT (aA rfl) rfl bO) ?_
        refine aM rfl rfl (aA rfl) rfl c35 (bK (aA rfl) rfl rfl rfl) ?_
        refine tr1 rfl (bZ (v := .d (.lit (.bool ((decide (x36 = (-1))))))) (aA rfl) rfl c35 rfl rfl) ?_
        have h25 := Option.some.inj h25
        subst h25
        refine aF (bF rfl ⟨rfl, rfl, rfl, rfl, rfl, rfl, rfl, rfl, rfl, trivial⟩ rfl)
       ·have h25 := aZ c35 h25
        refine aP rfl rfl (aA rfl) rfl (aA rfl) rfl c35 ?_
        refine aP rfl rfl (aA rfl) rfl (aA rfl) rfl c35 ?_
        refine aP rfl rfl (aA rfl) rfl (aA rfl) rfl c35 ?_
        refine aP rfl rfl (aA rfl) rfl (aA rfl) rfl c35 ?_
        refine aP rfl rfl (aA rfl) rfl (aA rfl) rfl c35 ?_
        refine aP rfl rfl (aA rfl) rfl (aA rfl) rfl c35 ?_
        refine aP rfl rfl (aA rfl) rfl (aA rfl) rfl c35 ?_
        refine tr1 rfl (bY (v := .d (.lit (.bool false))) (aA rfl) rfl c35 rfl rfl) ?_
        have h25 := Option.some.inj h25
        subst h25
        refine aF (bF rfl ⟨rfl, rfl, rfl, rfl, rfl, rfl, rfl, rfl, rfl, trivial⟩ rfl)
      ·refine aF ?_
       refine bU rfl (fun c26 => ?_) (fun c26 => ?_)
       ·have h := bB c26 h
        refine aC ?_
        refine tr1 rfl (aD (v := .d (.sl 1 (r3.1.map aO))) (aA rfl) rfl rfl) ?_
        refine tr1 rfl (aD (v := .d (.lit (.int .i64 p_2_13))) (aA rfl) rfl rfl) ?_
        refine tr1 rfl (bN (aA rfl) rfl rfl rfl) ?_
        obtain ⟨x27, h28, h⟩ := bind_some h
        refine tr1 rfl (bQ (aA rfl) rfl rfl cC.of (cA aO h28)) ?_
        refine tr1 rfl (bT (aA rfl) rfl bO) ?_
        refine tr1 rfl (aJ (v := .d (.lit (.int .i64 x27))) (aA rfl) rfl rfl) ?_
        refine aF ?_
        refine aC ?_
        refine tr1 rfl (aD (v := .d (.lit w14)) (aA rfl) rfl rfl) ?_
        refine tr1 rfl (aD (v := .d (.lit (.int .i64 x27))) (aA rfl) rfl rfl) ?_
        refine tr1 rfl (fM (aA rfl) cC rfl rfl (rows := ([x27]).map aO) rfl (dD (f := aO) fun _ => rfl) rfl (by decide)) ?_
        obtain ⟨x29, h30, h⟩ := bind_some h
        refine bV rfl (fK (i := 5) (aA rfl) cC rfl rfl rfl (fun _ => rfl) h30 rfl) ?_
        rintro _ ⟨v31, rfl⟩
        refine tr1 rfl (aJ (v := .d (.lit v31)) (aA rfl) rfl rfl) ?_
        refine fD ?_
        refine aC ?_
        refine tr1 rfl (aD (v := .d (.lit (.int .i64 p_2_13))) (aA rfl) rfl rfl) ?_
        refine tr1 rfl (bN (aA rfl) rfl rfl rfl) ?_
        refine tr1 rfl (aJ (v := .d (.lit (.int .i64 ((w64 (p_2_13 + 1)))))) (aA rfl) rfl rfl) ?_
        refine aF ?_
        exact ⟨(w64 (p_2_13 + 1), x29, v31), h, bE [0, 1, 2, 3, 4, 5] rfl rfl (aT rfl (aT rfl (bC ⟨rfl, rfl, rfl, rfl, rfl, rfl, trivial⟩)))⟩
       ·have h := aZ c26 h
        refine bS ?_
        refine aC ?_
        refine tr1 rfl (aD (v := .d (.lit w14)) (aA rfl) rfl rfl) ?_
        refine tr1 rfl (aD (v := .d (.lit (.int .i64 x22))) (aA rfl) rfl rfl) ?_
        refine tr1 rfl (fM (aA rfl) cC rfl rfl (rows := ([x22]).map aO) rfl (dD (f := aO) fun _ => rfl) rfl (by decide)) ?_
        obtain ⟨x32, h33, h⟩ := bind_some h
        refine bV rfl (fK (i := 5) (aA rfl) cC rfl rfl rfl (fun _ => rfl) h33 rfl) ?_
        rintro _ ⟨v34, rfl⟩
        refine tr1 rfl (aJ (v := .d (.lit v34)) (aA rfl) rfl rfl) ?_
        refine fD ?_
        refine aC ?_
        refine tr1 rfl (aD (v := .d (.lit (.int .i64 p_2_13))) (aA rfl) rfl rfl) ?_
        refine tr1 rfl (bN (aA rfl) rfl rfl rfl) ?_
        refine tr1 rfl (aJ (v := .d (.lit (.int .i64 ((w64 (p_2_13 + 1)))))) (aA rfl) rfl rfl) ?_
        refine aF ?_
        exact ⟨(w64 (p_2_13 + 1), x32, v34), h, bE [0, 1, 2, 3, 4, 5] rfl rfl (aT rfl (aT rfl (bC ⟨rfl, rfl, rfl, rfl, rfl, rfl, trivial⟩)))⟩
     ·have h := aZ c21 h
      refine bS ?_
      refine aG ?_
      refine aG ?_
      refine aC ?_
      refine tr1 rfl (aD (v := .d (.lit (.int .i64 r_0_7))) (aA rfl) rfl rfl) ?_
      refine tr1 rfl (bK (aA rfl) rfl rfl rfl) ?_
      refine tr1 rfl (aD (v := .d (.lit (.bool ((decide (r_0_7 = 0)))))) (aA rfl) rfl rfl) ?_
      obtain ⟨b38, h39, h⟩ := bind_some h
      refine cG 8 [1, 2, 4, 6, 8, 9, 10, 11, 12] 72 b38 ?_ ?_
      ·refine bP (decide (r_0_7 = 0)) (fun c49 => ?_) (fun c49 => ?_)
       ·have h39 := bB c49 h39
        refine aM rfl rfl (aA rfl) rfl c49 (aD (v := .d (.sl 1 (r3.1.map aO))) (aA rfl) rfl rfl) ?_
        refine aM rfl rfl (aA rfl) rfl c49 (aD (v := .d (.lit (.int .i64 p_2_13))) (aA rfl) rfl rfl) ?_
        refine aM rfl rfl (aA rfl) rfl c49 (bN (aA rfl) rfl rfl rfl) ?_
        refine aM rfl rfl (aA rfl) rfl c49 (bN (aA rfl) rfl rfl rfl) ?_
        obtain ⟨x50, h51, h39⟩ := bind_some h39
        refine aM rfl rfl (aA rfl) rfl c49 (bQ (aA rfl) rfl rfl cC.of (cA aO h51)) ?_
        refine aM rfl rfl (aA rfl) rfl c49 (bT (aA rfl) rfl bO) ?_
        refine aM rfl rfl (aA rfl) rfl c49 (bK (aA rfl) rfl rfl rfl) ?_
        refine tr1 rfl (bZ (v := .d (.lit (.bool ((decide (x50 = (-1))))))) (aA rfl) rfl c49 rfl rfl) ?_
        have h39 := Option.some.inj h39
        subst h39
        refine aF (bF rfl ⟨rfl, rfl, rfl, rfl, rfl, rfl, rfl, rfl, rfl, trivial⟩ rfl)
       ·have h39 := aZ c49 h39
        refine aP rfl rfl (aA rfl) rfl (aA rfl) rfl c49 ?_
        refine aP rfl rfl (aA rfl) rfl (aA rfl) rfl c49 ?_
        refine aP rfl rfl (aA rfl) rfl (aA rfl) rfl c49 ?_
        refine aP rfl rfl (aA rfl) rfl (aA rfl) rfl c49 ?_
        refine aP rfl rfl (aA rfl) rfl (aA rfl) rfl c49 ?_
        refine aP rfl rfl (aA rfl) rfl (aA rfl) rfl c49 ?_
        refine aP rfl rfl (aA rfl) rfl (aA rfl) rfl c49 ?_
        refine tr1 rfl (bY (v := .d (.lit (.bool false))) (aA rfl) rfl c49 rfl rfl) ?_
        have h39 := Option.some.inj h39
        subst h39
        refine aF (bF rfl ⟨rfl, rfl, rfl, rfl, rfl, rfl, rfl, rfl, rfl, trivial⟩ rfl)
      ·refine aF ?_
       refine bU rfl (fun c40 => ?_) (fun c40 => ?_)
       ·have h := bB c40 h
        refine aC ?_
        refine tr1 rfl (aD (v := .d (.sl 1 (r3.1.map aO))) (aA rfl) rfl rfl) ?_
        refine tr1 rfl (aD (v := .d (.lit (.int .i64 p_2_13))) (aA rfl) rfl rfl) ?_
        refine tr1 rfl (bN (aA rfl) rfl rfl rfl) ?_
        obtain ⟨x41, h42, h⟩ := bind_some h
        refine tr1 rfl (bQ (aA rfl) rfl rfl cC.of (cA aO h42)) ?_
        refine tr1 rfl (bT (aA rfl) rfl bO) ?_
        refine tr1 rfl (aJ (v := .d (.lit (.int .i64 x41))) (aA rfl) rfl rfl) ?_
        refine aF ?_
        refine aC ?_
        refine tr1 rfl (aD (v := .d (.lit w14)) (aA rfl) rfl rfl) ?_
        refine tr1 rfl (aD (v := .d (.lit (.int .i64 x41))) (aA rfl) rfl rfl) ?_
        refine tr1 rfl (fM (aA rfl) cC rfl rfl (rows := ([x41]).map aO) rfl (dD (f := aO) fun _ => rfl) rfl (by decide)) ?_
        obtain ⟨x43, h44, h⟩ := bind_some h
        refine bV rfl (fK (i := 5) (aA rfl) cC rfl rfl rfl (fun _ => rfl) h44 rfl) ?_
        rintro _ ⟨v45, rfl⟩
        refine tr1 rfl (aJ (v := .d (.lit v45)) (aA rfl) rfl rfl) ?_
        refine fD ?_
        refine aC ?_
        refine tr1 rfl (aD (v := .d (.lit (.int .i64 p_2_13))) (aA rfl) rfl rfl) ?_
        refine tr1 rfl (bN (aA rfl) rfl rfl rfl) ?_
        refine tr1 rfl (aJ (v := .d (.lit (.int .i64 ((w64 (p_2_13 + 1)))))) (aA rfl) rfl rfl) ?_
        refine aF ?_
        exact ⟨(w64 (p_2_13 + 1), x43, v45), h, bE [0, 1, 2, 3, 4, 5] rfl rfl (aT rfl (aT rfl (bC ⟨rfl, rfl, rfl, rfl, rfl, rfl, trivial⟩)))⟩
       ·have h := aZ c40 h
        refine bS ?_
        refine aC ?_
        refine tr1 rfl (aD (v := .d (.lit w14)) (aA rfl) rfl rfl) ?_
        refine tr1 rfl (aD (v := .d (.lit (.int .i64 (-2)))) (aA rfl) rfl rfl) ?_
        refine tr1 rfl (fM (aA rfl) cC rfl rfl (rows := ([(-2)]).map aO) rfl (dD (f := aO) fun _ => rfl) rfl (by decide)) ?_
        obtain ⟨x46, h47, h⟩ := bind_some h
        refine bV rfl (fK (i := 5) (aA rfl) cC rfl rfl rfl (fun _ => rfl) h47 rfl) ?_
        rintro _ ⟨v48, rfl⟩
        refine tr1 rfl (aJ (v := .d (.lit v48)) (aA rfl) rfl rfl) ?_
        refine fD ?_
        refine aC ?_
        refine tr1 rfl (aD (v := .d (.lit (.int .i64 p_2_13))) (aA rfl) rfl rfl) ?_
        refine tr1 rfl (bN (aA rfl) rfl rfl rfl) ?_
        refine tr1 rfl (aJ (v := .d (.lit (.int .i64 ((w64 (p_2_13 + 1)))))) (aA rfl) rfl rfl) ?_
        refine aF ?_
        exact ⟨(w64 (p_2_13 + 1), x46, v48), h, bE [0, 1, 2, 3, 4, 5] rfl rfl (aT rfl (aT rfl (bC ⟨rfl, rfl, rfl, rfl, rfl, rfl, trivial⟩)))⟩
   ·have h := aZ c18 h
    refine cV ?_
    refine .inl ⟨rfl, ?_⟩
    simp only [iU] at h
    refine aC ?_
    refine tr1 rfl (aW (aA rfl) rfl nD) ?_
    refine tr1 rfl (aY (aA rfl) rfl (i := 4) rfl rfl rV) ?_
    refine tr1 rfl (aD (v := .d (.lit w14)) (aA rfl) rfl rfl) ?_
    refine tr1 rfl (fM (aA rfl) sP rfl rfl (rows := [[.lit w14]]) rfl (fun r hr => by cases hr with | head => rfl | tail _ h => cases h) rfl (by decide)) ?_
    obtain ⟨x55, h56, h⟩ := bind_some h
    refine bV rfl (aEg (m := 3) (f := 2) (aA rfl) sP rfl rfl rfl rfl h56 rfl) ?_
    rintro _ ⟨v57, rfl⟩
    refine jT (aEx (i := 2) [.box b1 0 (aQ t_0), .box b2 0 (bI (aR.mk ([] : List Int) ([] : List (List Int)))), .fam 3 1 vs8 (d_0_7.map fun r => r.map aO), .arr v57 22 1 ((vs8 ++ [w14]).map fun v => [.lit v]), .box b6 0 [.sl 1 (d_0_7_2.map aO), .lit w9]] [.box b1 0 (aQ t_0), .box b2 0 (bI (aR.mk ([] : List Int) ([] : List (List Int)))), .fam 3 1 (vs8 ++ [w14]) (x55.map fun r => r.map aO), .arr v57 22 1 ((vs8 ++ [w14]).map fun v => [.lit v]), .box b6 0 [.sl 1 (d_0_7_2.map aO), .lit w9]] rfl rfl h56 rfl) ?_
    refine tr1 rfl (aW (aA rfl) rfl nD) ?_
    refine tr1 rfl (cE (i := 4) rfl rfl rfl rfl rfl Try.sizeOf53 rfl (aA rfl) (Nat.le_of_ble_eq_true rfl) (ds' := [.sl 1 (d_0_7_2.map aO), .lit v57]) rfl) ?_
    refine fD ?_
    simp only [oH] at h
    refine aC ?_
    refine tr1 rfl (aD (v := .d (.lit (.int .i64 r_0_7))) (aA rfl) rfl rfl) ?_
    refine tr1 rfl (bN (aA rfl) rfl rfl rfl) ?_
    refine tr1 rfl (aJ (v := .d (.lit (.int .i64 ((w64 (r_0_7 + 1)))))) (aA rfl) rfl rfl) ?_
    refine aF ?_
    exact ⟨(w64 (r_0_7 + 1), x55, d_0_7_2, (vs8 ++ [w14]), v57), h, bE [0, 1, 2, 3, 4] rfl rfl (aT rfl (bC ⟨rfl, rfl, rfl, rfl, rfl, trivial⟩))⟩
  ·have h := aZ c11 h
   refine cV ?_
   refine .inl ⟨rfl, ?_⟩
   simp only [iT] at h
   refine aG ?_
   refine aC ?_
   refine tr1 rfl (aD (v := .d (.sl 5 (l_1.map aL))) (aA rfl) rfl rfl) ?_
   obtain ⟨r58, h59, h⟩ := bind_some h
   refine tr1 rfl (eR (aA rfl) (.func _ _ Try.call51) rfl rfl (sH _ h59)) ?_
   refine tr1 rfl (aJ (v := .d (.sl 5 (r58.map aL))) (aA rfl) rfl rfl) ?_
   refine aF ?_
   refine aG ?_
   refine aG ?_
   refine aC ?_
   refine tr1 rfl (aJ (v := .d (.lit (.int .i64 0))) (aA rfl) rfl rfl) ?_
   refine aF ?_
   refine cF ?_
   refine dH [4, 6, 8, 13] (fun (s60 : Int × aR × (List (List Int)) × (List Value)) => [(14, .d (.lit (.int .i64 s60.1)))]) (fun (s60 : Int × aR × (List (List Int)) × (List Value)) => [.box b2 0 (bI s60.2.1), .fam 3 1 s60.2.2.2 (s60.2.2.1.map fun r => r.map aO), .arr w9 22 1 (s60.2.2.2.map fun v => [.lit v]), .box b6 0 [.sl 1 (d_0_7_2.map aO), .lit w9]]) (fun (k : Nat) (s60 : Int × aR × (List (List Int)) × (List Value)) => dB r3.1 r58 d_0_7_2 k s60.1 s60.2.1 s60.2.2.1) (fun _ => rfl) (0, (aR.mk ([] : List Int) ([] : List (List Int))), d_0_7, vs8) h (bE [1, 2, 3, 4] rfl rfl (aT rfl (bC ⟨rfl, rfl, rfl, rfl, trivial⟩))) ?_
   rintro k62 ⟨i_4_60, o4_4_60, d_4_60, vs61⟩ h
   simp only [dB] at h
   refine aG ?_
   refine aG ?_
   refine aC ?_
   refine tr1 rfl (aD (v := .d (.lit (.int .i64 i_4_60))) (aA rfl) rfl rfl) ?_
   refine tr1 rfl (aD (v := .d (.sl 5 (r58.map aL))) (aA rfl) rfl rfl) ?_
   refine tr1 rfl (dZ (aA rfl) rfl fQ.of) ?_
   refine tr1 rfl (bK (aA rfl) rfl rfl rfl) ?_
   refine aF ?_
   refine bU rfl (fun c63 => ?_) (fun c63 => ?_)
   ·have h := bB c63 h
    refine bS ?_
    refine aG ?_
    refine cF ?_
    refine aG ?_
    refine aC ?_
    refine tr1 rfl (aD (v := .d (.sl 5 (r58.map aL))) (aA rfl) rfl rfl) ?_
    refine tr1 rfl (aD (v := .d (.lit (.int .i64 i_4_60))) (aA rfl) rfl rfl) ?_
    obtain ⟨x64, h65, h⟩ := bind_some h
    refine tr1 rfl (bQ (aA rfl) rfl rfl fQ.of (cA aL h65)) ?_
    refine tr1 rfl (gC (aA rfl) rfl iN (es := (aL x64)) rfl rfl) ?_
    refine bV rfl (dI (zs := [.lit (.int .i64 0), .lit (.int .i64 0), .lit (.int .i64 0), .lit (.int .i64 0), .lit (.int .i64 0)]) (aA rfl) Try.zeroValue32 rfl rfl) ?_
    rintro _ ⟨b66, rfl⟩
    refine tr1 rfl (cE (i := 4) rfl rfl rfl rfl rfl Try.sizeOf32 rfl (aA rfl) (Nat.le_of_ble_eq_true rfl) (ds' := (aL x64)) rfl) ?_
    refine aF ?_
    refine aG ?_
    refine aG ?_
    refine aC ?_
    refine tr1 rfl (aW (aA rfl) rfl nB) ?_
    refine tr1 rfl (aY (aA rfl) rfl (i := 4) rfl rfl bO) ?_
    refine tr1 rfl (bK (aA rfl) rfl rfl rfl) ?_
    refine aF ?_
    refine bU rfl (fun c67 => ?_) (fun c67 => ?_)
    ·have h := bB c67 h
     refine cV ?_
     refine .inl ⟨rfl, ?_⟩
     simp only [iV] at h
     refine aC ?_
     refine tr1 rfl (aD (v := .d (.lit (.int .i64 i_4_60))) (aA rfl) rfl rfl) ?_
     refine tr1 rfl (bN (aA rfl) rfl rfl rfl) ?_
     refine tr1 rfl (aJ (v := .d (.lit (.int .i64 ((w64 (i_4_60 + 1)))))) (aA rfl) rfl rfl) ?_
     refine aF ?_
     exact ⟨(w64 (i_4_60 + 1), o4_4_60, d_4_60, vs61), h, bE [0, 1, 2, 3] rfl rfl (aT rfl (bC ⟨rfl, rfl, rfl, rfl, trivial⟩))⟩
    ·have h := aZ c67 h
     refine bS ?_
     refine aG ?_
     refine aG ?_
     refine aC ?_
     refine tr1 rfl (aJ (v := .d (.lit (.int .i64 0))) (aA rfl) rfl rfl) ?_
     refine aF ?_
     refine cF ?_
     refine dH [4, 6, 8, 13, 14, 15] (fun (s68 : Int × aR) => [(16, .d (.lit (.int .i64 s68.1)))]) (fun (s68 : Int × aR) => [.box b2 0 (bI s68.2), .fam 3 1 vs61 (d_4_60.map fun r => r.map aO), .arr w9 22 1 (vs61.map fun v => [.lit v]), .box b6 0 [.sl 1 (d_0_7_2.map aO), .lit w9], .box b66 0 (aL x64)]) (fun (k : Nat) (s68 : Int × aR) => fT (dB r3.1 r58 d_0_7_2 k62) r3.1 r58 i_4_60 d_4_60 d_0_7_2 x64 k s68.1 s68.2) (fun _ => rfl) (0, o4_4_60) h (bE [0, 1, 2, 3, 4] rfl rfl (aT rfl (bC ⟨rfl, rfl, rfl, rfl, rfl, rfl, trivial⟩))) ?_
     rintro k69 ⟨k_6_68, o4_6_68⟩ h
     simp only [fT] at h
     refine aG ?_
     refine aG ?_
     refine aC ?_
     refine tr1 rfl (aD (v := .d (.lit (.int .i64 k_6_68))) (aA rfl) rfl rfl) ?_
     refine tr1 rfl (aD (v := .d (.lit (.int .i64 i_4_60))) (aA rfl) rfl rfl) ?_
     refine tr1 rfl (bK (aA rfl) rfl rfl rfl) ?_
     refine aF ?_
     refine bU rfl (fun c70 => ?_) (fun c70 => ?_)
     ·have h := bB c70 h
      refine bS ?_
      refine aG ?_
      refine cF ?_
      refine aG ?_
      refine aC ?_
      refine tr1 rfl (aD (v := .d (.sl 5 (r58.map aL))) (aA rfl) rfl rfl) ?_
      refine tr1 rfl (aD (v := .d (.lit (.int .i64 k_6_68))) (aA rfl) rfl rfl) ?_
      obtain ⟨x71, h72, h⟩ := bind_some h
      refine tr1 rfl (bQ (aA rfl) rfl rfl fQ.of (cA aL h72)) ?_
      refine tr1 rfl (gC (aA rfl) rfl iN (es := (aL x71)) rfl rfl) ?_
      refine bV rfl (dI (zs := [.lit (.int .i64 0), .lit (.int .i64 0), .lit (.int .i64 0), .lit (.int .i64 0), .lit (.int .i64 0)]) (aA rfl) Try.zeroValue32 rfl rfl) ?_
      rintro _ ⟨b73, rfl⟩
      refine tr1 rfl (cE (i := 5) rfl rfl rfl rfl rfl Try.sizeOf32 rfl (aA rfl) (Nat.le_of_ble_eq_true rfl) (ds' := (aL x71)) rfl) ?_
      refine aF ?_
      refine aG ?_
      refine aC ?_
      refine tr1 rfl (aW (aA rfl) rfl nB) ?_
      refine tr1 rfl (aY (aA rfl) rfl (i := 5) rfl rfl bO) ?_
      refine tr1 rfl (bK (aA rfl) rfl rfl rfl) ?_
      refine tr1 rfl (aD (v := .d (.lit (.bool ((!decide (x71.Kind = 5)))))) (aA rfl) rfl rfl) ?_
      obtain ⟨b74, h75, h⟩ := bind_some h
      refine cG 6 [4, 6, 8, 13, 14, 15, 16, 17] 121 b74 ?_ ?_
      ·refine bP (!decide (x71.Kind = 5)) (fun c80 => ?_) (fun c80 => ?_)
       ·have h75 := bB c80 h75
        refine aM rfl rfl (aA rfl) rfl c80 (aW (aA rfl) rfl kZ) ?_
        refine aM rfl rfl (aA rfl) rfl c80 (aY (aA rfl) rfl (i := 5) rfl rfl bO) ?_
        refine aM rfl rfl (aA rfl) rfl c80 (aW (aA rfl) rfl kZ) ?_
        refine aM rfl rfl (aA rfl) rfl c80 (aY (aA rfl) rfl (i := 4) rfl rfl bO) ?_
        refine aM rfl rfl (aA rfl) rfl c80 (bK (aA rfl) rfl rfl rfl) ?_
        refine tr1 rfl (bZ (v := .d (.lit (.bool ((decide (x71.Round = x64.Round)))))) (aA rfl) rfl c80 rfl rfl) ?_
        have h75 := Option.some.inj h75
        subst h75
        refine aF (bF rfl ⟨rfl, rfl, rfl, rfl, rfl, rfl, rfl, rfl, trivial⟩ rfl)
       ·have h75 := aZ c80 h75
        refine aP rfl rfl (aA rfl) rfl (aA rfl) rfl c80 ?_
        refine aP rfl rfl (aA rfl) rfl (aA rfl) rfl c80 ?_
        refine aP rfl rfl (aA rfl) rfl (aA rfl) rfl c80 ?_
        refine aP rfl rfl (aA rfl) rfl (aA rfl) rfl c80 ?_
        refine aP rfl rfl (aA rfl) rfl (aA rfl) rfl c80 ?_
        refine tr1 rfl (bY (v := .d (.lit (.bool false))) (aA rfl) rfl c80 rfl rfl) ?_
        have h75 := Option.some.inj h75
        subst h75
        refine aF (bF rfl ⟨rfl, rfl, rfl, rfl, rfl, rfl, rfl, rfl, trivial⟩ rfl)
      ·refine tr1 rfl (aD (v := .d (.lit (.bool b74))) (aA rfl) rfl rfl) ?_
       obtain ⟨b76, h77, h⟩ := bind_some h
       refine cG 6 [4, 6, 8, 13, 14, 15, 16] 128 b76 ?_ ?_
       ·refine bP (b74) (fun c79 => ?_) (fun c79 => ?_)
        ·have h77 := bB c79 h77
         refine aM rfl rfl (aA rfl) rfl c79 (aW (aA rfl) rfl iM) ?_
         refine aM rfl rfl (aA rfl) rfl c79 (aY (aA rfl) rfl (i := 5) rfl rfl bO) ?_
         refine aM rfl rfl (aA rfl) rfl c79 (aW (aA rfl) rfl iM) ?_
         refine aM rfl rfl (aA rfl) rfl c79 (aY (aA rfl) rfl (i := 4) rfl rfl bO) ?_
         refine aM rfl rfl (aA rfl) rfl c79 (bK (aA rfl) rfl rfl rfl) ?_
         refine tr1 rfl (bZ (v := .d (.lit (.bool ((decide (x71.Place = x64.Place)))))) (aA rfl) rfl c79 rfl rfl) ?_
         have h77 := Option.some.inj h77
         subst h77
         refine aF (bF rfl ⟨rfl, rfl, rfl, rfl, rfl, rfl, rfl, trivial⟩ rfl)
        ·have h77 := aZ c79 h77
         refine aP rfl rfl (aA rfl) rfl (aA rfl) rfl c79 ?_
         refine aP rfl rfl (aA rfl) rfl (aA rfl) rfl c79 ?_
         refine aP rfl rfl (aA rfl) rfl (aA rfl) rfl c79 ?_
         refine aP rfl rfl (aA rfl) rfl (aA rfl) rfl c79 ?_
         refine aP rfl rfl (aA rfl) rfl (aA rfl) rfl c79 ?_
         refine tr1 rfl (bY (v := .d (.lit (.bool false))) (aA rfl) rfl c79 rfl rfl) ?_
         have h77 := Option.some.inj h77
         subst h77
         refine aF (bF rfl ⟨rfl, rfl, rfl, rfl, rfl, rfl, rfl, trivial⟩ rfl)
       ·refine aF ?_
        refine bU rfl (fun c78 => ?_) (fun c78 => ?_)
        ·have h := bB c78 h
         refine aG ?_
         refine aC ?_
         refine tr1 rfl (eN (aA rfl) xH (zs := [.sl 1 ((([] : List Int)).map aO), .sl 1 ((([] : List (List Int))).map gV)]) rfl rfl rfl rfl (es := [.sl 1 ((([] : List Int)).map aO), .sl 1 ((([] : List (List Int))).map gV)]) rfl) ?_
         refine tr1 rfl (cE (i := 0) rfl rfl rfl rfl rfl Try.sizeOf89 rfl (aA rfl) (Nat.le_of_ble_eq_true rfl) (ds' := (bI (aR.mk ([] : List Int) ([] : List (List Int))))) rfl) ?_
         refine tr1 rfl (aJ (v := .d (.lit (.bool false))) (aA rfl) rfl rfl) ?_
         refine aF ?_
         have h := Option.some.inj h
         subst h
         exact bR ⟨rfl, _, [.box b2 0 (bI (aR.mk ([] : List Int) ([] : List (List Int)))), .fam 3 1 vs61 (d_4_60.map fun r => r.map aO), .arr w9 22 1 (vs61.map fun v => [.lit v]), .box b6 0 [.sl 1 (d_0_7_2.map aO), .lit w9], .box b66 0 (aL x64), .box b73 0 (aL x71)], .two (.cell 4 89 rfl (i := 0) rfl oZ (es := (bI (aR.mk ([] : List Int) ([] : List (List Int))))) rfl rfl) (.tmp 5 (v := .d (.lit (.bool false))) rfl), .refl _, .same _⟩
        ·have h := aZ c78 h
         refine eA ?_
         refine aC ?_
         refine tr1 rfl (aD (v := .d (.lit (.int .i64 k_6_68))) (aA rfl) rfl rfl) ?_
         refine tr1 rfl (bN (aA rfl) rfl rfl rfl) ?_
         refine tr1 rfl (aJ (v := .d (.lit (.int .i64 ((w64 (k_6_68 + 1)))))) (aA rfl) rfl rfl) ?_
         refine aF ?_
         exact ⟨(w64 (k_6_68 + 1), o4_6_68), h, bE [0, 1, 2, 3, 4] rfl rfl (aT rfl (bC ⟨rfl, rfl, rfl, rfl, rfl, rfl, trivial⟩))⟩
     ·have h := aZ c70 h
      refine cV ?_
      refine .inl ⟨rfl, ?_⟩
      simp only [lP] at h
      refine aG ?_
      refine aC ?_
      refine tr1 rfl (aJ (v := .d (.lit (.int .i64 (-1)))) (aA rfl) rfl rfl) ?_
      refine aF ?_
      refine aG ?_
      refine aG ?_
      refine aC ?_
      refine tr1 rfl (aJ (v := .d (.lit (.int .i64 0))) (aA rfl) rfl rfl) ?_
      refine aF ?_
      refine cF ?_
      refine dH [4, 6, 8, 13, 14, 15] (fun (s81 : Int × Int) => [(18, .d (.lit (.int .i64 s81.1))), (19, .d (.lit (.int .i64 s81.2)))]) (fun (s81 : Int × Int) => [.box b2 0 (bI o4_6_68), .fam 3 1 vs61 (d_4_60.map fun r => r.map aO), .arr w9 22 1 (vs61.map fun v => [.lit v]), .box b6 0 [.sl 1 (d_0_7_2.map aO), .lit w9], .box b66 0 (aL x64)]) (fun (k : Nat) (s81 : Int × Int) => dN (dB r3.1 r58 d_0_7_2 k62) r3.1 r58 i_4_60 o4_6_68 d_4_60 d_0_7_2 x64 k s81.1 s81.2) (fun _ => rfl) ((-1), 0) h (bE [0, 1, 2, 3, 4] rfl rfl (aT rfl (aT rfl (bC ⟨rfl, rfl, rfl, rfl, rfl, rfl, trivial⟩)))) ?_
      rintro k82 ⟨atv_8_81, s_8_81⟩ h
      simp only [dN] at h
      refine aG ?_
      refine aG ?_
      refine aC ?_
      refine tr1 rfl (aD (v := .d (.lit (.int .i64 s_8_81))) (aA rfl) rfl rfl) ?_
      refine tr1 rfl (aD (v := .d (.sl 1 (r3.1.map aO))) (aA rfl) rfl rfl) ?_
      refine tr1 rfl (dZ (aA rfl) rfl cC.of) ?_
      refine tr1 rfl (bK (aA rfl) rfl rfl rfl) ?_
      refine aF ?_
      refine bU rfl (fun c83 => ?_) (fun c83 => ?_)
      ·have h := bB c83 h
       refine bS ?_
       refine aG ?_
       refine cF ?_
       refine aG ?_
       obtain ⟨x84, h85, h⟩ := bind_some h
       refine dQ mix 6 [4, 6, 8, 13, 14, 15, 18, 19] [(139, .d (.lit (.int .i64 x84))), (141, .d (.lit (.int .i64 x64.Player)))] ?_ ?_
       ·refine ⟨[(136, 0, .d (.sl 1 (r3.1.map aO))), (137, 1, .d (.lit (.int .i64 s_8_81))), (138, 2, .cp [.lit (.int .i64 x84)]), (139, 3, .d (.lit (.int .i64 x84))), (140, 4, .bp b66 0 3), (141, 5, .d (.lit (.int .i64 x64.Player)))], ?_, ?_⟩
        · exact ⟨by kernel_rfl, by kernel_rfl, by kernel_rfl, by kernel_rfl, by kernel_rfl, [([], []), ([], []), ([0, 1], []), ([2], []), ([], []), ([4], [])], by kernel_rfl, ⟨fun S hS => aH rfl (aS rfl (aD (v := .d (.sl 1 (r3.1.map aO))) (aA rfl) (aI hS rfl) rfl)),
      fun S hS => aH rfl (aS rfl (aD (v := .d (.lit (.int .i64 s_8_81))) (aA rfl) (aI hS rfl) rfl)),
      fun S hS => aH rfl (aS rfl (bQ (aA rfl) (aI hS rfl) (aI hS rfl) cC.of (cA aO h85))),
      fun S hS => aH rfl (aS rfl (bT (aA rfl) (aI hS rfl) bO)),
      fun S hS => aH rfl (aS rfl (aW (aA rfl) (aI hS rfl) lX)),
      fun S hS => aH rfl (aS rfl (aY (aA rfl) (aI hS rfl) (i := 4) rfl rfl bO)), trivial⟩⟩
        · exact dC (aT rfl (aT rfl (bC ⟨rfl, rfl, rfl, rfl, rfl, rfl, rfl, rfl, trivial⟩)))
       ·refine tr1 rfl (bK (aA rfl) rfl rfl rfl) ?_
        refine aF ?_
        refine bU rfl (fun c86 => ?_) (fun c86 => ?_)
        ·have h := bB c86 h
         refine aC ?_
         refine tr1 rfl (aD (v := .d (.lit (.int .i64 s_8_81))) (aA rfl) rfl rfl) ?_
         refine tr1 rfl (aJ (v := .d (.lit (.int .i64 s_8_81))) (aA rfl) rfl rfl) ?_
         refine fD ?_
         refine aC ?_
         refine tr1 rfl (aD (v := .d (.lit (.int .i64 s_8_81))) (aA rfl) rfl rfl) ?_
         refine tr1 rfl (bN (aA rfl) rfl rfl rfl) ?_
         refine tr1 rfl (aJ (v := .d (.lit (.int .i64 ((w64 (s_8_81 + 1)))))) (aA rfl) rfl rfl) ?_
         refine aF ?_
         exact ⟨(s_8_81, w64 (s_8_81 + 1)), h, bE [0, 1, 2, 3, 4] rfl rfl (aT rfl (aT rfl (bC ⟨rfl, rfl, rfl, rfl, rfl, rfl, trivial⟩)))⟩
        ·have h := aZ c86 h
         refine eA ?_
         refine aC ?_
         refine tr1 rfl (aD (v := .d (.lit (.int .i64 s_8_81))) (aA rfl) rfl rfl) ?_
         refine tr1 rfl (bN (aA rfl) rfl rfl rfl) ?_
         refine tr1 rfl (aJ (v := .d (.lit (.int .i64 ((w64 (s_8_81 + 1)))))) (aA rfl) rfl rfl) ?_
         refine aF ?_
         exact ⟨(atv_8_81, w64 (s_8_81 + 1)), h, bE [0, 1, 2, 3, 4] rfl rfl (aT rfl (aT rfl (bC ⟨rfl, rfl, rfl, rfl, rfl, rfl, trivial⟩)))⟩
      ·have h := aZ c83 h
       refine cV ?_
       refine .inl ⟨rfl, ?_⟩
       simp only [fS] at h
       refine aG ?_
       refine aG ?_
       refine aC ?_
       refine tr1 rfl (aD (v := .d (.lit (.int .i64 atv_8_81))) (aA rfl) rfl rfl) ?_
       refine tr1 rfl (bK (aA rfl) rfl rfl rfl) ?_
       refine tr1 rfl (aD (v := .d (.lit (.bool ((decide (atv_8_81 < 0)))))) (aA rfl) rfl rfl) ?_
       obtain ⟨b87, h88, h⟩ := bind_some h
       refine cG 10 [4, 6, 8, 13, 14, 15, 18] 156 b87 ?_ ?_
       ·refine bP (decide (atv_8_81 < 0)) (fun c112 => ?_) (fun c112 => ?_)
        ·have h88 := bB c112 h88
         refine aP rfl rfl (aA rfl) rfl (aA rfl) rfl c112 ?_
         refine aP rfl rfl (aA rfl) rfl (aA rfl) rfl c112 ?_
         refine aP rfl rfl (aA rfl) rfl (aA rfl) rfl c112 ?_
         refine aP rfl rfl (aA rfl) rfl (aA rfl) rfl c112 ?_
         refine aP rfl rfl (aA rfl) rfl (aA rfl) rfl c112 ?_
         refine aP rfl rfl (aA rfl) rfl (aA rfl) rfl c112 ?_
         refine aP rfl rfl (aA rfl) rfl (aA rfl) rfl c112 ?_
         refine aP rfl rfl (aA rfl) rfl (aA rfl) rfl c112 ?_
         refine aP rfl rfl (aA rfl) rfl (aA rfl) rfl c112 ?_
         refine tr1 rfl (bZ (v := .d (.lit (.bool true))) (aA rfl) rfl c112 rfl rfl) ?_
         have h88 := Option.some.inj h88
         subst h88
         refine aF (bF rfl ⟨rfl, rfl, rfl, rfl, rfl, rfl, rfl, trivial⟩ rfl)
        ·have h88 := aZ c112 h88
         refine aM rfl rfl (aA rfl) rfl c112 (aD (v := .d (.lit (.int .i64 atv_8_81))) (aA rfl) rfl rfl) ?_
         refine aM rfl rfl (aA rfl) rfl c112 (aW (aA rfl) rfl kZ) ?_
         refine aM rfl rfl (aA rfl) rfl c112 (aY (aA rfl) rfl (i := 4) rfl rfl bO) ?_
         refine aM rfl rfl (aA rfl) rfl c112 (bN (aA rfl) rfl rfl rfl) ?_
         refine aM rfl rfl (aA rfl) rfl c112 (aAu (aA rfl) rfl Try.runUnderlying3 Try.runUnderlying45) ?_
         obtain ⟨u113, h114, h88⟩ := bind_some h88
         refine aM rfl rfl (aA rfl) rfl c112 (aAx (aA rfl) rfl rfl (tR h114)) ?_
         refine aM rfl rfl (aA rfl) rfl c112 (aW (aA rfl) rfl iM) ?_
         refine aM rfl rfl (aA rfl) rfl c112 (aY (aA rfl) rfl (i := 4) rfl rfl bO) ?_
         refine aM rfl rfl (aA rfl) rfl c112 (bK (aA rfl) rfl rfl rfl) ?_
         refine tr1 rfl (bY (v := .d (.lit (.bool ((!decide ((atv_8_81.fdiv (2 ^ (min (IntKind.u64.wrap (w64 (x64.Round + 1))).toNat 64))) = x64.Place)))))) (aA rfl) rfl c112 rfl rfl) ?_
         have h88 := Option.some.inj h88
         subst h88
         refine aF (bF rfl ⟨rfl, rfl, rfl, rfl, rfl, rfl, rfl, trivial⟩ rfl)
       ·refine aF ?_
        refine bU rfl (fun c89 => ?_) (fun c89 => ?_)
        ·have h := bB c89 h
         refine aG ?_
         refine aC ?_
         refine tr1 rfl (eN (aA rfl) xH (zs := [.sl 1 ((([] : List Int)).map aO), .sl 1 ((([] : List (List Int))).map gV)]) rfl rfl rfl rfl (es := [.sl 1 ((([] : List Int)).map aO), .sl 1 ((([] : List (List Int))).map gV)]) rfl) ?_
         refine tr1 rfl (cE (i := 0) rfl rfl rfl rfl rfl Try.sizeOf89 rfl (aA rfl) (Nat.le_of_ble_eq_true rfl) (ds' := (bI (aR.mk ([] : List Int) ([] : List (List Int))))) rfl) ?_
         refine tr1 rfl (aJ (v := .d (.lit (.bool false))) (aA rfl) rfl rfl) ?_
         refine aF ?_
         have h := Option.some.inj h
         subst h
         exact bR ⟨rfl, _, [.box b2 0 (bI (aR.mk ([] : List Int) ([] : List (List Int)))), .fam 3 1 vs61 (d_4_60.map fun r => r.map aO), .arr w9 22 1 (vs61.map fun v => [.lit v]), .box b6 0 [.sl 1 (d_0_7_2.map aO), .lit w9], .box b66 0 (aL x64)], .two (.cell 4 89 rfl (i := 0) rfl oZ (es := (bI (aR.mk ([] : List Int) ([] : List (List Int))))) rfl rfl) (.tmp 5 (v := .d (.lit (.bool false))) rfl), .refl _, .same _⟩
        ·have h := aZ c89 h
         refine bS ?_
         refine aG ?_
         refine aC ?_
         refine tr1 rfl (aJ (v := .d (.lit (.int .i64 0))) (aA rfl) rfl rfl) ?_
         refine aF ?_
         refine sW ?_
         refine dH [4, 6, 8, 13, 14, 15, 18] (fun (s90 : Int × aR × (List (List Int)) × (List Value)) => [(20, .d (.lit (.int .i64 s90.1)))]) (fun (s90 : Int × aR × (List (List Int)) × (List Value)) => [.box b2 0 (bI s90.2.1), .fam 3 1 s90.2.2.2 (s90.2.2.1.map fun r => r.map aO), .arr w9 22 1 (s90.2.2.2.map fun v => [.lit v]), .box b6 0 [.sl 1 (d_0_7_2.map aO), .lit w9], .box b66 0 (aL x64)]) (fun (k : Nat) (s90 : Int × aR × (List (List Int)) × (List Value)) => fI (dB r3.1 r58 d_0_7_2 k62) r3.1 r58 i_4_60 atv_8_81 d_0_7_2 x64 k s90.1 s90.2.1 s90.2.2.1) (fun _ => rfl) (0, o4_6_68, d_4_60, vs61) h (bE [0, 1, 2, 3, 4] rfl rfl (aT rfl (bC ⟨rfl, rfl, rfl, rfl, rfl, rfl, rfl, trivial⟩))) ?_
         rintro k92 ⟨r_10_90, o4_10_90, d_10_90, vs91⟩ h
         simp only [fI] at h
         refine aG ?_
         refine aG ?_
         refine aC ?_
         refine tr1 rfl (aD (v := .d (.lit (.int .i64 r_10_90))) (aA rfl) rfl rfl) ?_
         refine tr1 rfl (aW (aA rfl) rfl kZ) ?_
         refine tr1 rfl (aY (aA rfl) rfl (i := 4) rfl rfl bO) ?_
         refine tr1 rfl (bK (aA rfl) rfl rfl rfl) ?_
         refine aF ?_
         refine bU rfl (fun c93 => ?_) (fun c93 => ?_)
         ·have h := bB c93 h
          refine bS ?_
          refine aG ?_
          refine cF ?_
          refine aG ?_
          refine aC ?_
          refine tr1 rfl (aD (v := .d (.lit (.int .i64 atv_8_81))) (aA rfl) rfl rfl) ?_
          refine tr1 rfl (aD (v := .d (.lit (.int .i64 r_10_90))) (aA rfl) rfl rfl) ?_
          refine tr1 rfl (bN (aA rfl) rfl rfl rfl) ?_
          refine tr1 rfl (aAu (aA rfl) rfl Try.runUnderlying3 Try.runUnderlying45) ?_
          obtain ⟨u94, h95, h⟩ := bind_some h
          refine tr1 rfl (aAx (aA rfl) rfl rfl (tR h95)) ?_
          refine tr1 rfl (aJ (v := .d (.lit (.int .i64 ((atv_8_81.fdiv (2 ^ (min (IntKind.u64.wrap (w64 (r_10_90 + 1))).toNat 64))))))) (aA rfl) rfl rfl) ?_
          refine aF ?_
          refine aG ?_
          refine aG ?_
          obtain ⟨x96, h97, h⟩ := bind_some h
          obtain ⟨x98, h99, h⟩ := bind_some h
          obtain ⟨b100, h101, h⟩ := bind_some h
          refine dQ mix 22 [4, 6, 8, 13, 14, 15, 18, 20, 21] [(190, .d (.lit (.bool b100)))] ?_ ?_
          ·refine bP (!decide (x98 = (-2))) (fun c102 => ?_) (fun c102 => ?_)
           ·have h101 := bB c102 h101
            obtain ⟨x103, h104, h101⟩ := bind_some h101
            obtain ⟨x105, h106, h101⟩ := bind_some h101
            have h101 := Option.some.inj h101
            subst h101
            refine ⟨[(169, 0, .bp b6 0 1), (170, 1, .d (.lit w9)), (171, 2, .d (.lit (.int .i64 r_10_90))), (172, 3, .ep w9 1 r_10_90.toNat 0), (173, 4, .d (.lit (pL vs91 r_10_90))), (174, 5, .d (.lit (.int .i64 ((atv_8_81.fdiv (2 ^ (min (IntKind.u64.wrap (w64 (r_10_90 + 1))).toNat 64))))))), (175, 6, .ep (pL vs91 r_10_90) 1 (atv_8_81.fdiv (2 ^ (min (IntKind.u64.wrap (w64 (r_10_90 + 1))).toNat 64))).toNat 0), (176, 7, .d (.lit (.int .i64 x98))), (177, 8, .d (.lit (.bool ((!decide (x98 = (-2))))))), (178, 9, .d (.lit (.bool ((!decide (x98 = (-2))))))), (179, 10, .bp b6 0 1), (180, 11, .d (.lit w9)), (181, 12, .d (.lit (.int .i64 r_10_90))), (182, 13, .ep w9 1 r_10_90.toNat 0), (183, 14, .d (.lit (pL vs91 r_10_90))), (184, 15, .d (.lit (.int .i64 ((atv_8_81.fdiv (2 ^ (min (IntKind.u64.wrap (w64 (r_10_90 + 1))).toNat 64))))))), (185, 16, .ep (pL vs91 r_10_90) 1 (atv_8_81.fdiv (2 ^ (min (IntKind.u64.wrap (w64 (r_10_90 + 1))).toNat 64))).toNat 0), (186, 17, .d (.lit (.int .i64 x105))), (187, 18, .bp b66 0 3), (188, 19, .d (.lit (.int .i64 x64.Player))), (189, 20, .d (.lit (.bool ((!decide (x105 = x64.Player)))))), (190, 21, .d (.lit (.bool ((!decide (x105 = x64.Player))))))], ?_, ?_⟩
            · exact ⟨by kernel_rfl, by kernel_rfl, by kernel_rfl, by kernel_rfl, by kernel_rfl, [([], []), ([0], []), ([], []), ([1, 2], []), ([3], []), ([], []), ([4, 5], []), ([6], []), ([7], []), ([8], []), ([9], []), ([9, 10], []), ([9], []), ([9, 11, 12], []), ([9, 13], []), ([9], []), ([9, 14, 15], []), ([9, 16], []), ([9], []), ([9, 18], []), ([9, 17, 19], []), ([9, 20], [])], by kernel_rfl, ⟨fun S hS => aH rfl (aS rfl (aW (aA rfl) (aI hS rfl) nD)),
      fun S hS => aH rfl (aS rfl (aY (aA rfl) (aI hS rfl) (i := 3) rfl rfl rV)),
      fun S hS => aH rfl (aS rfl (aD (v := .d (.lit (.int .i64 r_10_90))) (aA rfl) (aI hS rfl) rfl)),
      fun S hS => aH rfl (aS rfl (qL (m := 2) (f := 1) (aA rfl) (aI hS rfl) rfl rfl (aI hS rfl) sP.of h97)),
      fun S hS => aH rfl (aS rfl (rH (m := 2) (f := 1) (aA rfl) (aI hS rfl) rfl rfl h97 cW)),
      fun S hS => aH rfl (aS rfl (aD (v := .d (.lit (.int .i64 ((atv_8_81.fdiv (2 ^ (min (IntKind.u64.wrap (w64 (r_10_90 + 1))).toNat 64))))))) (aA rfl) (aI hS rfl) rfl)),
      fun S hS => aH rfl (aS rfl (rG (f := 1) (g := aO) (aA rfl) (aI hS rfl) rfl h97 (aI hS rfl) cC.of h99)),
      fun S hS => aH rfl (aS rfl (vU (f := 1) (g := aO) (aA rfl) (aI hS rfl) rfl h97 h99 rfl bO)),
      fun S hS => aH rfl (aS rfl (bK (aA rfl) (aI hS rfl) rfl rfl)),
      fun S hS => aH rfl (aS rfl (aD (v := .d (.lit (.bool ((!decide (x98 = (-2))))))) (aA rfl) (aI hS rfl) rfl)),
      fun S hS => aH rfl (bL rfl rfl (aA rfl) (aV hS rfl) c102 (aW (aA rfl) (aI hS rfl) nD)),
      fun S hS => aH rfl (bL rfl rfl (aA rfl) (aV hS rfl) c102 (aY (aA rfl) (aI hS rfl) (i := 3) rfl rfl rV)),
      fun S hS => aH rfl (bL rfl rfl (aA rfl) (aV hS rfl) c102 (aD (v := .d (.lit (.int .i64 r_10_90))) (aA rfl) (aI hS rfl) rfl)),
      fun S hS => aH rfl (bL rfl rfl (aA rfl) (aV hS rfl) c102 (qL (m := 2) (f := 1) (aA rfl) (aI hS rfl) rfl rfl (aI hS rfl) sP.of h104)),
      fun S hS => aH rfl (bL rfl rfl (aA rfl) (aV hS rfl) c102 (rH (m := 2) (f := 1) (aA rfl) (aI hS rfl) rfl rfl h104 cW)),
      fun S hS => aH rfl (bL rfl rfl (aA rfl) (aV hS rfl) c102 (aD (v := .d (.lit (.int .i64 ((atv_8_81.fdiv (2 ^ (min (IntKind.u64.wrap (w64 (r_10_90 + 1))).toNat 64))))))) (aA rfl) (aI hS rfl) rfl)),
      fun S hS => aH rfl (bL rfl rfl (aA rfl) (aV hS rfl) c102 (rG (f := 1) (g := aO) (aA rfl) (aI hS rfl) rfl h104 (aI hS rfl) cC.of h106)),
      fun S hS => aH rfl (bL rfl rfl (aA rfl) (aV hS rfl) c102 (vU (f := 1) (g := aO) (aA rfl) (aI hS rfl) rfl h104 h106 rfl bO)),
      fun S hS => aH rfl (bL rfl rfl (aA rfl) (aV hS rfl) c102 (aW (aA rfl) (aI hS rfl) lX)),
      fun S hS => aH rfl (bL rfl rfl (aA rfl) (aV hS rfl) c102 (aY (aA rfl) (aI hS rfl) (i := 4) rfl rfl bO)),
      fun S hS => aH rfl (bL rfl rfl (aA rfl) (aV hS rfl) c102 (bK (aA rfl) (aI hS rfl) (aI hS rfl) rfl)),
      fun S hS => aH rfl (aS rfl (bZ (v := .d (.lit (.bool ((!decide (x105 = x64.Player)))))) (aA rfl) (aI hS rfl) c102 (aI hS rfl) rfl)), trivial⟩⟩
            · exact dC (aT rfl (bC ⟨rfl, rfl, rfl, rfl, rfl, rfl, rfl, rfl, rfl, trivial⟩))
           ·have h101 := aZ c102 h101
            have h101 := Option.some.inj h101
            subst h101
            refine ⟨[(169, 0, .bp b6 0 1), (170, 1, .d (.lit w9)), (171, 2, .d (.lit (.int .i64 r_10_90))), (172, 3, .ep w9 1 r_10_90.toNat 0), (173, 4, .d (.lit (pL vs91 r_10_90))), (174, 5, .d (.lit (.int .i64 ((atv_8_81.fdiv (2 ^ (min (IntKind.u64.wrap (w64 (r_10_90 + 1))).toNat 64))))))), (175, 6, .ep (pL vs91 r_10_90) 1 (atv_8_81.fdiv (2 ^ (min (IntKind.u64.wrap (w64 (r_10_90 + 1))).toNat 64))).toNat 0), (176, 7, .d (.lit (.int .i64 x98))), (177, 8, .d (.lit (.bool ((!decide (x98 = (-2))))))), (178, 9, .d (.lit (.bool ((!decide (x98 = (-2))))))), (179, 10, .tup []), (180, 11, .tup []), (181, 12, .tup []), (182, 13, .tup []), (183, 14, .tup []), (184, 15, .tup []), (185, 16, .tup []), (186, 17, .tup []), (187, 18, .tup []), (188, 19, .tup []), (189, 20, .tup []), (190, 21, .d (.lit (.bool false)))], ?_, ?_⟩
            · exact ⟨by kernel_rfl, by kernel_rfl, by kernel_rfl, by kernel_rfl, by kernel_rfl, [([], []), ([0], []), ([], []), ([1, 2], []), ([3], []), ([], []), ([4, 5], []), ([6], []), ([7], []), ([8], []), ([9], []), ([9, 10], []), ([9], []), ([9, 11, 12], []), ([9, 13], []), ([9], []), ([9, 14, 15], []), ([9, 16], []), ([9], []), ([9, 18], []), ([9, 17, 19], []), ([9, 20], [])], by kernel_rfl, ⟨fun S hS => aH rfl (aS rfl (aW (aA rfl) (aI hS rfl) nD)),
      fun S hS => aH rfl (aS rfl (aY (aA rfl) (aI hS rfl) (i := 3) rfl rfl rV)),
      fun S hS => aH rfl (aS rfl (aD (v := .d (.lit (.int .i64 r_10_90))) (aA rfl) (aI hS rfl) rfl)),
      fun S hS => aH rfl (aS rfl (qL (m := 2) (f := 1) (aA rfl) (aI hS rfl) rfl rfl (aI hS rfl) sP.of h97)),
      fun S hS => aH rfl (aS rfl (rH (m := 2) (f := 1) (aA rfl) (aI hS rfl) rfl rfl h97 cW)),
      fun S hS => aH rfl (aS rfl (aD (v := .d (.lit (.int .i64 ((atv_8_81.fdiv (2 ^ (min (IntKind.u64.wrap (w64 (r_10_90 + 1))).toNat 64))))))) (aA rfl) (aI hS rfl) rfl)),
      fun S hS => aH rfl (aS rfl (rG (f := 1) (g := aO) (aA rfl) (aI hS rfl) rfl h97 (aI hS rfl) cC.of h99)),
      fun S hS => aH rfl (aS rfl (vU (f := 1) (g := aO) (aA rfl) (aI hS rfl) rfl h97 h99 rfl bO)),
      fun S hS => aH rfl (aS rfl (bK (aA rfl) (aI hS rfl) rfl rfl)),
      fun S hS => aH rfl (aS rfl (aD (v := .d (.lit (.bool ((!decide (x98 = (-2))))))) (aA rfl) (aI hS rfl) rfl)),
      fun S hS => aH rfl (bG rfl rfl (aA rfl) rfl (aA rfl) (aV hS rfl) c102),
      fun S hS => aH rfl (bG rfl rfl (aA rfl) rfl (aA rfl) (aV hS rfl) c102),
      fun S hS => aH rfl (bG rfl rfl (aA rfl) rfl (aA rfl) (aV hS rfl) c102),
      fun S hS => aH rfl (bG rfl rfl (aA rfl) rfl (aA rfl) (aV hS rfl) c102),
      fun S hS => aH rfl (bG rfl rfl (aA rfl) rfl (aA rfl) (aV hS rfl) c102),
      fun S hS => aH rfl (bG rfl rfl (aA rfl) rfl (aA rfl) (aV hS rfl) c102),
      fun S hS => aH rfl (bG rfl rfl (aA rfl) rfl (aA rfl) (aV hS rfl) c102),
      fun S hS => aH rfl (bG rfl rfl (aA rfl) rfl (aA rfl) (aV hS rfl) c102),
      fun S hS => aH rfl (bG rfl rfl (aA rfl) rfl (aA rfl) (aV hS rfl) c102),
      fun S hS => aH rfl (bG rfl rfl (aA rfl) rfl (aA rfl) (aV hS rfl) c102),
      fun S hS => aH rfl (bG rfl rfl (aA rfl) rfl (aA rfl) (aV hS rfl) c102),
      fun S hS => aH rfl (aS rfl (bY (v := .d (.lit (.bool false))) (aA rfl) (aI hS rfl) c102 rfl rfl)), trivial⟩⟩
            · exact dC (aT rfl (bC ⟨rfl, rfl, rfl, rfl, rfl, rfl, rfl, rfl, rfl, trivial⟩))
          ·refine aF ?_
           refine bU rfl (fun c107 => ?_) (fun c107 => ?_)
           ·have h := bB c107 h
            refine aG ?_
            refine aC ?_
            refine tr1 rfl (eN (aA rfl) xH (zs := [.sl 1 ((([] : List Int)).map aO), .sl 1 ((([] : List (List Int))).map gV)]) rfl rfl rfl rfl (es := [.sl 1 ((([] : List Int)).map aO), .sl 1 ((([] : List (List Int))).map gV)]) rfl) ?_
            refine tr1 rfl (cE (i := 0) rfl rfl rfl rfl rfl Try.sizeOf89 rfl (aA rfl) (Nat.le_of_ble_eq_true rfl) (ds' := (bI (aR.mk ([] : List Int) ([] : List (List Int))))) rfl) ?_
            refine tr1 rfl (aJ (v := .d (.lit (.bool false))) (aA rfl) rfl rfl) ?_
            refine aF ?_
            have h := Option.some.inj h
            subst h
            exact bR ⟨rfl, _, [.box b2 0 (bI (aR.mk ([] : List Int) ([] : List (List Int)))), .fam 3 1 vs91 (d_10_90.map fun r => r.map aO), .arr w9 22 1 (vs91.map fun v => [.lit v]), .box b6 0 [.sl 1 (d_0_7_2.map aO), .lit w9], .box b66 0 (aL x64)], .two (.cell 4 89 rfl (i := 0) rfl oZ (es := (bI (aR.mk ([] : List Int) ([] : List (List Int))))) rfl rfl) (.tmp 5 (v := .d (.lit (.bool false))) rfl), .refl _, .same _⟩
           ·have h := aZ c107 h
            refine bS ?_
            obtain ⟨x108, h109, h⟩ := bind_some h
            refine dQ mix 8 [4, 6, 8, 13, 14, 15, 18, 20] [(196, .d (.lit (pL vs91 r_10_90))), (197, .d (.lit (.int .i64 ((atv_8_81.fdiv (2 ^ (min (IntKind.u64.wrap (w64 (r_10_90 + 1))).toNat 64))))))), (199, .d (.lit (.int .i64 x64.Player)))] ?_ ?_
            ·refine ⟨[(192, 0, .bp b6 0 1), (193, 1, .d (.lit w9)), (194, 2, .d (.lit (.int .i64 r_10_90))), (195, 3, .ep w9 1 r_10_90.toNat 0), (196, 4, .d (.lit (pL vs91 r_10_90))), (197, 5, .d (.lit (.int .i64 ((atv_8_81.fdiv (2 ^ (min (IntKind.u64.wrap (w64 (r_10_90 + 1))).toNat 64))))))), (198, 6, .bp b66 0 3), (199, 7, .d (.lit (.int .i64 x64.Player)))], ?_, ?_⟩
             · exact ⟨by kernel_rfl, by kernel_rfl, by kernel_rfl, by kernel_rfl, by kernel_rfl, [([], []), ([0], []), ([], []), ([1, 2], []), ([3], []), ([], []), ([], []), ([6], [])], by kernel_rfl, ⟨fun S hS => aH rfl (aS rfl (aW (aA rfl) (aI hS rfl) nD)),
      fun S hS => aH rfl (aS rfl (aY (aA rfl) (aI hS rfl) (i := 3) rfl rfl rV)),
      fun S hS => aH rfl (aS rfl (aD (v := .d (.lit (.int .i64 r_10_90))) (aA rfl) (aI hS rfl) rfl)),
      fun S hS => aH rfl (aS rfl (qL (m := 2) (f := 1) (aA rfl) (aI hS rfl) rfl rfl (aI hS rfl) sP.of h109)),
      fun S hS => aH rfl (aS rfl (rH (m := 2) (f := 1) (aA rfl) (aI hS rfl) rfl rfl h109 cW)),
      fun S hS => aH rfl (aS rfl (aD (v := .d (.lit (.int .i64 ((atv_8_81.fdiv (2 ^ (min (IntKind.u64.wrap (w64 (r_10_90 + 1))).toNat 64))))))) (aA rfl) (aI hS rfl) rfl)),
      fun S hS => aH rfl (aS rfl (aW (aA rfl) (aI hS rfl) lX)),
      fun S hS => aH rfl (aS rfl (aY (aA rfl) (aI hS rfl) (i := 4) rfl rfl bO)), trivial⟩⟩
             · exact dC (aT rfl (aT rfl (aT rfl (bC ⟨rfl, rfl, rfl, rfl, rfl, rfl, rfl, rfl, trivial⟩))))
            ·obtain ⟨x110, h111, h⟩ := bind_some h
             refine tr1 rfl (rG (f := 1) (g := aO) (aA rfl) rfl rfl h109 rfl cC.of h111) ?_
             refine tr1 rfl (aFi (f := 1) (g := aO) rfl rfl h109 h111 rfl rfl rfl Try.sizeOf3 rfl (aA rfl) (Nat.le_of_ble_eq_true rfl) (a' := x64.Player) rfl (c' := (d_10_90.set r_10_90.toNat (x108.set (atv_8_81.fdiv (2 ^ (min (IntKind.u64.wrap (w64 (r_10_90 + 1))).toNat 64))).toNat x64.Player))) rfl) ?_
             refine fD ?_
             refine aC ?_
             refine tr1 rfl (aD (v := .d (.lit (.int .i64 r_10_90))) (aA rfl) rfl rfl) ?_
             refine tr1 rfl (bN (aA rfl) rfl rfl rfl) ?_
             refine tr1 rfl (aJ (v := .d (.lit (.int .i64 ((w64 (r_10_90 + 1)))))) (aA rfl) rfl rfl) ?_
             refine aF ?_
             exact ⟨(w64 (r_10_90 + 1), o4_10_90, (d_10_90.set r_10_90.toNat (x108.set (atv_8_81.fdiv (2 ^ (min (IntKind.u64.wrap (w64 (r_10_90 + 1))).toNat 64))).toNat x64.Player)), vs91), h, bE [0, 1, 2, 3, 4] rfl rfl (aT rfl (bC ⟨rfl, rfl, rfl, rfl, rfl, rfl, rfl, trivial⟩))⟩
         ·have h := aZ c93 h
          refine cV ?_
          refine .inl ⟨rfl, ?_⟩
          simp only [nQ] at h
          simp only [iV] at h
          refine aC ?_
          refine tr1 rfl (aD (v := .d (.lit (.int .i64 i_4_60))) (aA rfl) rfl rfl) ?_
          refine tr1 rfl (bN (aA rfl) rfl rfl rfl) ?_
          refine tr1 rfl (aJ (v := .d (.lit (.int .i64 ((w64 (i_4_60 + 1)))))) (aA rfl) rfl rfl) ?_
          refine aF ?_
          exact ⟨(w64 (i_4_60 + 1), o4_10_90, d_10_90, vs91), h, bE [0, 1, 2, 3] rfl rfl (aT rfl (bC ⟨rfl, rfl, rfl, rfl, trivial⟩))⟩
   ·have h := aZ c63 h
    refine cV ?_
    refine .inl ⟨rfl, ?_⟩
    simp only [oI] at h
    refine aG ?_
    refine aC ?_
    refine tr1 rfl (bH (aA rfl) rfl (i := 3) rfl oZ (es := [.sl 1 (d_0_7_2.map aO), .lit w9]) rfl rfl) ?_
    refine tr1 rfl (cE (i := 0) rfl rfl rfl rfl rfl Try.sizeOf89 rfl (aA rfl) (Nat.le_of_ble_eq_true rfl) (ds' := [.sl 1 (d_0_7_2.map aO), .lit w9]) rfl) ?_
    refine tr1 rfl (aJ (v := .d (.lit (.bool true))) (aA rfl) rfl rfl) ?_
    refine aF ?_
    have h := Option.some.inj h
    subst h
    exact bR ⟨rfl, _, [.box b2 0 [.sl 1 (d_0_7_2.map aO), .lit w9], .fam 3 1 vs61 (d_4_60.map fun r => r.map aO), .arr w9 22 1 (vs61.map fun v => [.lit v]), .box b6 0 [.sl 1 (d_0_7_2.map aO), .lit w9]], .two (.cell 4 89 rfl (i := 0) rfl oZ (es := [.sl 1 (d_0_7_2.map aO), .lit w9]) rfl rfl) (.tmp 5 (v := .d (.lit (.bool true))) rfl), .refl _, rN (.cons (.agg (dvc (.same _) (dvc (aLt 2 1 rfl rfl (h := gV) (fun _ => rfl)) dvn))) (.cons (.same _) .nil))⟩

theorem lN (t_0 : aN) (l_1 : List aE) {r : Int} (h : dJ t_0 l_1 = some r) : Fn Try.prog 29 [.agg (aQ t_0), .d (.sl 5 (l_1.map aL))] (.d (.lit (.int .i64 r))) := by
 unfold dJ at h
 refine Fn.of_tr Try.func29 rfl (rs := [.tmp 4]) Try.results29 Try.ntmps29 (Nat.le_of_ble_eq_true rfl) ?_
 refine aG ?_
 refine aC ?_
 refine bV rfl (eW (v := .agg (aQ t_0)) (aA rfl) rfl rfl rfl) ?_
 rintro _ ⟨b1, rfl⟩
 refine tr1 rfl (aJ (v := .d (.lit (.int .i64 0))) (aA rfl) rfl rfl) ?_
 refine aF ?_
 refine aG ?_
 refine aG ?_
 refine aC ?_
 refine tr1 rfl (bH (aA rfl) rfl (i := 0) rfl dA (es := (aQ t_0)) rfl rfl) ?_
 obtain ⟨r2, h3, h⟩ := bind_some h
 refine tr1 rfl (cN (aA rfl) (.func _ _ Try.call53) rfl rfl (BVs.refl _ _) (wB _ h3) rfl) ?_
 refine tr1 rfl (gE (aA rfl) rfl) ?_
 refine aF ?_
 refine bU rfl (fun c4 => ?_) (fun c4 => ?_)
 ·have h := bB c4 h
  refine aG ?_
  refine aC ?_
  refine tr1 rfl (aJ (v := .d (.lit (.int .i64 70))) (aA rfl) rfl rfl) ?_
  refine aF ?_
  have h := Option.some.inj h
  subst h
  refine cQ (cP (cS (l := [4]) ⟨rfl, trivial⟩)) ?_
  exact bR ⟨rfl, _, .one _, rfl, rfl⟩
 ·have h := aZ c4 h
  refine bS ?_
  refine aG ?_
  refine aG ?_
  refine aC ?_
  refine tr1 rfl (aD (v := .d (.sl 5 (l_1.map aL))) (aA rfl) rfl rfl) ?_
  refine tr1 rfl (dZ (aA rfl) rfl fQ.of) ?_
  refine tr1 rfl (bK (aA rfl) rfl rfl rfl) ?_
  refine aF ?_
  refine bU rfl (fun c5 => ?_) (fun c5 => ?_)
  ·have h := bB c5 h
   refine aG ?_
   refine aC ?_
   refine tr1 rfl (aJ (v := .d (.lit (.int .i64 71))) (aA rfl) rfl rfl) ?_
   refine aF ?_
   have h := Option.some.inj h
   subst h
   refine cQ (cP (cS (l := [4]) ⟨rfl, trivial⟩)) ?_
   exact bR ⟨rfl, _, .one _, rfl, rfl⟩
  ·have h := aZ c5 h
   refine bS ?_
   refine aG ?_
   refine aG ?_
   refine aC ?_
   refine tr1 rfl (aJ (v := .d (.lit (.int .i64 0))) (aA rfl) rfl rfl) ?_
   refine aF ?_
   refine cF ?_
   refine dH [1, 2] (fun (s6 : Int) => [(5, .d (.lit (.int .i64 s6)))]) (fun (s6 : Int) => [.box b1 0 (aQ t_0)]) (fun (k : Nat) (s6 : Int) => fG l_1 t_0 k s6) (fun _ => rfl) (0) h (bE [0] rfl rfl (aT rfl (bC ⟨rfl, rfl, trivial⟩))) ?_
   rintro k7 i_0_6 h
   simp only [fG] at h
   refine aG ?_
   refine aG ?_
   refine aC ?_
   refine tr1 rfl (aD (v := .d (.lit (.int .i64 i_0_6))) (aA rfl) rfl rfl) ?_
   refine tr1 rfl (aD (v := .d (.sl 5 (l_1.map aL))) (aA rfl) rfl rfl) ?_
   refine tr1 rfl (dZ (aA rfl) rfl fQ.of) ?_
   refine tr1 rfl (bK (aA rfl) rfl rfl rfl) ?_
   refine aF ?_
   refine bU rfl (fun c8 => ?_) (fun c8 => ?_)
   ·have h := bB c8 h
    refine bS ?_
    refine aG ?_
    refine cF ?_
    refine aG ?_
    obtain ⟨x9, h10, h⟩ := bind_some h
    refine dQ mix 5 [1, 2, 5] [(20, .agg (aQ t_0)), (24, .agg (aL x9))] ?_ ?_
    ·refine ⟨[(20, 0, .agg (aQ t_0)), (21, 1, .d (.sl 5 (l_1.map aL))), (22, 2, .d (.lit (.int .i64 i_0_6))), (23, 3, .cp [.lit (.int .i64 x9.Kind), .lit (.int .i64 x9.Round), .lit (.int .i64 x9.Place), .lit (.int .i64 x9.Player), .lit (.int .i64 x9.Old)]), (24, 4, .agg (aL x9))], ?_, ?_⟩
     · exact ⟨by kernel_rfl, by kernel_rfl, by kernel_rfl, by kernel_rfl, by kernel_rfl, [([], []), ([], []), ([], []), ([1, 2], []), ([3], [])], by kernel_rfl, ⟨fun S hS => aH rfl (aS rfl (bH (aA rfl) (aI hS rfl) (i := 0) rfl dA (es := (aQ t_0)) rfl rfl)),
      fun S hS => aH rfl (aS rfl (aD (v := .d (.sl 5 (l_1.map aL))) (aA rfl) (aI hS rfl) rfl)),
      fun S hS => aH rfl (aS rfl (aD (v := .d (.lit (.int .i64 i_0_6))) (aA rfl) (aI hS rfl) rfl)),
      fun S hS => aH rfl (aS rfl (bQ (aA rfl) (aI hS rfl) (aI hS rfl) fQ.of (cA aL h10))),
      fun S hS => aH rfl (aS rfl (gC (aA rfl) (aI hS rfl) iN (es := (aL x9)) rfl rfl)), trivial⟩⟩
     · exact dC (aT rfl (aT rfl (bC ⟨rfl, rfl, rfl, trivial⟩)))
    ·obtain ⟨r11, h12, h⟩ := bind_some h
     refine tr1 rfl (cN (aA rfl) (.func _ _ Try.call54) rfl rfl (BVs.refl _ _) (wC _ _ h12) rfl) ?_
     refine tr1 rfl (gE (aA rfl) rfl) ?_
     refine aF ?_
     refine bU rfl (fun c13 => ?_) (fun c13 => ?_)
     ·have h := bB c13 h
      refine aG ?_
      refine aC ?_
      refine tr1 rfl (aJ (v := .d (.lit (.int .i64 71))) (aA rfl) rfl rfl) ?_
      refine aF ?_
      have h := Option.some.inj h
      subst h
      refine cQ (cP (cS (l := [4]) ⟨rfl, trivial⟩)) ?_
      exact bR ⟨rfl, _, .one _, rfl, rfl⟩
     ·have h := aZ c13 h
      refine eA ?_
      refine aC ?_
      refine tr1 rfl (aD (v := .d (.lit (.int .i64 i_0_6))) (aA rfl) rfl rfl) ?_
      refine tr1 rfl (bN (aA rfl) rfl rfl rfl) ?_
      refine tr1 rfl (aJ (v := .d (.lit (.int .i64 ((w64 (i_0_6 + 1)))))) (aA rfl) rfl rfl) ?_
      refine aF ?_
      exact ⟨(w64 (i_0_6 + 1)), h, bE [0] rfl rfl (aT rfl (bC ⟨rfl, rfl, trivial⟩))⟩
   ·have h := aZ c8 h
    refine cV ?_
    refine .inl ⟨rfl, ?_⟩
    simp only [iF] at h
    refine aG ?_
    refine aG ?_
    refine aC ?_
    refine tr1 rfl (bH (aA rfl) rfl (i := 0) rfl dA (es := (aQ t_0)) rfl rfl) ?_
    refine tr1 rfl (aD (v := .d (.sl 5 (l_1.map aL))) (aA rfl) rfl rfl) ?_
    obtain ⟨r14, h15, h⟩ := bind_some h
    refine tr1 rfl (eR (aA rfl) (.func _ _ Try.call55) rfl rfl (mE _ _ h15)) ?_
    refine tr1 rfl (aD (v := .tup [.agg (bI r14.1), .d (.lit (.bool r14.2))]) (aA rfl) rfl rfl) ?_
    refine tr1 rfl (bM (aA rfl) rfl rfl) ?_
    refine tr1 rfl (bM (aA rfl) rfl rfl) ?_
    refine bV rfl (dI (zs := [.sl 1 ((([] : List Int)).map aO), .sl 1 ((([] : List (List Int))).map gV)]) (aA rfl) Try.zeroValue89 rfl rfl) ?_
    rintro _ ⟨b16, rfl⟩
    refine tr1 rfl (cE (i := 1) rfl rfl rfl rfl rfl Try.sizeOf89 rfl (aA rfl) (Nat.le_of_ble_eq_true rfl) (ds' := (bI r14.1)) rfl) ?_
    refine tr1 rfl (aJ (v := .d (.lit (.bool r14.2))) (aA rfl) rfl rfl) ?_
    refine aF ?_
    refine aG ?_
    refine aC ?_
    refine tr1 rfl (aD (v := .d (.lit (.bool r14.2))) (aA rfl) rfl rfl) ?_
    refine tr1 rfl (gE (aA rfl) rfl) ?_
    refine aF ?_
    refine bU rfl (fun c17 => ?_) (fun c17 => ?_)
    ·have h := bB c17 h
     refine aG ?_
     refine aC ?_
     refine tr1 rfl (aJ (v := .d (.lit (.int .i64 72))) (aA rfl) rfl rfl) ?_
     refine aF ?_
     have h := Option.some.inj h
     subst h
     refine cQ (cP (cS (l := [4]) ⟨rfl, trivial⟩)) ?_
     exact bR ⟨rfl, _, .one _, rfl, rfl⟩
    ·have h := aZ c17 h
     refine bS ?_
     refine aG ?_
     refine aC ?_
     refine tr1 rfl (aJ (v := .d (.lit (.int .i64 0))) (aA rfl) rfl rfl) ?_
     refine aF ?_
     have h := Option.some.inj h
     subst h
     refine cQ (cP (cS (l := [4]) ⟨rfl, trivial⟩)) ?_
     exact bR ⟨rfl, _, .one _, rfl, rfl⟩

theorem tQ (d_0 : aR) (round_1 : Int) (place_2 : Int) (side_3 : Int) {r : Int} (h : lK d_0 round_1 place_2 side_3 = some r) : Fn Try.prog 75 [.agg (bI d_0), .d (.lit (.int .i64 round_1)), .d (.lit (.int .i64 place_2)), .d (.lit (.int .i64 side_3))] (.d (.lit (.int .i64 r))) := by
 unfold lK at h
 refine Fn.of_tr Try.func75 rfl (rs := [.tmp 8]) Try.results75 Try.ntmps75 (Nat.le_of_ble_eq_true rfl) ?_
 refine aG ?_
 refine aC ?_
 refine bV rfl (eW (v := .agg (bI d_0)) (aA rfl) rfl rfl rfl) ?_
 rintro _ ⟨b1, rfl⟩
 refine tr1 rfl (aJ (v := .d (.lit (.int .i64 0))) (aA rfl) rfl rfl) ?_
 refine aF ?_
 refine aG ?_
 refine aG ?_
 refine aC ?_
 refine tr1 rfl (aD (v := .d (.lit (.int .i64 round_1))) (aA rfl) rfl rfl) ?_
 refine tr1 rfl (bK (aA rfl) rfl rfl rfl) ?_
 refine aF ?_
 refine bU rfl (fun c2 => ?_) (fun c2 => ?_)
 ·have h := bB c2 h
  refine aG ?_
  refine aC ?_
  refine tr1 rfl (aW (aA rfl) rfl aJq) ?_
  refine tr1 rfl (aY (aA rfl) rfl (i := 0) rfl rfl cW) ?_
  refine tr1 rfl (aD (v := .d (.lit (.int .i64 place_2))) (aA rfl) rfl rfl) ?_
  refine tr1 rfl (bN (aA rfl) rfl rfl rfl) ?_
  refine tr1 rfl (aD (v := .d (.lit (.int .i64 side_3))) (aA rfl) rfl rfl) ?_
  refine tr1 rfl (bN (aA rfl) rfl rfl rfl) ?_
  obtain ⟨x3, h4, h⟩ := bind_some h
  refine tr1 rfl (bQ (aA rfl) rfl rfl cC.of (cA aO h4)) ?_
  refine tr1 rfl (bT (aA rfl) rfl bO) ?_
  refine tr1 rfl (aJ (v := .d (.lit (.int .i64 x3))) (aA rfl) rfl rfl) ?_
  refine aF ?_
  have h := Option.some.inj h
  subst h
  refine cQ (cP (cS (l := [8]) ⟨rfl, trivial⟩)) ?_
  exact bR ⟨rfl, _, .one _, rfl, rfl⟩
 ·have h := aZ c2 h
  refine bS ?_
  refine aG ?_
  refine aC ?_
  refine tr1 rfl (aW (aA rfl) rfl nD) ?_
  refine tr1 rfl (aY (aA rfl) rfl (i := 0) rfl rfl rV) ?_
  refine tr1 rfl (aD (v := .d (.lit (.int .i64 round_1))) (aA rfl) rfl rfl) ?_
  refine tr1 rfl (bN (aA rfl) rfl rfl rfl) ?_
  obtain ⟨x5, h6, h⟩ := bind_some h
  refine tr1 rfl (bQ (aA rfl) rfl rfl sP.of (cA gV h6)) ?_
  refine tr1 rfl (bT (aA rfl) rfl cW) ?_
  refine tr1 rfl (aD (v := .d (.lit (.int .i64 place_2))) (aA rfl) rfl rfl) ?_
  refine tr1 rfl (bN (aA rfl) rfl rfl rfl) ?_
  refine tr1 rfl (aD (v := .d (.lit (.int .i64 side_3))) (aA rfl) rfl rfl) ?_
  refine tr1 rfl (bN (aA rfl) rfl rfl rfl) ?_
  obtain ⟨x7, h8, h⟩ := bind_some h
  refine tr1 rfl (bQ (aA rfl) rfl rfl cC.of (cA aO h8)) ?_
  refine tr1 rfl (bT (aA rfl) rfl bO) ?_
  refine tr1 rfl (aJ (v := .d (.lit (.int .i64 x7))) (aA rfl) rfl rfl) ?_
  refine aF ?_
  have h := Option.some.inj h
  subst h
  refine cQ (cP (cS (l := [8]) ⟨rfl, trivial⟩)) ?_
  exact bR ⟨rfl, _, .one _, rfl, rfl⟩

theorem rP (t_0 : aN) (d_1 : aR) {r : (List bD)} (h : iK t_0 d_1 = some r) : Fn Try.prog 57 [.agg (aQ t_0), .agg (bI d_1)] (.d (.sl 4 (r.map aX))) := by
 unfold iK at h
 refine Fn.of_tr Try.func57 rfl (rs := [.tmp 4]) Try.results57 Try.ntmps57 (Nat.le_of_ble_eq_true rfl) ?_
 refine aG ?_
 refine aC ?_
 refine bV rfl (eW (v := .agg (aQ t_0)) (aA rfl) rfl rfl rfl) ?_
 rintro _ ⟨b1, rfl⟩
 refine bV rfl (eW (v := .agg (bI d_1)) (aA rfl) rfl rfl rfl) ?_
 rintro _ ⟨b2, rfl⟩
 refine tr1 rfl (nE 4 (aA rfl)) ?_
 refine aF ?_
 refine aG ?_
 refine aC ?_
 refine tr1 rfl (jG 57 4 (.inl rfl) (aA rfl)) ?_
 refine aF ?_
 refine aG ?_
 refine aG ?_
 refine aC ?_
 refine tr1 rfl (aJ (v := .d (.lit (.int .i64 0))) (aA rfl) rfl rfl) ?_
 refine aF ?_
 refine cF ?_
 refine dH [2, 3] (fun (s4 : Int × (List bD) × Value) => [(5, .d (.lit s4.2.2)), (6, .d (.lit (.int .i64 s4.1)))]) (fun (s4 : Int × (List bD) × Value) => [.box b1 0 (aQ t_0), .box b2 0 (bI d_1), .arr s4.2.2 57 4 (s4.2.1.map aX)]) (fun (k : Nat) (s4 : Int × (List bD) × Value) => dP t_0 d_1 k s4.1 s4.2.1) (fun _ => rfl) (0, ([] : List bD), (.slice none 0 0)) h (bE [0, 1, 2] rfl rfl (aT rfl (aT rfl (bC ⟨rfl, rfl, trivial⟩)))) ?_
 rintro k6 ⟨r_0_4, out_0_4, w5⟩ h
 simp only [dP] at h
 refine aG ?_
 refine aG ?_
 refine aC ?_
 refine tr1 rfl (aD (v := .d (.lit (.int .i64 r_0_4))) (aA rfl) rfl rfl) ?_
 refine tr1 rfl (aW (aA rfl) rfl gM) ?_
 refine tr1 rfl (aY (aA rfl) rfl (i := 0) rfl rfl bO) ?_
 refine tr1 rfl (bK (aA rfl) rfl rfl rfl) ?_
 refine aF ?_
 refine bU rfl (fun c7 => ?_) (fun c7 => ?_)
 ·have h := bB c7 h
  refine bS ?_
  refine aG ?_
  refine cF ?_
  refine aG ?_
  refine aC ?_
  refine tr1 rfl (aJ (v := .d (.lit (.int .i64 0))) (aA rfl) rfl rfl) ?_
  refine aF ?_
  refine sW ?_
  refine dH [2, 3, 6] (fun (s8 : Int × (List bD) × Value) => [(5, .d (.lit s8.2.2)), (7, .d (.lit (.int .i64 s8.1)))]) (fun (s8 : Int × (List bD) × Value) => [.box b1 0 (aQ t_0), .box b2 0 (bI d_1), .arr s8.2.2 57 4 (s8.2.1.map aX)]) (fun (k : Nat) (s8 : Int × (List bD) × Value) => fH (dP t_0 d_1 k6) r_0_4 t_0 d_1 k s8.1 s8.2.1) (fun _ => rfl) (0, out_0_4, w5) h (bE [0, 1, 2] rfl rfl (aT rfl (aT rfl (bC ⟨rfl, rfl, rfl, trivial⟩)))) ?_
  rintro k10 ⟨p_2_8, out_2_8, w9⟩ h
  simp only [fH] at h
  refine aG ?_
  refine aG ?_
  refine aC ?_
  refine tr1 rfl (aD (v := .d (.lit (.int .i64 p_2_8))) (aA rfl) rfl rfl) ?_
  refine tr1 rfl (bH (aA rfl) rfl (i := 0) rfl dA (es := (aQ t_0)) rfl rfl) ?_
  refine tr1 rfl (aD (v := .d (.lit (.int .i64 r_0_4))) (aA rfl) rfl rfl) ?_
  obtain ⟨r11, h12, h⟩ := bind_some h
  refine tr1 rfl (cN (aA rfl) (.func _ _ Try.call42) rfl rfl (BVs.refl _ _) (lF _ _ h12) rfl) ?_
  refine tr1 rfl (bK (aA rfl) rfl rfl rfl) ?_
  refine aF ?_
  refine bU rfl (fun c13 => ?_) (fun c13 => ?_)
  ·have h := bB c13 h
   refine bS ?_
   refine aG ?_
   refine cF ?_
   obtain ⟨r14, h15, h⟩ := bind_some h
   obtain ⟨r16, h17, h⟩ := bind_some h
   refine dQ mix 13 [2, 3, 6, 7] [(21, .d (.lit w9)), (33, .d (.sl 4 ((([(bD.mk r_0_4 p_2_8 r14 r16)])).map aX)))] ?_ ?_
   ·refine ⟨[(21, 0, .d (.lit w9)), (22, 1, .d (.lit (.int .i64 r_0_4))), (23, 2, .d (.lit (.int .i64 p_2_8))), (24, 3, .agg (bI d_1)), (25, 4, .d (.lit (.int .i64 r_0_4))), (26, 5, .d (.lit (.int .i64 p_2_8))), (27, 6, .d (.lit (.int .i64 r14))), (28, 7, .agg (bI d_1)), (29, 8, .d (.lit (.int .i64 r_0_4))), (30, 9, .d (.lit (.int .i64 p_2_8))), (31, 10, .d (.lit (.int .i64 r16))), (32, 11, .agg (aX (bD.mk r_0_4 p_2_8 r14 r16))), (33, 12, .d (.sl 4 ((([(bD.mk r_0_4 p_2_8 r14 r16)])).map aX)))], ?_, ?_⟩
    · exact ⟨by kernel_rfl, by kernel_rfl, by kernel_rfl, by kernel_rfl, by kernel_rfl, [([], []), ([], []), ([], []), ([], []), ([], []), ([], []), ([3, 4, 5], []), ([], []), ([], []), ([], []), ([7, 8, 9], []), ([1, 2, 6, 10], []), ([11], [])], by kernel_rfl, ⟨fun S hS => aH rfl (aS rfl (aD (v := .d (.lit w9)) (aA rfl) (aI hS rfl) rfl)),
      fun S hS => aH rfl (aS rfl (aD (v := .d (.lit (.int .i64 r_0_4))) (aA rfl) (aI hS rfl) rfl)),
      fun S hS => aH rfl (aS rfl (aD (v := .d (.lit (.int .i64 p_2_8))) (aA rfl) (aI hS rfl) rfl)),
      fun S hS => aH rfl (aS rfl (bH (aA rfl) (aI hS rfl) (i := 1) rfl oZ (es := (bI d_1)) rfl rfl)),
      fun S hS => aH rfl (aS rfl (aD (v := .d (.lit (.int .i64 r_0_4))) (aA rfl) (aI hS rfl) rfl)),
      fun S hS => aH rfl (aS rfl (aD (v := .d (.lit (.int .i64 p_2_8))) (aA rfl) (aI hS rfl) rfl)),
      fun S hS => aH rfl (aS rfl (cN (aA rfl) (.func _ _ Try.call75) (ev2 (aI hS rfl) (ev2 (aI hS rfl) (ev2 (aI hS rfl) (ev2 rfl evn)))) rfl (BVs.refl _ _) (tQ _ _ _ _ h15) rfl)),
      fun S hS => aH rfl (aS rfl (bH (aA rfl) (aI hS rfl) (i := 1) rfl oZ (es := (bI d_1)) rfl rfl)),
      fun S hS => aH rfl (aS rfl (aD (v := .d (.lit (.int .i64 r_0_4))) (aA rfl) (aI hS rfl) rfl)),
      fun S hS => aH rfl (aS rfl (aD (v := .d (.lit (.int .i64 p_2_8))) (aA rfl) (aI hS rfl) rfl)),
      fun S hS => aH rfl (aS rfl (cN (aA rfl) (.func _ _ Try.call75) (ev2 (aI hS rfl) (ev2 (aI hS rfl) (ev2 (aI hS rfl) (ev2 rfl evn)))) rfl (BVs.refl _ _) (tQ _ _ _ _ h17) rfl)),
      fun S hS => aH rfl (aS rfl (eN (aA rfl) aBc (zs := [.lit (.int .i64 0), .lit (.int .i64 0), .lit (.int .i64 0), .lit (.int .i64 0)]) rfl rfl rfl (pa2 (aI hS rfl) (pa2 (aI hS rfl) (pa2 (aI hS rfl) (pa2 (aI hS rfl) pan)))) (es := [.lit (.int .i64 r_0_4), .lit (.int .i64 p_2_8), .lit (.int .i64 r14), .lit (.int .i64 r16)]) rfl)),
      fun S hS => aH rfl (aS rfl (fM (aA rfl) iH rfl (pa2 (aI hS rfl) pan) (rows := ([(bD.mk r_0_4 p_2_8 r14 r16)]).map aX) rfl (dD (f := aX) fun _ => rfl) rfl (by decide))), trivial⟩⟩
    · exact dC (aT rfl (aT rfl (bC ⟨rfl, rfl, rfl, rfl, trivial⟩)))
   ·obtain ⟨x18, h19, h⟩ := bind_some h
    refine bV rfl (fK (i := 2) (aA rfl) iH rfl rfl rfl (fun _ => rfl) h19 rfl) ?_
    rintro _ ⟨v20, rfl⟩
    refine tr1 rfl (aJ (v := .d (.lit v20)) (aA rfl) rfl rfl) ?_
    refine fD ?_
    refine aC ?_
    refine tr1 rfl (aD (v := .d (.lit (.int .i64 p_2_8))) (aA rfl) rfl rfl) ?_
    refine tr1 rfl (bN (aA rfl) rfl rfl rfl) ?_
    refine tr1 rfl (aJ (v := .d (.lit (.int .i64 ((w64 (p_2_8 + 1)))))) (aA rfl) rfl rfl) ?_
    refine aF ?_
    exact ⟨(w64 (p_2_8 + 1), x18, v20), h, bE [0, 1, 2] rfl rfl (aT rfl (aT rfl (bC ⟨rfl, rfl, rfl, trivial⟩)))⟩
  ·have h := aZ c13 h
   refine cV ?_
   refine .inl ⟨rfl, ?_⟩
   simp only [jM] at h
   simp only [nP] at h
   refine aC ?_
   refine tr1 rfl (aD (v := .d (.lit (.int .i64 r_0_4))) (aA rfl) rfl rfl) ?_
   refine tr1 rfl (bN (aA rfl) rfl rfl rfl) ?_
   refine tr1 rfl (aJ (v := .d (.lit (.int .i64 ((w64 (r_0_4 + 1)))))) (aA rfl) rfl rfl) ?_
   refine aF ?_
   exact ⟨(w64 (r_0_4 + 1), out_2_8, w9), h, bE [0, 1, 2] rfl rfl (aT rfl (aT rfl (bC ⟨rfl, rfl, trivial⟩)))⟩
 ·have h := aZ c7 h
  refine cV ?_
  refine .inl ⟨rfl, ?_⟩
  simp only [nO] at h
  refine aG ?_
  refine aC ?_
  refine tr1 rfl (aD (v := .d (.lit w5)) (aA rfl) rfl rfl) ?_
  refine tr1 rfl (aJ (v := .d (.lit w5)) (aA rfl) rfl rfl) ?_
  refine aF ?_
  have h := Option.some.inj h
  subst h
  refine cQ (cP (sT (k := 4) (v := .d (.sl 4 (out_0_4.map aX))) (.d (lR 2 rfl (dD (f := aX) fun _ => rfl))) (xL))) ?_
  exact bR ⟨rfl, _, .one _, rfl, rfl⟩

theorem wI (t_0 : aN) (l_1 : List aE) {r : (List bD) × Int} (h : eY t_0 l_1 = some r) : Fn Try.prog 31 [.agg (aQ t_0), .d (.sl 5 (l_1.map aL))] (.tup [.d (.sl 4 (r.1.map aX)), .d (.lit (.int .i64 r.2))]) := by
 unfold eY at h
 refine Fn.of_tr Try.func31 rfl (rs := [.tmp 4, .tmp 5]) Try.results31 Try.ntmps31 (Nat.le_of_ble_eq_true rfl) ?_
 refine aG ?_
 refine aC ?_
 refine bV rfl (eW (v := .agg (aQ t_0)) (aA rfl) rfl rfl rfl) ?_
 rintro _ ⟨b1, rfl⟩
 refine tr1 rfl (nE 4 (aA rfl)) ?_
 refine tr1 rfl (aJ (v := .d (.lit (.int .i64 0))) (aA rfl) rfl rfl) ?_
 refine aF ?_
 refine aG ?_
 refine aG ?_
 refine aC ?_
 refine tr1 rfl (bH (aA rfl) rfl (i := 0) rfl dA (es := (aQ t_0)) rfl rfl) ?_
 refine tr1 rfl (aD (v := .d (.sl 5 (l_1.map aL))) (aA rfl) rfl rfl) ?_
 obtain ⟨r2, h3, h⟩ := bind_some h
 refine tr1 rfl (cN (aA rfl) (.func _ _ Try.call29) rfl rfl (BVs.refl _ _) (lN _ _ h3) rfl) ?_
 refine tr1 rfl (aJ (v := .d (.lit (.int .i64 r2))) (aA rfl) rfl rfl) ?_
 refine aF ?_
 refine aG ?_
 refine aC ?_
 refine tr1 rfl (aD (v := .d (.lit (.int .i64 r2))) (aA rfl) rfl rfl) ?_
 refine tr1 rfl (bK (aA rfl) rfl rfl rfl) ?_
 refine aF ?_
 refine bU rfl (fun c4 => ?_) (fun c4 => ?_)
 ·have h := bB c4 h
  refine aG ?_
  refine aC ?_
  refine tr1 rfl (aD (v := .d (.lit (.int .i64 r2))) (aA rfl) rfl rfl) ?_
  refine tr1 rfl (nE 4 (aA rfl)) ?_
  refine tr1 rfl (aJ (v := .d (.lit (.int .i64 r2))) (aA rfl) rfl rfl) ?_
  refine aF ?_
  have h := Option.some.inj h
  subst h
  refine cQ (cP (cS (l := [4, 5]) ⟨rfl, rfl, trivial⟩)) ?_
  exact bR ⟨rfl, _, .two _ _, rfl, rfl⟩
 ·have h := aZ c4 h
  refine bS ?_
  refine aG ?_
  refine aC ?_
  refine tr1 rfl (bH (aA rfl) rfl (i := 0) rfl dA (es := (aQ t_0)) rfl rfl) ?_
  refine tr1 rfl (aD (v := .d (.sl 5 (l_1.map aL))) (aA rfl) rfl rfl) ?_
  obtain ⟨r5, h6, h⟩ := bind_some h
  refine tr1 rfl (eR (aA rfl) (.func _ _ Try.call55) rfl rfl (mE _ _ h6)) ?_
  refine tr1 rfl (aD (v := .tup [.agg (bI r5.1), .d (.lit (.bool r5.2))]) (aA rfl) rfl rfl) ?_
  refine tr1 rfl (bM (aA rfl) rfl rfl) ?_
  refine tr1 rfl (bM (aA rfl) rfl rfl) ?_
  refine bV rfl (dI (zs := [.sl 1 ((([] : List Int)).map aO), .sl 1 ((([] : List (List Int))).map gV)]) (aA rfl) Try.zeroValue89 rfl rfl) ?_
  rintro _ ⟨b7, rfl⟩
  refine tr1 rfl (cE (i := 1) rfl rfl rfl rfl rfl Try.sizeOf89 rfl (aA rfl) (Nat.le_of_ble_eq_true rfl) (ds' := (bI r5.1)) rfl) ?_
  refine tr1 rfl (aJ (v := .d (.lit (.bool r5.2))) (aA rfl) rfl rfl) ?_
  refine aF ?_
  refine aG ?_
  refine aC ?_
  refine tr1 rfl (bH (aA rfl) rfl (i := 0) rfl dA (es := (aQ t_0)) rfl rfl) ?_
  refine tr1 rfl (bH (aA rfl) rfl (i := 1) rfl oZ (es := (bI r5.1)) rfl rfl) ?_
  obtain ⟨r8, h9, h⟩ := bind_some h
  refine tr1 rfl (eR (aA rfl) (.func _ _ Try.call57) rfl rfl (rP _ _ h9)) ?_
  refine tr1 rfl (aJ (v := .d (.sl 4 (r8.map aX))) (aA rfl) rfl rfl) ?_
  refine tr1 rfl (aJ (v := .d (.lit (.int .i64 0))) (aA rfl) rfl rfl) ?_
  refine aF ?_
  have h := Option.some.inj h
  subst h
  refine cQ (cP (cS (l := [4, 5]) ⟨rfl, rfl, trivial⟩)) ?_
  exact bR ⟨rfl, _, .two _ _, rfl, rfl⟩

theorem tO (a0 : aN) (a1 : List aE) {r : (List bD) × Int} (h : nU a0 a1 = some r) : Fn Try.prog 30 [.agg (aQ a0), .d (.sl 5 (a1.map aL))] ((fun x : (List bD) × Int => .tup [.d (.sl 4 (x.1.map aX)), .d (.lit (.int .i64 x.2))]) r) := qY (enc := fun x : (List bD) × Int => .tup [.d (.sl 4 (x.1.map aX)), .d (.lit (.int .i64 x.2))]) (zO a0 a1 (xT a0 a1 h (fun x => x = r) rfl))

theorem aCp (a0 : aN) (a1 : List aE) (a2 : Int) (a3 : Int) {r : (List Int) × Int} (h : sD a0 a1 a2 a3 = some r) : Fn Try.prog 15 [.agg (aQ a0), .d (.sl 5 (a1.map aL)), .d (.lit (.int .i64 a2)), .d (.lit (.int .i64 a3))] ((fun x : (List Int) × Int => .tup [.d (.sl 1 (x.1.map aO)), .d (.lit (.int .i64 x.2))]) r) := qY (enc := fun x : (List Int) × Int => .tup [.d (.sl 1 (x.1.map aO)), .d (.lit (.int .i64 x.2))]) (aCo a0 a1 a2 a3 (zR a0 a1 a2 a3 h (fun x => x = r) rfl))

theorem xZ (t_0 : aN) (l_1 : List aE) {r : Int × Int} (h : fP t_0 l_1 = some r) : Fn Try.prog 35 [.agg (aQ t_0), .d (.sl 5 (l_1.map aL))] (.tup [.d (.lit (.int .i64 r.1)), .d (.lit (.int .i64 r.2))]) := by
 unfold fP at h
 refine Fn.of_tr Try.func35 rfl (rs := [.tmp 4, .tmp 5]) Try.results35 Try.ntmps35 (Nat.le_of_ble_eq_true rfl) ?_
 refine aG ?_
 refine aC ?_
 refine bV rfl (eW (v := .agg (aQ t_0)) (aA rfl) rfl rfl rfl) ?_
 rintro _ ⟨b1, rfl⟩
 refine tr1 rfl (aJ (v := .d (.lit (.int .i64 0))) (aA rfl) rfl rfl) ?_
 refine tr1 rfl (aJ (v := .d (.lit (.int .i64 0))) (aA rfl) rfl rfl) ?_
 refine aF ?_
 refine aG ?_
 refine aG ?_
 refine aC ?_
 refine tr1 rfl (bH (aA rfl) rfl (i := 0) rfl dA (es := (aQ t_0)) rfl rfl) ?_
 refine tr1 rfl (aD (v := .d (.sl 5 (l_1.map aL))) (aA rfl) rfl rfl) ?_
 obtain ⟨r2, h3, h⟩ := bind_some h
 refine tr1 rfl (cN (aA rfl) (.func _ _ Try.call29) rfl rfl (BVs.refl _ _) (lN _ _ h3) rfl) ?_
 refine tr1 rfl (aJ (v := .d (.lit (.int .i64 r2))) (aA rfl) rfl rfl) ?_
 refine aF ?_
 refine aG ?_
 refine aC ?_
 refine tr1 rfl (aD (v := .d (.lit (.int .i64 r2))) (aA rfl) rfl rfl) ?_
 refine tr1 rfl (bK (aA rfl) rfl rfl rfl) ?_
 refine aF ?_
 refine bU rfl (fun c4 => ?_) (fun c4 => ?_)
 ·have h := bB c4 h
  refine aG ?_
  refine aC ?_
  refine tr1 rfl (aD (v := .d (.lit (.int .i64 r2))) (aA rfl) rfl rfl) ?_
  refine tr1 rfl (aJ (v := .d (.lit (.int .i64 0))) (aA rfl) rfl rfl) ?_
  refine tr1 rfl (aJ (v := .d (.lit (.int .i64 r2))) (aA rfl) rfl rfl) ?_
  refine aF ?_
  have h := Option.some.inj h
  subst h
  refine cQ (cP (cS (l := [4, 5]) ⟨rfl, rfl, trivial⟩)) ?_
  exact bR ⟨rfl, _, .two _ _, rfl, rfl⟩
 ·have h := aZ c4 h
  refine bS ?_
  refine aG ?_
  refine aC ?_
  refine tr1 rfl (bH (aA rfl) rfl (i := 0) rfl dA (es := (aQ t_0)) rfl rfl) ?_
  refine tr1 rfl (aD (v := .d (.sl 5 (l_1.map aL))) (aA rfl) rfl rfl) ?_
  obtain ⟨r5, h6, h⟩ := bind_some h
  refine tr1 rfl (eR (aA rfl) (.func _ _ Try.call55) rfl rfl (mE _ _ h6)) ?_
  refine tr1 rfl (aD (v := .tup [.agg (bI r5.1), .d (.lit (.bool r5.2))]) (aA rfl) rfl rfl) ?_
  refine tr1 rfl (bM (aA rfl) rfl rfl) ?_
  refine tr1 rfl (bM (aA rfl) rfl rfl) ?_
  refine bV rfl (dI (zs := [.sl 1 ((([] : List Int)).map aO), .sl 1 ((([] : List (List Int))).map gV)]) (aA rfl) Try.zeroValue89 rfl rfl) ?_
  rintro _ ⟨b7, rfl⟩
  refine tr1 rfl (cE (i := 1) rfl rfl rfl rfl rfl Try.sizeOf89 rfl (aA rfl) (Nat.le_of_ble_eq_true rfl) (ds' := (bI r5.1)) rfl) ?_
  refine tr1 rfl (aJ (v := .d (.lit (.bool r5.2))) (aA rfl) rfl rfl) ?_
  refine aF ?_
  refine aG ?_
  refine aC ?_
  refine tr1 rfl (aJ (v := .d (.lit (.int .i64 0))) (aA rfl) rfl rfl) ?_
  refine aF ?_
  refine aG ?_
  refine aG ?_
  refine aC ?_
  refine tr1 rfl (aJ (v := .d (.lit (.int .i64 0))) (aA rfl) rfl rfl) ?_
  refine aF ?_
  refine cF ?_
  refine dH [2, 7] (fun (s8 : Int × Int) => [(9, .d (.lit (.int .i64 s8.1))), (10, .d (.lit (.int .i64 s8.2)))]) (fun (s8 : Int × Int) => [.box b1 0 (aQ t_0), .box b7 0 (bI r5.1)]) (fun (k : Nat) (s8 : Int × Int) => dT t_0 r5.1 k s8.1 s8.2) (fun _ => rfl) (0, 0) h (bE [0, 1] rfl rfl (aT rfl (aT rfl (bC ⟨rfl, rfl, trivial⟩)))) ?_
  rintro k9 ⟨n_0_8, r_0_8⟩ h
  simp only [dT] at h
  refine aG ?_
  refine aG ?_
  refine aC ?_
  refine tr1 rfl (aD (v := .d (.lit (.int .i64 r_0_8))) (aA rfl) rfl rfl) ?_
  refine tr1 rfl (aW (aA rfl) rfl gM) ?_
  refine tr1 rfl (aY (aA rfl) rfl (i := 0) rfl rfl bO) ?_
  refine tr1 rfl (bK (aA rfl) rfl rfl rfl) ?_
  refine aF ?_
  refine bU rfl (fun c10 => ?_) (fun c10 => ?_)
  ·have h := bB c10 h
   refine bS ?_
   refine aG ?_
   refine cF ?_
   refine aG ?_
   refine aC ?_
   refine tr1 rfl (aJ (v := .d (.lit (.int .i64 0))) (aA rfl) rfl rfl) ?_
   refine aF ?_
   refine sW ?_
   refine dH [2, 7, 10] (fun (s11 : Int × Int) => [(9, .d (.lit (.int .i64 s11.1))), (11, .d (.lit (.int .i64 s11.2)))]) (fun (s11 : Int × Int) => [.box b1 0 (aQ t_0), .box b7 0 (bI r5.1)]) (fun (k : Nat) (s11 : Int × Int) => fR (dT t_0 r5.1 k9) r_0_8 t_0 r5.1 k s11.1 s11.2) (fun _ => rfl) (n_0_8, 0) h (bE [0, 1] rfl rfl (aT rfl (aT rfl (bC ⟨rfl, rfl, rfl, trivial⟩)))) ?_
   rintro k12 ⟨n_2_11, p_2_11⟩ h
   simp only [fR] at h
   refine aG ?_
   refine aG ?_
   refine aC ?_
   refine tr1 rfl (aD (v := .d (.lit (.int .i64 p_2_11))) (aA rfl) rfl rfl) ?_
   refine tr1 rfl (bH (aA rfl) rfl (i := 0) rfl dA (es := (aQ t_0)) rfl rfl) ?_
   refine tr1 rfl (aD (v := .d (.lit (.int .i64 r_0_8))) (aA rfl) rfl rfl) ?_
   obtain ⟨r13, h14, h⟩ := bind_some h
   refine tr1 rfl (cN (aA rfl) (.func _ _ Try.call42) rfl rfl (BVs.refl _ _) (lF _ _ h14) rfl) ?_
   refine tr1 rfl (bK (aA rfl) rfl rfl rfl) ?_
   refine aF ?_
   refine bU rfl (fun c15 => ?_) (fun c15 => ?_)
   ·have h := bB c15 h
    refine bS ?_
    refine aG ?_
    refine cF ?_
    refine aG ?_
    refine aC ?_
    refine tr1 rfl (aW (aA rfl) rfl nD) ?_
    refine tr1 rfl (aY (aA rfl) rfl (i := 1) rfl rfl rV) ?_
    refine tr1 rfl (aD (v := .d (.lit (.int .i64 r_0_8))) (aA rfl) rfl rfl) ?_
    obtain ⟨x16, h17, h⟩ := bind_some h
    refine tr1 rfl (bQ (aA rfl) rfl rfl sP.of (cA gV h17)) ?_
    refine tr1 rfl (bT (aA rfl) rfl cW) ?_
    refine tr1 rfl (aD (v := .d (.lit (.int .i64 p_2_11))) (aA rfl) rfl rfl) ?_
    obtain ⟨x18, h19, h⟩ := bind_some h
    refine tr1 rfl (bQ (aA rfl) rfl rfl cC.of (cA aO h19)) ?_
    refine tr1 rfl (bT (aA rfl) rfl bO) ?_
    refine tr1 rfl (bK (aA rfl) rfl rfl rfl) ?_
    refine aF ?_
    refine bU rfl (fun c20 => ?_) (fun c20 => ?_)
    ·have h := bB c20 h
     refine aC ?_
     refine tr1 rfl (aD (v := .d (.lit (.int .i64 n_2_11))) (aA rfl) rfl rfl) ?_
     refine tr1 rfl (bN (aA rfl) rfl rfl rfl) ?_
     refine tr1 rfl (aJ (v := .d (.lit (.int .i64 ((w64 (n_2_11 + 1)))))) (aA rfl) rfl rfl) ?_
     refine fD ?_
     refine aC ?_
     refine tr1 rfl (aD (v := .d (.lit (.int .i64 p_2_11))) (aA rfl) rfl rfl) ?_
     refine tr1 rfl (bN (aA rfl) rfl rfl rfl) ?_
     refine tr1 rfl (aJ (v := .d (.lit (.int .i64 ((w64 (p_2_11 + 1)))))) (aA rfl) rfl rfl) ?_
     refine aF ?_
     exact ⟨(w64 (n_2_11 + 1), w64 (p_2_11 + 1)), h, bE [0, 1] rfl rfl (aT rfl (aT rfl (bC ⟨rfl, rfl, rfl, trivial⟩)))⟩
    ·have h := aZ c20 h
     refine eA ?_
     refine aC ?_
     refine tr1 rfl (aD (v := .d (.lit (.int .i64 p_2_11))) (aA rfl) rfl rfl) ?_
     refine tr1 rfl (bN (aA rfl) rfl rfl rfl) ?_
     refine tr1 rfl (aJ (v := .d (.lit (.int .i64 ((w64 (p_2_11 + 1)))))) (aA rfl) rfl rfl) ?_
     refine aF ?_
     exact ⟨(n_2_11, w64 (p_2_11 + 1)), h, bE [0, 1] rfl rfl (aT rfl (aT rfl (bC ⟨rfl, rfl, rfl, trivial⟩)))⟩
   ·have h := aZ c15 h
    refine cV ?_
    refine .inl ⟨rfl, ?_⟩
    simp only [lO] at h
    simp only [oG] at h
    refine aC ?_
    refine tr1 rfl (aD (v := .d (.lit (.int .i64 r_0_8))) (aA rfl) rfl rfl) ?_
    refine tr1 rfl (bN (aA rfl) rfl rfl rfl) ?_
    refine tr1 rfl (aJ (v := .d (.lit (.int .i64 ((w64 (r_0_8 + 1)))))) (aA rfl) rfl rfl) ?_
    refine aF ?_
    exact ⟨(n_2_11, w64 (r_0_8 + 1)), h, bE [0, 1] rfl rfl (aT rfl (aT rfl (bC ⟨rfl, rfl, trivial⟩)))⟩
  ·have h := aZ c10 h
   refine cV ?_
   refine .inl ⟨rfl, ?_⟩
   simp only [oF] at h
   refine aG ?_
   refine aC ?_
   refine tr1 rfl (aD (v := .d (.lit (.int .i64 n_0_8))) (aA rfl) rfl rfl) ?_
   refine tr1 rfl (aJ (v := .d (.lit (.int .i64 n_0_8))) (aA rfl) rfl rfl) ?_
   refine tr1 rfl (aJ (v := .d (.lit (.int .i64 0))) (aA rfl) rfl rfl) ?_
   refine aF ?_
   have h := Option.some.inj h
   subst h
   refine cQ (cP (cS (l := [4, 5]) ⟨rfl, rfl, trivial⟩)) ?_
   exact bR ⟨rfl, _, .two _ _, rfl, rfl⟩

theorem uG (a0 : aN) (a1 : List aE) {r : Int × Int} (h : oU a0 a1 = some r) : Fn Try.prog 34 [.agg (aQ a0), .d (.sl 5 (a1.map aL))] ((fun x : Int × Int => .tup [.d (.lit (.int .i64 x.1)), .d (.lit (.int .i64 x.2))]) r) := qY (enc := fun x : Int × Int => .tup [.d (.lit (.int .i64 x.1)), .d (.lit (.int .i64 x.2))]) (aBe a0 a1 (yN a0 a1 h (fun x => x = r) rfl))

theorem xW (a0 : aN) (a1 : List aE) (a2 : Int) {r : dL × Int} (h : oX a0 a1 a2 = some r) : Fn Try.prog 17 [.agg (aQ a0), .d (.sl 5 (a1.map aL)), .d (.lit (.int .i64 a2))] ((fun x : dL × Int => .tup [.agg (eV x.1), .d (.lit (.int .i64 x.2))]) r) := qY (enc := fun x : dL × Int => .tup [.agg (eV x.1), .d (.lit (.int .i64 x.2))]) (xV a0 a1 a2 (wA a0 a1 a2 h (fun x => x = r) rfl))

theorem rO {r : Bool} (h : kY = some r) : Fn Try.prog 14 [] (.d (.lit (.bool r))) := by
 unfold kY at h
 refine Fn.of_tr Try.func14 rfl (rs := [.tmp 0]) Try.results14 Try.ntmps14 (Nat.le_of_ble_eq_true rfl) ?_
 refine aG ?_
 refine aC ?_
 refine tr1 rfl (aJ (v := .d (.lit (.bool false))) (aA rfl) rfl rfl) ?_
 refine aF ?_
 refine aG ?_
 refine aC ?_
 obtain ⟨r1, h2, h⟩ := bind_some h
 refine tr1 rfl (eR (aA rfl) (.func _ _ Try.call43) rfl rfl (uZ h2)) ?_
 refine tr1 rfl (aD (v := .tup [.agg (aQ r1.1), .d (.sl 5 (r1.2.map aL))]) (aA rfl) rfl rfl) ?_
 refine tr1 rfl (bM (aA rfl) rfl rfl) ?_
 refine tr1 rfl (bM (aA rfl) rfl rfl) ?_
 refine bV rfl (dI (zs := [.lit (.int .i64 0), .sl 1 ((([] : List Int)).map aO)]) (aA rfl) Try.zeroValue24 rfl rfl) ?_
 rintro _ ⟨b3, rfl⟩
 refine tr1 rfl (cE (i := 0) rfl rfl rfl rfl rfl Try.sizeOf24 rfl (aA rfl) (Nat.le_of_ble_eq_true rfl) (ds' := (aQ r1.1)) rfl) ?_
 refine tr1 rfl (aJ (v := .d (.sl 5 (r1.2.map aL))) (aA rfl) rfl rfl) ?_
 refine aF ?_
 refine aG ?_
 refine aC ?_
 refine tr1 rfl (bH (aA rfl) rfl (i := 0) rfl dA (es := (aQ r1.1)) rfl rfl) ?_
 refine tr1 rfl (aD (v := .d (.sl 5 (r1.2.map aL))) (aA rfl) rfl rfl) ?_
 obtain ⟨r4, h5, h⟩ := bind_some h
 refine tr1 rfl (eR (aA rfl) (.func _ _ Try.call30) rfl rfl (tO _ _ h5)) ?_
 refine tr1 rfl (aD (v := .tup [.d (.sl 4 (r4.1.map aX)), .d (.lit (.int .i64 r4.2))]) (aA rfl) rfl rfl) ?_
 refine tr1 rfl (bM (aA rfl) rfl rfl) ?_
 refine tr1 rfl (bM (aA rfl) rfl rfl) ?_
 refine tr1 rfl (aJ (v := .d (.sl 4 (r4.1.map aX))) (aA rfl) rfl rfl) ?_
 refine tr1 rfl (aJ (v := .d (.lit (.int .i64 r4.2))) (aA rfl) rfl rfl) ?_
 refine aF ?_
 refine aG ?_
 refine aC ?_
 refine tr1 rfl (bH (aA rfl) rfl (i := 0) rfl dA (es := (aQ r1.1)) rfl rfl) ?_
 refine tr1 rfl (aD (v := .d (.sl 5 (r1.2.map aL))) (aA rfl) rfl rfl) ?_
 obtain ⟨r6, h7, h⟩ := bind_some h
 refine tr1 rfl (eR (aA rfl) (.func _ _ Try.call15) rfl rfl (aCp _ _ _ _ h7)) ?_
 refine tr1 rfl (aD (v := .tup [.d (.sl 1 (r6.1.map aO)), .d (.lit (.int .i64 r6.2))]) (aA rfl) rfl rfl) ?_
 refine tr1 rfl (bM (aA rfl) rfl rfl) ?_
 refine tr1 rfl (bM (aA rfl) rfl rfl) ?_
 refine tr1 rfl (aJ (v := .d (.sl 1 (r6.1.map aO))) (aA rfl) rfl rfl) ?_
 refine tr1 rfl (aJ (v := .d (.lit (.int .i64 r6.2))) (aA rfl) rfl rfl) ?_
 refine aF ?_
 refine aG ?_
 refine aC ?_
 refine tr1 rfl (bH (aA rfl) rfl (i := 0) rfl dA (es := (aQ r1.1)) rfl rfl) ?_
 refine tr1 rfl (aD (v := .d (.sl 5 (r1.2.map aL))) (aA rfl) rfl rfl) ?_
 obtain ⟨r8, h9, h⟩ := bind_some h
 refine tr1 rfl (cN (aA rfl) (.func _ _ Try.call34) rfl rfl (BVs.refl _ _) (uG _ _ h9) rfl) ?_
 refine tr1 rfl (aD (v := .tup [.d (.lit (.int .i64 r8.1)), .d (.lit (.int .i64 r8.2))]) (aA rfl) rfl rfl) ?_
 refine tr1 rfl (bM (aA rfl) rfl rfl) ?_
 refine tr1 rfl (bM (aA rfl) rfl rfl) ?_
 refine tr1 rfl (aJ (v := .d (.lit (.int .i64 r8.1))) (aA rfl) rfl rfl) ?_
 refine tr1 rfl (aJ (v := .d (.lit (.int .i64 r8.2))) (aA rfl) rfl rfl) ?_
 refine aF ?_
 refine aG ?_
 refine aC ?_
 refine tr1 rfl (bH (aA rfl) rfl (i := 0) rfl dA (es := (aQ r1.1)) rfl rfl) ?_
 refine tr1 rfl (aD (v := .d (.sl 5 (r1.2.map aL))) (aA rfl) rfl rfl) ?_
 obtain ⟨r10, h11, h⟩ := bind_some h
 refine tr1 rfl (eR (aA rfl) (.func _ _ Try.call17) rfl rfl (xW _ _ _ h11)) ?_
 refine tr1 rfl (aD (v := .tup [.agg (eV r10.1), .d (.lit (.int .i64 r10.2))]) (aA rfl) rfl rfl) ?_
 refine tr1 rfl (bM (aA rfl) rfl rfl) ?_
 refine tr1 rfl (bM (aA rfl) rfl rfl) ?_
 refine bV rfl (dI (zs := [.lit (.int .i64 0), .lit (.int .i64 0)]) (aA rfl) Try.zeroValue39 rfl rfl) ?_
 rintro _ ⟨b12, rfl⟩
 refine tr1 rfl (cE (i := 1) rfl rfl rfl rfl rfl Try.sizeOf39 rfl (aA rfl) (Nat.le_of_ble_eq_true rfl) (ds' := (eV r10.1)) rfl) ?_
 refine tr1 rfl (aJ (v := .d (.lit (.int .i64 r10.2))) (aA rfl) rfl rfl) ?_
 refine aF ?_
 refine aG ?_
 refine aC ?_
 refine tr1 rfl (aD (v := .d (.lit (.int .i64 r4.2))) (aA rfl) rfl rfl) ?_
 refine tr1 rfl (bK (aA rfl) rfl rfl rfl) ?_
 refine tr1 rfl (aD (v := .d (.lit (.bool ((decide (r4.2 = 0)))))) (aA rfl) rfl rfl) ?_
 obtain ⟨b13, h14, h⟩ := bind_some h
 refine cG 3 [3, 5, 7, 8, 9, 10] 44 b13 ?_ ?_
 ·refine bP (decide (r4.2 = 0)) (fun c45 => ?_) (fun c45 => ?_)
  ·have h14 := bB c45 h14
   refine aM rfl rfl (aA rfl) rfl c45 (aD (v := .d (.lit (.int .i64 r6.2))) (aA rfl) rfl rfl) ?_
   refine aM rfl rfl (aA rfl) rfl c45 (bK (aA rfl) rfl rfl rfl) ?_
   refine tr1 rfl (bZ (v := .d (.lit (.bool ((decide (r6.2 = 0)))))) (aA rfl) rfl c45 rfl rfl) ?_
   have h14 := Option.some.inj h14
   subst h14
   refine aF (bF rfl ⟨rfl, rfl, rfl, rfl, rfl, rfl, trivial⟩ rfl)
  ·have h14 := aZ c45 h14
   refine aP rfl rfl (aA rfl) rfl (aA rfl) rfl c45 ?_
   refine aP rfl rfl (aA rfl) rfl (aA rfl) rfl c45 ?_
   refine tr1 rfl (bY (v := .d (.lit (.bool false))) (aA rfl) rfl c45 rfl rfl) ?_
   have h14 := Option.some.inj h14
   subst h14
   refine aF (bF rfl ⟨rfl, rfl, rfl, rfl, rfl, rfl, trivial⟩ rfl)
 ·refine tr1 rfl (aD (v := .d (.lit (.bool b13))) (aA rfl) rfl rfl) ?_
  obtain ⟨b15, h16, h⟩ := bind_some h
  refine cG 3 [3, 5, 7, 9, 10] 48 b15 ?_ ?_
  ·refine bP (b13) (fun c44 => ?_) (fun c44 => ?_)
   ·have h16 := bB c44 h16
    refine aM rfl rfl (aA rfl) rfl c44 (aD (v := .d (.lit (.int .i64 r8.2))) (aA rfl) rfl rfl) ?_
    refine aM rfl rfl (aA rfl) rfl c44 (bK (aA rfl) rfl rfl rfl) ?_
    refine tr1 rfl (bZ (v := .d (.lit (.bool ((decide (r8.2 = 0)))))) (aA rfl) rfl c44 rfl rfl) ?_
    have h16 := Option.some.inj h16
    subst h16
    refine aF (bF rfl ⟨rfl, rfl, rfl, rfl, rfl, trivial⟩ rfl)
   ·have h16 := aZ c44 h16
    refine aP rfl rfl (aA rfl) rfl (aA rfl) rfl c44 ?_
    refine aP rfl rfl (aA rfl) rfl (aA rfl) rfl c44 ?_
    refine tr1 rfl (bY (v := .d (.lit (.bool false))) (aA rfl) rfl c44 rfl rfl) ?_
    have h16 := Option.some.inj h16
    subst h16
    refine aF (bF rfl ⟨rfl, rfl, rfl, rfl, rfl, trivial⟩ rfl)
  ·refine tr1 rfl (aD (v := .d (.lit (.bool b15))) (aA rfl) rfl rfl) ?_
   obtain ⟨b17, h18, h⟩ := bind_some h
   refine cG 3 [3, 5, 7, 9] 52 b17 ?_ ?_
   ·refine bP (b15) (fun c43 => ?_) (fun c43 => ?_)
    ·have h18 := bB c43 h18
     refine aM rfl rfl (aA rfl) rfl c43 (aD (v := .d (.lit (.int .i64 r10.2))) (aA rfl) rfl rfl) ?_
     refine aM rfl rfl (aA rfl) rfl c43 (bK (aA rfl) rfl rfl rfl) ?_
     refine tr1 rfl (bZ (v := .d (.lit (.bool ((decide (r10.2 = 0)))))) (aA rfl) rfl c43 rfl rfl) ?_
     have h18 := Option.some.inj h18
     subst h18
     refine aF (bF rfl ⟨rfl, rfl, rfl, rfl, trivial⟩ rfl)
    ·have h18 := aZ c43 h18
     refine aP rfl rfl (aA rfl) rfl (aA rfl) rfl c43 ?_
     refine aP rfl rfl (aA rfl) rfl (aA rfl) rfl c43 ?_
     refine tr1 rfl (bY (v := .d (.lit (.bool false))) (aA rfl) rfl c43 rfl rfl) ?_
     have h18 := Option.some.inj h18
     subst h18
     refine aF (bF rfl ⟨rfl, rfl, rfl, rfl, trivial⟩ rfl)
   ·refine tr1 rfl (aD (v := .d (.lit (.bool b17))) (aA rfl) rfl rfl) ?_
    obtain ⟨b19, h20, h⟩ := bind_some h
    refine cG 4 [3, 5, 7, 9] 57 b19 ?_ ?_
    ·refine bP (b17) (fun c42 => ?_) (fun c42 => ?_)
     ·have h20 := bB c42 h20
      refine aM rfl rfl (aA rfl) rfl c42 (aD (v := .d (.sl 4 (r4.1.map aX))) (aA rfl) rfl rfl) ?_
      refine aM rfl rfl (aA rfl) rfl c42 (dZ (aA rfl) rfl iH.of) ?_
      refine aM rfl rfl (aA rfl) rfl c42 (bK (aA rfl) rfl rfl rfl) ?_
      refine tr1 rfl (bZ (v := .d (.lit (.bool ((decide ((r4.1.length : Int) = 7)))))) (aA rfl) rfl c42 rfl rfl) ?_
      have h20 := Option.some.inj h20
      subst h20
      refine aF (bF rfl ⟨rfl, rfl, rfl, rfl, trivial⟩ rfl)
     ·have h20 := aZ c42 h20
      refine aP rfl rfl (aA rfl) rfl (aA rfl) rfl c42 ?_
      refine aP rfl rfl (aA rfl) rfl (aA rfl) rfl c42 ?_
      refine aP rfl rfl (aA rfl) rfl (aA rfl) rfl c42 ?_
      refine tr1 rfl (bY (v := .d (.lit (.bool false))) (aA rfl) rfl c42 rfl rfl) ?_
      have h20 := Option.some.inj h20
      subst h20
      refine aF (bF rfl ⟨rfl, rfl, rfl, rfl, trivial⟩ rfl)
    ·refine tr1 rfl (aD (v := .d (.lit (.bool b19))) (aA rfl) rfl rfl) ?_
     obtain ⟨b21, h22, h⟩ := bind_some h
     refine cG 6 [3, 5, 7, 9] 64 b21 ?_ ?_
     ·refine bP (b19) (fun c39 => ?_) (fun c39 => ?_)
      ·have h22 := bB c39 h22
       refine aM rfl rfl (aA rfl) rfl c39 (aD (v := .d (.sl 4 (r4.1.map aX))) (aA rfl) rfl rfl) ?_
       obtain ⟨x40, h41, h22⟩ := bind_some h22
       refine aM rfl rfl (aA rfl) rfl c39 (bQ (aA rfl) rfl rfl iH.of (cA aX h41)) ?_
       refine aM rfl rfl (aA rfl) rfl c39 (gC (aA rfl) rfl sY (es := (aX x40)) rfl rfl) ?_
       refine aM rfl rfl (aA rfl) rfl c39 (eN (aA rfl) aBc (zs := [.lit (.int .i64 0), .lit (.int .i64 0), .lit (.int .i64 0), .lit (.int .i64 0)]) rfl rfl rfl rfl (es := [.lit (.int .i64 1), .lit (.int .i64 0), .lit (.int .i64 1), .lit (.int .i64 2)]) rfl) ?_
       refine aM rfl rfl (aA rfl) rfl c39 (xQ (a := x40) (b := (bD.mk 1 0 1 2)) (aA rfl) rfl rfl rfl rfl Try.eqGuardType57 aDl) ?_
       refine tr1 rfl (bZ (v := .d (.lit (.bool ((decide (x40 = (bD.mk 1 0 1 2))))))) (aA rfl) rfl c39 rfl rfl) ?_
       have h22 := Option.some.inj h22
       subst h22
       refine aF (bF rfl ⟨rfl, rfl, rfl, rfl, trivial⟩ rfl)
      ·have h22 := aZ c39 h22
       refine aP rfl rfl (aA rfl) rfl (aA rfl) rfl c39 ?_
       refine aP rfl rfl (aA rfl) rfl (aA rfl) rfl c39 ?_
       refine aP rfl rfl (aA rfl) rfl (aA rfl) rfl c39 ?_
       refine aP rfl rfl (aA rfl) rfl (aA rfl) rfl c39 ?_
       refine aP rfl rfl (aA rfl) rfl (aA rfl) rfl c39 ?_
       refine tr1 rfl (bY (v := .d (.lit (.bool false))) (aA rfl) rfl c39 rfl rfl) ?_
       have h22 := Option.some.inj h22
       subst h22
       refine aF (bF rfl ⟨rfl, rfl, rfl, rfl, trivial⟩ rfl)
     ·refine tr1 rfl (aD (v := .d (.lit (.bool b21))) (aA rfl) rfl rfl) ?_
      obtain ⟨b23, h24, h⟩ := bind_some h
      refine cG 6 [5, 7, 9] 71 b23 ?_ ?_
      ·refine bP (b21) (fun c36 => ?_) (fun c36 => ?_)
       ·have h24 := bB c36 h24
        refine aM rfl rfl (aA rfl) rfl c36 (aD (v := .d (.sl 4 (r4.1.map aX))) (aA rfl) rfl rfl) ?_
        obtain ⟨x37, h38, h24⟩ := bind_some h24
        refine aM rfl rfl (aA rfl) rfl c36 (bQ (aA rfl) rfl rfl iH.of (cA aX h38)) ?_
        refine aM rfl rfl (aA rfl) rfl c36 (gC (aA rfl) rfl sY (es := (aX x37)) rfl rfl) ?_
        refine aM rfl rfl (aA rfl) rfl c36 (eN (aA rfl) aBc (zs := [.lit (.int .i64 0), .lit (.int .i64 0), .lit (.int .i64 0), .lit (.int .i64 0)]) rfl rfl rfl rfl (es := [.lit (.int .i64 2), .lit (.int .i64 0), .lit (.int .i64 2), .lit (.int .i64 (-2))]) rfl) ?_
        refine aM rfl rfl (aA rfl) rfl c36 (xQ (a := x37) (b := (bD.mk 2 0 2 (-2))) (aA rfl) rfl rfl rfl rfl Try.eqGuardType57 aDl) ?_
        refine tr1 rfl (bZ (v := .d (.lit (.bool ((decide (x37 = (bD.mk 2 0 2 (-2)))))))) (aA rfl) rfl c36 rfl rfl) ?_
        have h24 := Option.some.inj h24
        subst h24
        refine aF (bF rfl ⟨rfl, rfl, rfl, trivial⟩ rfl)
       ·have h24 := aZ c36 h24
        refine aP rfl rfl (aA rfl) rfl (aA rfl) rfl c36 ?_
        refine aP rfl rfl (aA rfl) rfl (aA rfl) rfl c36 ?_
        refine aP rfl rfl (aA rfl) rfl (aA rfl) rfl c36 ?_
        refine aP rfl rfl (aA rfl) rfl (aA rfl) rfl c36 ?_
        refine aP rfl rfl (aA rfl) rfl (aA rfl) rfl c36 ?_
        refine tr1 rfl (bY (v := .d (.lit (.bool false))) (aA rfl) rfl c36 rfl rfl) ?_
        have h24 := Option.some.inj h24
        subst h24
        refine aF (bF rfl ⟨rfl, rfl, rfl, trivial⟩ rfl)
      ·refine tr1 rfl (aD (v := .d (.lit (.bool b23))) (aA rfl) rfl rfl) ?_
       obtain ⟨b25, h26, h⟩ := bind_some h
       refine cG 4 [7, 9] 76 b25 ?_ ?_
       ·refine bP (b23) (fun c33 => ?_) (fun c33 => ?_)
        ·have h26 := bB c33 h26
         refine aM rfl rfl (aA rfl) rfl c33 (aD (v := .d (.sl 1 (r6.1.map aO))) (aA rfl) rfl rfl) ?_
         refine aM rfl rfl (aA rfl) rfl c33 (fM (aA rfl) cC rfl rfl (rows := ([2, 5, 7, 8]).map aO) rfl (dD (f := aO) fun _ => rfl) rfl (by decide)) ?_
         obtain ⟨r34, h35, h26⟩ := bind_some h26
         refine aM rfl rfl (aA rfl) rfl c33 (cN (aA rfl) (.func _ _ Try.call23) rfl rfl (BVs.refl _ _) (pT _ _ h35) rfl) ?_
         refine tr1 rfl (bZ (v := .d (.lit (.bool r34))) (aA rfl) rfl c33 rfl rfl) ?_
         have h26 := Option.some.inj h26
         subst h26
         refine aF (bF rfl ⟨rfl, rfl, trivial⟩ rfl)
        ·have h26 := aZ c33 h26
         refine aP rfl rfl (aA rfl) rfl (aA rfl) rfl c33 ?_
         refine aP rfl rfl (aA rfl) rfl (aA rfl) rfl c33 ?_
         refine aP rfl rfl (aA rfl) rfl (aA rfl) rfl c33 ?_
         refine tr1 rfl (bY (v := .d (.lit (.bool false))) (aA rfl) rfl c33 rfl rfl) ?_
         have h26 := Option.some.inj h26
         subst h26
         refine aF (bF rfl ⟨rfl, rfl, trivial⟩ rfl)
       ·refine tr1 rfl (aD (v := .d (.lit (.bool b25))) (aA rfl) rfl rfl) ?_
        obtain ⟨b27, h28, h⟩ := bind_some h
        refine cG 3 [9] 80 b27 ?_ ?_
        ·refine bP (b25) (fun c32 => ?_) (fun c32 => ?_)
         ·have h28 := bB c32 h28
          refine aM rfl rfl (aA rfl) rfl c32 (aD (v := .d (.lit (.int .i64 r8.1))) (aA rfl) rfl rfl) ?_
          refine aM rfl rfl (aA rfl) rfl c32 (bK (aA rfl) rfl rfl rfl) ?_
          refine tr1 rfl (bZ (v := .d (.lit (.bool ((decide (r8.1 = 3)))))) (aA rfl) rfl c32 rfl rfl) ?_
          have h28 := Option.some.inj h28
          subst h28
          refine aF (bF rfl ⟨rfl, trivial⟩ rfl)
         ·have h28 := aZ c32 h28
          refine aP rfl rfl (aA rfl) rfl (aA rfl) rfl c32 ?_
          refine aP rfl rfl (aA rfl) rfl (aA rfl) rfl c32 ?_
          refine tr1 rfl (bY (v := .d (.lit (.bool false))) (aA rfl) rfl c32 rfl rfl) ?_
          have h28 := Option.some.inj h28
          subst h28
          refine aF (bF rfl ⟨rfl, trivial⟩ rfl)
        ·refine tr1 rfl (aD (v := .d (.lit (.bool b27))) (aA rfl) rfl rfl) ?_
         obtain ⟨b29, h30, h⟩ := bind_some h
         refine cG 4 [] 85 b29 ?_ ?_
         ·refine bP (b27) (fun c31 => ?_) (fun c31 => ?_)
          ·have h30 := bB c31 h30
           refine aM rfl rfl (aA rfl) rfl c31 (bH (aA rfl) rfl (i := 1) rfl zM (es := (eV r10.1)) rfl rfl) ?_
           refine aM rfl rfl (aA rfl) rfl c31 (eN (aA rfl) aBb (zs := [.lit (.int .i64 0), .lit (.int .i64 0)]) rfl rfl rfl rfl (es := [.lit (.int .i64 2), .lit (.int .i64 3)]) rfl) ?_
           refine aM rfl rfl (aA rfl) rfl c31 (xQ (a := r10.1) (b := (dL.mk 2 3)) (aA rfl) rfl rfl rfl rfl Try.eqGuardType39 aLu) ?_
           refine tr1 rfl (bZ (v := .d (.lit (.bool ((decide (r10.1 = (dL.mk 2 3))))))) (aA rfl) rfl c31 rfl rfl) ?_
           have h30 := Option.some.inj h30
           subst h30
           refine aF (bF rfl trivial rfl)
          ·have h30 := aZ c31 h30
           refine aP rfl rfl (aA rfl) rfl (aA rfl) rfl c31 ?_
           refine aP rfl rfl (aA rfl) rfl (aA rfl) rfl c31 ?_
           refine aP rfl rfl (aA rfl) rfl (aA rfl) rfl c31 ?_
           refine tr1 rfl (bY (v := .d (.lit (.bool false))) (aA rfl) rfl c31 rfl rfl) ?_
           have h30 := Option.some.inj h30
           subst h30
           refine aF (bF rfl trivial rfl)
         ·refine tr1 rfl (aJ (v := .d (.lit (.bool b29))) (aA rfl) rfl rfl) ?_
          refine aF ?_
          have h := Option.some.inj h
          subst h
          refine cQ (cP (cS (l := [0]) ⟨rfl, trivial⟩)) ?_
          exact bR ⟨rfl, _, .one _, rfl, rfl⟩

theorem xY (t_0 : aN) {r : aN} (h : nV t_0 = some r) : Fn Try.prog 28 [.agg (aQ t_0)] (.agg (aQ r)) := by
 unfold nV at h
 refine pF Try.func28 rfl (rs := [.cell 2 24]) Try.results28 Try.ntmps28 (Nat.le_of_ble_eq_true rfl) ?_
 refine aG ?_
 refine aC ?_
 refine bV rfl (eW (v := .agg (aQ t_0)) (aA rfl) rfl rfl rfl) ?_
 rintro _ ⟨b1, rfl⟩
 refine bV rfl (dI (zs := [.lit (.int .i64 0), .sl 1 ((([] : List Int)).map aO)]) (aA rfl) Try.zeroValue24 rfl rfl) ?_
 rintro _ ⟨b2, rfl⟩
 refine aF ?_
 refine aG ?_
 obtain ⟨x4, h5, h⟩ := bind_some h
 refine sB mix 6 [2] (fun X3 => [(4, .d (.lit (.int .i64 t_0.Rounds))), (8, .d (.sl 1 (x4.map aO)))]) (fun X3 => [.box b1 0 (aQ t_0), .box b2 0 (aQ (aN.mk 0 ([] : List Int)))]) ?_ ?_
 ·refine ⟨0, fun X3 => [(3, 0, .bp b1 0 0), (4, 1, .d (.lit (.int .i64 t_0.Rounds))), (5, 2, .fl true 1 (([] : List Int).map aO)), (6, 3, .bp b1 0 1), (7, 4, .d (.sl 1 (t_0.Slots.map aO))), (8, 5, .d (.sl 1 (x4.map aO)))], fun X3 => [([], .box b1 0 (aQ t_0)), ([], .box b2 0 (aQ (aN.mk 0 ([] : List Int))))], ?_, ?_⟩
  · exact ⟨by kernel_rfl, by kernel_rfl, by kernel_rfl, fun _ => by kernel_rfl, fun _ => by kernel_rfl, fun _ => by kernel_rfl, fun _ => rfl, [([], []), ([0], []), ([], [5]), ([], [5]), ([3], [5]), ([2, 4], [])], by kernel_rfl, ⟨fun X3 S hw hi hS => iA (X := X3) rfl (hw X3) rfl (aS rfl (aW (aA rfl) (aI hS rfl) gM)),
      fun X3 S hw hi hS => iA (X := X3) rfl (hw X3) rfl (aS rfl (aY (aA rfl) (aI hS rfl) (i := 0) (og hS rfl rfl) rfl bO)),
      fun X3 S hw hi hS => iA (X := X3) rfl (hw X3) rfl (aS rfl (aEi (aA rfl) cC rfl pan (rows := (([] : List Int)).map aO) rfl (dD (f := aO) fun _ => rfl) rfl (by decide))),
      fun X3 S hw hi hS => iA (X := X3) rfl (hw X3) rfl (aS rfl (aW (aA rfl) (aI hS rfl) dO)),
      fun X3 S hw hi hS => iA (X := X3) rfl (hw X3) rfl (aS rfl (aY (aA rfl) (aI hS rfl) (i := 0) (og hS rfl rfl) rfl cW)),
      fun X3 S hw hi hS => iA (X := X3) rfl (hw X3) rfl (aS rfl (aIt (.d (.weak _ _)) (aCh (nn := true) (f := aO) (xs := ([] : List Int)) (ys := t_0.Slots) (aA rfl) cC (aI hS rfl) (aI hS rfl) (fun _ => rfl) h5 rfl))), trivial⟩⟩
  · exact fun X3 => dC (aT rfl (aT rfl (bC ⟨rfl, trivial⟩)))
 ·intro X3
  refine tr1 rfl (eN (aA rfl) aIy (zs := [.lit (.int .i64 0), .sl 1 ((([] : List Int)).map aO)]) rfl rfl rfl rfl (es := [.lit (.int .i64 t_0.Rounds), .sl 1 (x4.map aO)]) rfl) ?_
  refine tr1 rfl (cE (i := 1) rfl rfl rfl rfl rfl Try.sizeOf24 rfl (aA rfl) (Nat.le_of_ble_eq_true rfl) (ds' := (aQ (aN.mk t_0.Rounds x4))) rfl) ?_
  refine aF ?_
  have h := Option.some.inj h
  subst h
  exact bR ⟨rfl, _, [.box b1 0 (aQ t_0), .box b2 0 (aQ (aN.mk t_0.Rounds x4))], .one (.cell 2 24 rfl (i := 1) rfl dA (es := (aQ (aN.mk t_0.Rounds x4))) rfl rfl), .refl _, .same _⟩

theorem zP (t_0 : aN) (l_1 : List aE) {Q : Int → Prop} (h : nG t_0 l_1 Q) : eP Try.prog 16 [.agg (aQ t_0), .d (.sl 5 (l_1.map aL))] [] (fun r' o' => ∃ (r : Int), Q r ∧ r' = .d (.lit (.int .i64 r)) ∧ o' = []) := by
 unfold nG at h
 refine fV Try.func16 rfl (rs := [.tmp 4]) Try.results16 Try.ntmps16 (Nat.le_of_ble_eq_true rfl) ?_
 refine aG ?_
 refine aC ?_
 refine bV rfl (eW (v := .agg (aQ t_0)) (aA rfl) rfl rfl rfl) ?_
 rintro _ ⟨b1, rfl⟩
 refine tr1 rfl (aJ (v := .d (.lit (.int .i64 0))) (aA rfl) rfl rfl) ?_
 refine aF ?_
 refine aG ?_
 refine aC ?_
 refine tr1 rfl (bH (aA rfl) rfl (i := 0) rfl dA (es := (aQ t_0)) rfl rfl) ?_
 refine tr1 rfl (aD (v := .d (.sl 5 (l_1.map aL))) (aA rfl) rfl rfl) ?_
 refine bV rfl (mM (aA rfl) (.func _ _ Try.call48) rfl rfl (kV _ _ h)) ?_
 rintro _ ⟨_, _, ⟨r2, h, rfl, rfl⟩, rfl⟩
 refine tr1 rfl (aD (v := .tup [cM aU r2.1, .d (.lit (.int .i64 r2.2))]) (aA rfl) rfl rfl) ?_
 refine tr1 rfl (bM (aA rfl) rfl rfl) ?_
 refine tr1 rfl (bM (aA rfl) rfl rfl) ?_
 refine tr1 rfl (aJ (v := cM aU r2.1) (aA rfl) rfl rfl) ?_
 refine tr1 rfl (aJ (v := .d (.lit (.int .i64 r2.2))) (aA rfl) rfl rfl) ?_
 refine aF ?_
 refine aG ?_
 refine aC ?_
 refine tr1 rfl (aD (v := .d (.lit (.int .i64 r2.2))) (aA rfl) rfl rfl) ?_
 refine tr1 rfl (aJ (v := .d (.lit (.int .i64 r2.2))) (aA rfl) rfl rfl) ?_
 refine aF ?_
 exact bR ⟨rfl, _, [], [.box b1 0 (aQ t_0)], _, .one (.tmp 4 (v := .d (.lit (.int .i64 r2.2))) rfl), .refl _, .same _, r2.2, h, rfl, rfl⟩

theorem zS (t_0 : aN) (l_1 : List aE) {Q : ((List bD) × Int) → Prop} (h : nH t_0 l_1 Q) : eP Try.prog 32 [.agg (aQ t_0), .d (.sl 5 (l_1.map aL))] [] (fun r' o' => ∃ (r : (List bD) × Int), Q r ∧ r' = .tup [.d (.sl 4 (r.1.map aX)), .d (.lit (.int .i64 r.2))] ∧ o' = []) := by
 unfold nH at h
 refine fV Try.func32 rfl (rs := [.tmp 4, .tmp 5]) Try.results32 Try.ntmps32 (Nat.le_of_ble_eq_true rfl) ?_
 refine aG ?_
 refine aC ?_
 refine bV rfl (eW (v := .agg (aQ t_0)) (aA rfl) rfl rfl rfl) ?_
 rintro _ ⟨b1, rfl⟩
 refine tr1 rfl (nE 4 (aA rfl)) ?_
 refine tr1 rfl (aJ (v := .d (.lit (.int .i64 0))) (aA rfl) rfl rfl) ?_
 refine aF ?_
 refine aG ?_
 refine aC ?_
 refine tr1 rfl (bH (aA rfl) rfl (i := 0) rfl dA (es := (aQ t_0)) rfl rfl) ?_
 refine tr1 rfl (aD (v := .d (.sl 5 (l_1.map aL))) (aA rfl) rfl rfl) ?_
 refine bV rfl (mM (aA rfl) (.func _ _ Try.call48) rfl rfl (kV _ _ h)) ?_
 rintro _ ⟨_, _, ⟨r2, h, rfl, rfl⟩, rfl⟩
 refine tr1 rfl (aD (v := .tup [cM aU r2.1, .d (.lit (.int .i64 r2.2))]) (aA rfl) rfl rfl) ?_
 refine tr1 rfl (bM (aA rfl) rfl rfl) ?_
 refine tr1 rfl (bM (aA rfl) rfl rfl) ?_
 refine bV rfl (dI (zs := [.lit (.pointer none)]) (aA rfl) Try.zeroValue68 rfl rfl) ?_
 rintro _ ⟨b3, rfl⟩
 refine aKl (enc := aU) 17 rfl fun w4 => ?_
 refine tr1 rfl (cE (i := 1) rfl rfl rfl rfl rfl Try.sizeOf68 rfl (aA rfl) (Nat.le_of_ble_eq_true rfl) (ds' := [.lit w4]) rfl) ?_
 refine tr1 rfl (aJ (v := .d (.lit (.int .i64 r2.2))) (aA rfl) rfl rfl) ?_
 refine aF ?_
 refine aG ?_
 refine aG ?_
 refine aC ?_
 refine tr1 rfl (aD (v := .d (.lit (.int .i64 r2.2))) (aA rfl) rfl rfl) ?_
 refine tr1 rfl (bK (aA rfl) rfl rfl rfl) ?_
 refine aF ?_
 refine bU rfl (fun c5 => ?_) (fun c5 => ?_)
 ·have h := eI c5 h
  refine aG ?_
  refine aC ?_
  refine tr1 rfl (aD (v := .d (.lit (.int .i64 r2.2))) (aA rfl) rfl rfl) ?_
  refine tr1 rfl (nE 4 (aA rfl)) ?_
  refine tr1 rfl (aJ (v := .d (.lit (.int .i64 r2.2))) (aA rfl) rfl rfl) ?_
  refine aF ?_
  exact bR ⟨rfl, _, [], [.box b1 0 (aQ t_0), .box b3 0 [.lit w4], nX aU r2.1 w4], _, .two (.tmp 4 (v := .d (.sl 4 ((([] : List bD)).map aX))) rfl) (.tmp 5 (v := .d (.lit (.int .i64 r2.2))) rfl), .refl _, .same _, (([] : List bD), r2.2), h, rfl, rfl⟩
 ·have h := eH c5 h
  refine bS ?_
  refine aG ?_
  refine aC ?_
  refine bV rfl (dI (zs := [.lit (.slice none 0 0)]) (aA rfl) Try.zeroValue48 rfl rfl) ?_
  rintro _ ⟨b6, rfl⟩
  refine jT (vC 57 4) ?_
  refine aF ?_
  refine aG ?_
  refine aG ?_
  refine aC ?_
  refine tr1 rfl (aCj (enc := aU) (i := 1) (i2 := 2) (aA rfl) rfl rfl rfl rfl aIi) ?_
  obtain ⟨x7, h8, h⟩ := dE h
  refine jT (xM (enc := aU) (k := 22) rfl h8) ?_
  refine tr1 rfl (aIr (aA rfl) rfl rfl) ?_
  refine aF ?_
  refine cF ?_
  obtain ⟨s9, h10, h⟩ := dE h
  refine sX ?_ aIg
  refine aEo (S := (List bD) × Value) (S0 := (List bD)) (f := 56) (ps := [24, 25]) (fun z13 => z13.1) (fun z13 => [.box b1 0 (aQ t_0), .box b3 0 [.lit w4], nX aU r2.1 w4, .box b6 0 [.lit z13.2], .arr z13.2 57 4 (z13.1.map aX)]) (aKr (fun x14 : aB => .agg (aK x14)) (fun x15 : bD => .agg (aX x15)) _) (([] : List bD), (.slice none 0 0)) ([] : List bD) s9 (bE [0, 1, 2, 3, 4] rfl rfl (le_refl _)) rfl Try.call56 rfl (by decide) rfl rfl (fun l J hy m0 h0 => pB (S := (List bD)) J l _ (fun _ _ _ _ _ hJ hq => hy _ _ _ _ hJ ⟨_, _, rfl, hq⟩) x7 _ m0 h0 h10) ?_ ?_
  ·rintro ⟨e11, w12⟩ _ _ ⟨x14, x15, rfl, h⟩
   refine ⟨rfl, ?_⟩
   refine aG ?_
   refine aC ?_
   refine bV rfl (dI (zs := [.lit (.int .i64 0), .lit (.int .i64 0)]) (aA rfl) Try.zeroValue70 rfl rfl) ?_
   rintro _ ⟨b16, rfl⟩
   refine tr1 rfl (cE (i := 5) rfl rfl rfl rfl rfl Try.sizeOf70 rfl (aA rfl) (Nat.le_of_ble_eq_true rfl) (ds' := (aK x14)) rfl) ?_
   refine aF ?_
   refine aC ?_
   refine bV rfl (dI (zs := [.lit (.int .i64 0), .lit (.int .i64 0), .lit (.int .i64 0), .lit (.int .i64 0)]) (aA rfl) Try.zeroValue57 rfl rfl) ?_
   rintro _ ⟨b17, rfl⟩
   refine tr1 rfl (cE (i := 6) rfl rfl rfl rfl rfl Try.sizeOf57 rfl (aA rfl) (Nat.le_of_ble_eq_true rfl) (ds' := (aX x15)) rfl) ?_
   refine aF ?_
   refine cF ?_
   refine aG ?_
   obtain ⟨x18, h19, h⟩ := bind_some h
   refine cQ (aHv (enc := aU) (i := 2) rfl h19) ?_
   refine dQ mix 10 [8, 10] [(34, .d (.lit (.bool ((cR x14 x18.won)))))] ?_ ?_
   ·refine ⟨[(27, 0, .cp [.lit (.int .i64 x18.Tree.Rounds), .sl 1 (x18.Tree.Slots.map aO), .sl 1 (x18.players.map aO), .mp false (x18.won.map fun p : aB × Int => ((fun a : aB => Value.agg ((aK a).map bJ).toArray) p.1, aO p.2))]), (28, 1, .cp [.lit (.int .i64 x18.Tree.Rounds), .sl 1 (x18.Tree.Slots.map aO), .sl 1 (x18.players.map aO), .mp false (x18.won.map fun p : aB × Int => ((fun a : aB => Value.agg ((aK a).map bJ).toArray) p.1, aO p.2))]), (29, 2, .cp [.mp false (x18.won.map fun p : aB × Int => ((fun a : aB => Value.agg ((aK a).map bJ).toArray) p.1, aO p.2))]), (30, 3, .d (.mp false (x18.won.map fun p : aB × Int => ((fun a : aB => Value.agg ((aK a).map bJ).toArray) p.1, aO p.2)))), (31, 4, .agg (aK x14)), (32, 5, .tup [.d (.lit (.int .i64 ((cK x14 0 x18.won)))), .d (.lit (.bool ((cR x14 x18.won))))]), (26, 6, .tup [.d (.lit (.int .i64 ((cK x14 0 x18.won)))), .d (.lit (.bool ((cR x14 x18.won))))]), (33, 7, .d (.lit (.int .i64 ((cK x14 0 x18.won))))), (34, 8, .d (.lit (.bool ((cR x14 x18.won))))), (11, 9, .d (.lit (.int .i64 ((cK x14 0 x18.won)))))], ?_, ?_⟩
    · exact ⟨by kernel_rfl, by kernel_rfl, by kernel_rfl, by kernel_rfl, by kernel_rfl, [([], []), ([0], []), ([1], []), ([2], []), ([], []), ([3, 4], []), ([5], []), ([6], []), ([6], []), ([7], [])], by kernel_rfl, ⟨fun S hS => aH rfl (aS rfl (aIp (enc := aU) (i := 1) (i2 := 2) (aA rfl) (aI hS rfl) rfl rfl rfl aIi)),
      fun S hS => aH rfl (aS rfl (gR (aA rfl) (aI hS rfl))),
      fun S hS => aH rfl (aS rfl (cO (aA rfl) (aI hS rfl) pM (es := [.mp false (x18.won.map fun p : aB × Int => ((fun a : aB => Value.agg ((aK a).map bJ).toArray) p.1, aO p.2))]) rfl)),
      fun S hS => aH rfl (aS rfl (bT (aA rfl) (aI hS rfl) tH)),
      fun S hS => aH rfl (aS rfl (bH (aA rfl) (aI hS rfl) (i := 5) rfl iY (es := (aK x14)) rfl rfl)),
      fun S hS => aH rfl (aS rfl (pH (enc := aO) (agg := false) (l := x18.won) (z := 0) (a := x14) (aA rfl) rS Try.underlying73 Try.zeroValue3 (fun _ _ => .d (.lit _ rfl)) (aI hS rfl) rfl rfl (aI hS rfl) (kB (enc := aK) x14 rfl))),
      fun S hS => aH rfl (aS rfl (aD (v := .tup [.d (.lit (.int .i64 ((cK x14 0 x18.won)))), .d (.lit (.bool ((cR x14 x18.won))))]) (aA rfl) (aI hS rfl) rfl)),
      fun S hS => aH rfl (aS rfl (bM (aA rfl) (aI hS rfl) rfl)),
      fun S hS => aH rfl (aS rfl (bM (aA rfl) (aI hS rfl) rfl)),
      fun S hS => aH rfl (aS rfl (aJ (v := .d (.lit (.int .i64 ((cK x14 0 x18.won))))) (aA rfl) (aI hS rfl) rfl)), trivial⟩⟩
    · exact dC (aT rfl (bC ⟨rfl, rfl, trivial⟩))
   ·refine tr1 rfl (aJ (v := .d (.lit (.bool ((cR x14 x18.won))))) (aA rfl) rfl rfl) ?_
    refine aF ?_
    refine cQ (aJm (enc := aU) (i := 2) rfl h19) ?_
    refine aG ?_
    refine aC ?_
    refine tr1 rfl (aD (v := .d (.lit (.bool ((cR x14 x18.won))))) (aA rfl) rfl rfl) ?_
    refine tr1 rfl (gE (aA rfl) rfl) ?_
    refine tr1 rfl (aD (v := .d (.lit (.bool ((!(cR x14 x18.won)))))) (aA rfl) rfl rfl) ?_
    obtain ⟨b20, h21, h⟩ := bind_some h
    refine cG 7 [8, 10] 44 b20 ?_ ?_
    ·refine bP (!(cR x14 x18.won)) (fun c26 => ?_) (fun c26 => ?_)
     ·have h21 := bB c26 h21
      refine aM rfl rfl (aA rfl) rfl c26 (aW (aA rfl) rfl vE) ?_
      refine aM rfl rfl (aA rfl) rfl c26 (aY (aA rfl) rfl (i := 6) rfl rfl bO) ?_
      refine aM rfl rfl (aA rfl) rfl c26 (aW (aA rfl) rfl yU) ?_
      refine aM rfl rfl (aA rfl) rfl c26 (aY (aA rfl) rfl (i := 6) rfl rfl bO) ?_
      refine aM rfl rfl (aA rfl) rfl c26 (aMj (aA rfl) rfl rfl) ?_
      refine aM rfl rfl (aA rfl) rfl c26 (bK (aA rfl) rfl rfl rfl) ?_
      refine tr1 rfl (bZ (v := .d (.lit (.bool ((decide (0 ≤ (min x15.One x15.Two))))))) (aA rfl) rfl c26 rfl rfl) ?_
      have h21 := Option.some.inj h21
      subst h21
      refine aF (bF rfl ⟨rfl, rfl, trivial⟩ rfl)
     ·have h21 := aZ c26 h21
      refine aP rfl rfl (aA rfl) rfl (aA rfl) rfl c26 ?_
      refine aP rfl rfl (aA rfl) rfl (aA rfl) rfl c26 ?_
      refine aP rfl rfl (aA rfl) rfl (aA rfl) rfl c26 ?_
      refine aP rfl rfl (aA rfl) rfl (aA rfl) rfl c26 ?_
      refine aP rfl rfl (aA rfl) rfl (aA rfl) rfl c26 ?_
      refine aP rfl rfl (aA rfl) rfl (aA rfl) rfl c26 ?_
      refine tr1 rfl (bY (v := .d (.lit (.bool false))) (aA rfl) rfl c26 rfl rfl) ?_
      have h21 := Option.some.inj h21
      subst h21
      refine aF (bF rfl ⟨rfl, rfl, trivial⟩ rfl)
    ·refine aF ?_
     refine bU rfl (fun c22 => ?_) (fun c22 => ?_)
     ·have h := bB c22 h
      refine aC ?_
      refine tr1 rfl (aY (aA rfl) rfl (i := 3) rfl rfl aAm) ?_
      refine tr1 rfl (bH (aA rfl) rfl (i := 6) rfl sY (es := (aX x15)) rfl rfl) ?_
      refine tr1 rfl (fM (aA rfl) iH rfl rfl (rows := ([x15]).map aX) rfl (dD (f := aX) fun _ => rfl) rfl (by decide)) ?_
      obtain ⟨x23, h24, h⟩ := bind_some h
      refine bV rfl (fK (i := 4) (aA rfl) iH rfl rfl rfl (fun _ => rfl) h24 rfl) ?_
      rintro _ ⟨v25, rfl⟩
      refine tr1 rfl (cE (i := 3) rfl rfl rfl rfl rfl Try.sizeOf48 rfl (aA rfl) (Nat.le_of_ble_eq_true rfl) (ds' := [.lit v25]) rfl) ?_
      refine fD ?_
      have h := Option.some.inj h
      subst h
      exact ⟨(x23, v25), rfl, bE [0, 1, 2, 3, 4] rfl rfl aDs⟩
     ·have h := aZ c22 h
      refine eA ?_
      have h := Option.some.inj h
      subst h
      exact ⟨(e11, w12), rfl, bE [0, 1, 2, 3, 4] rfl rfl aDs⟩
  ·rintro ⟨e11, w12⟩ h27
   subst h27
   refine aG ?_
   refine aC ?_
   refine tr1 rfl (aY (aA rfl) rfl (i := 3) rfl rfl aAm) ?_
   refine tr1 rfl (aJ (v := .d (.lit w12)) (aA rfl) rfl rfl) ?_
   refine tr1 rfl (aJ (v := .d (.lit (.int .i64 0))) (aA rfl) rfl rfl) ?_
   refine aF ?_
   exact bR ⟨rfl, _, [], [.box b1 0 (aQ t_0), .box b3 0 [.lit w4], nX aU r2.1 w4, .box b6 0 [.lit w12], .arr w12 57 4 (e11.map aX)], _, .two (.tmp 4 (v := .d (.lit w12)) rfl) (.tmp 5 (v := .d (.lit (.int .i64 0))) rfl), .refl _, rN (.cons (.d (lR 4 rfl (dD (f := aX) fun _ => rfl))) (.cons (.same _) .nil)), (e11, 0), h, rfl, rfl⟩

theorem wJ (t_0 : aN) (l_1 : List aE) {r : (List bD) × Int} (h : eZ t_0 l_1 = some r) : Fn Try.prog 33 [.agg (aQ t_0), .d (.sl 5 (l_1.map aL))] (.tup [.d (.sl 4 (r.1.map aX)), .d (.lit (.int .i64 r.2))]) := by
 unfold eZ at h
 refine Fn.of_tr Try.func33 rfl (rs := [.tmp 4, .tmp 5]) Try.results33 Try.ntmps33 (Nat.le_of_ble_eq_true rfl) ?_
 refine aG ?_
 refine aC ?_
 refine bV rfl (eW (v := .agg (aQ t_0)) (aA rfl) rfl rfl rfl) ?_
 rintro _ ⟨b1, rfl⟩
 refine tr1 rfl (nE 4 (aA rfl)) ?_
 refine tr1 rfl (aJ (v := .d (.lit (.int .i64 0))) (aA rfl) rfl rfl) ?_
 refine aF ?_
 refine aG ?_
 refine aG ?_
 refine aC ?_
 refine tr1 rfl (bH (aA rfl) rfl (i := 0) rfl dA (es := (aQ t_0)) rfl rfl) ?_
 refine tr1 rfl (aD (v := .d (.sl 5 (l_1.map aL))) (aA rfl) rfl rfl) ?_
 obtain ⟨r2, h3, h⟩ := bind_some h
 refine tr1 rfl (cN (aA rfl) (.func _ _ Try.call29) rfl rfl (BVs.refl _ _) (lN _ _ h3) rfl) ?_
 refine tr1 rfl (aJ (v := .d (.lit (.int .i64 r2))) (aA rfl) rfl rfl) ?_
 refine aF ?_
 refine aG ?_
 refine aC ?_
 refine tr1 rfl (aD (v := .d (.lit (.int .i64 r2))) (aA rfl) rfl rfl) ?_
 refine tr1 rfl (bK (aA rfl) rfl rfl rfl) ?_
 refine aF ?_
 refine bU rfl (fun c4 => ?_) (fun c4 => ?_)
 ·have h := bB c4 h
  refine aG ?_
  refine aC ?_
  refine tr1 rfl (aD (v := .d (.lit (.int .i64 r2))) (aA rfl) rfl rfl) ?_
  refine tr1 rfl (nE 4 (aA rfl)) ?_
  refine tr1 rfl (aJ (v := .d (.lit (.int .i64 r2))) (aA rfl) rfl rfl) ?_
  refine aF ?_
  have h := Option.some.inj h
  subst h
  refine cQ (cP (cS (l := [4, 5]) ⟨rfl, rfl, trivial⟩)) ?_
  exact bR ⟨rfl, _, .two _ _, rfl, rfl⟩
 ·have h := aZ c4 h
  refine bS ?_
  refine aG ?_
  refine aC ?_
  refine tr1 rfl (bH (aA rfl) rfl (i := 0) rfl dA (es := (aQ t_0)) rfl rfl) ?_
  refine tr1 rfl (aD (v := .d (.sl 5 (l_1.map aL))) (aA rfl) rfl rfl) ?_
  obtain ⟨r5, h6, h⟩ := bind_some h
  refine tr1 rfl (eR (aA rfl) (.func _ _ Try.call55) rfl rfl (mE _ _ h6)) ?_
  refine tr1 rfl (aD (v := .tup [.agg (bI r5.1), .d (.lit (.bool r5.2))]) (aA rfl) rfl rfl) ?_
  refine tr1 rfl (bM (aA rfl) rfl rfl) ?_
  refine tr1 rfl (bM (aA rfl) rfl rfl) ?_
  refine bV rfl (dI (zs := [.sl 1 ((([] : List Int)).map aO), .sl 1 ((([] : List (List Int))).map gV)]) (aA rfl) Try.zeroValue89 rfl rfl) ?_
  rintro _ ⟨b7, rfl⟩
  refine tr1 rfl (cE (i := 1) rfl rfl rfl rfl rfl Try.sizeOf89 rfl (aA rfl) (Nat.le_of_ble_eq_true rfl) (ds' := (bI r5.1)) rfl) ?_
  refine tr1 rfl (aJ (v := .d (.lit (.bool r5.2))) (aA rfl) rfl rfl) ?_
  refine aF ?_
  refine aG ?_
  refine aC ?_
  refine tr1 rfl (bH (aA rfl) rfl (i := 0) rfl dA (es := (aQ t_0)) rfl rfl) ?_
  refine tr1 rfl (bH (aA rfl) rfl (i := 1) rfl oZ (es := (bI r5.1)) rfl rfl) ?_
  obtain ⟨r8, h9, h⟩ := bind_some h
  refine tr1 rfl (eR (aA rfl) (.func _ _ Try.call57) rfl rfl (rP _ _ h9)) ?_
  refine tr1 rfl (aJ (v := .d (.sl 4 (r8.map aX))) (aA rfl) rfl rfl) ?_
  refine aF ?_
  refine aG ?_
  refine aC ?_
  refine tr1 rfl (jG 57 4 (.inl rfl) (aA rfl)) ?_
  refine aF ?_
  refine aG ?_
  refine aG ?_
  refine aC ?_
  refine tr1 rfl (aJ (v := .d (.lit (.int .i64 0))) (aA rfl) rfl rfl) ?_
  refine aF ?_
  refine cF ?_
  refine dH [7, 9] (fun (s11 : Int × (List bD) × Value) => [(10, .d (.lit s11.2.2)), (11, .d (.lit (.int .i64 s11.1)))]) (fun (s11 : Int × (List bD) × Value) => [.box b7 0 (bI r5.1), .arr s11.2.2 57 4 (s11.2.1.map aX)]) (fun (k : Nat) (s11 : Int × (List bD) × Value) => eD r8 r5.1 k s11.1 s11.2.1) (fun _ => rfl) (0, ([] : List bD), (.slice none 0 0)) h (bE [1, 2] rfl rfl (aT rfl (aT rfl (bC ⟨rfl, rfl, trivial⟩)))) ?_
  rintro k13 ⟨i_0_11, out_0_11, w12⟩ h
  simp only [eD] at h
  refine aG ?_
  refine aG ?_
  refine aC ?_
  refine tr1 rfl (aD (v := .d (.lit (.int .i64 i_0_11))) (aA rfl) rfl rfl) ?_
  refine tr1 rfl (aD (v := .d (.sl 4 (r8.map aX))) (aA rfl) rfl rfl) ?_
  refine tr1 rfl (dZ (aA rfl) rfl iH.of) ?_
  refine tr1 rfl (bK (aA rfl) rfl rfl rfl) ?_
  refine aF ?_
  refine bU rfl (fun c14 => ?_) (fun c14 => ?_)
  ·have h := bB c14 h
   refine bS ?_
   refine aG ?_
   refine cF ?_
   refine aG ?_
   obtain ⟨x15, h16, h⟩ := bind_some h
   obtain ⟨b17, h18, h⟩ := bind_some h
   obtain ⟨b22, h23, h⟩ := bind_some h
   refine dQ mix 33 [7, 9, 10, 11] [(65, .d (.lit (.bool b22)))] ?_ ?_
   ·refine bP (decide (0 ≤ x15.One)) (fun c19 => ?_) (fun c19 => ?_)
    ·have h18 := bB c19 h18
     obtain ⟨x20, h21, h18⟩ := bind_some h18
     have h18 := Option.some.inj h18
     subst h18
     refine bP (decide (0 ≤ x20.Two)) (fun c24 => ?_) (fun c24 => ?_)
     ·have h23 := bB c24 h23
      obtain ⟨x25, h26, h23⟩ := bind_some h23
      obtain ⟨x27, h28, h23⟩ := bind_some h23
      obtain ⟨x29, h30, h23⟩ := bind_some h23
      obtain ⟨x31, h32, h23⟩ := bind_some h23
      have h23 := Option.some.inj h23
      subst h23
      refine ⟨[(33, 0, .d (.sl 4 (r8.map aX))), (34, 1, .d (.lit (.int .i64 i_0_11))), (35, 2, .cp [.lit (.int .i64 x15.Round), .lit (.int .i64 x15.Place), .lit (.int .i64 x15.One), .lit (.int .i64 x15.Two)]), (36, 3, .cp [.lit (.int .i64 x15.One)]), (37, 4, .d (.lit (.int .i64 x15.One))), (38, 5, .d (.lit (.bool ((decide (0 ≤ x15.One)))))), (39, 6, .d (.lit (.bool ((decide (0 ≤ x15.One)))))), (40, 7, .d (.sl 4 (r8.map aX))), (41, 8, .d (.lit (.int .i64 i_0_11))), (42, 9, .cp [.lit (.int .i64 x20.Round), .lit (.int .i64 x20.Place), .lit (.int .i64 x20.One), .lit (.int .i64 x20.Two)]), (43, 10, .cp [.lit (.int .i64 x20.Two)]), (44, 11, .d (.lit (.int .i64 x20.Two))), (45, 12, .d (.lit (.bool ((decide (0 ≤ x20.Two)))))), (46, 13, .d (.lit (.bool ((decide (0 ≤ x20.Two)))))), (47, 14, .d (.lit (.bool (decide (0 ≤ x20.Two))))), (48, 15, .bp b7 0 1), (49, 16, .d (.sl 1 (r5.1.Must.map gV))), (50, 17, .d (.sl 4 (r8.map aX))), (51, 18, .d (.lit (.int .i64 i_0_11))), (52, 19, .cp [.lit (.int .i64 x25.Round), .lit (.int .i64 x25.Place), .lit (.int .i64 x25.One), .lit (.int .i64 x25.Two)]), (53, 20, .cp [.lit (.int .i64 x25.Round)]), (54, 21, .d (.lit (.int .i64 x25.Round))), (55, 22, .cp [.sl 1 (x27.map aO)]), (56, 23, .d (.sl 1 (x27.map aO))), (57, 24, .d (.sl 4 (r8.map aX))), (58, 25, .d (.lit (.int .i64 i_0_11))), (59, 26, .cp [.lit (.int .i64 x29.Round), .lit (.int .i64 x29.Place), .lit (.int .i64 x29.One), .lit (.int .i64 x29.Two)]), (60, 27, .cp [.lit (.int .i64 x29.Place)]), (61, 28, .d (.lit (.int .i64 x29.Place))), (62, 29, .cp [.lit (.int .i64 x31)]), (63, 30, .d (.lit (.int .i64 x31))), (64, 31, .d (.lit (.bool ((decide (x31 = (-2))))))), (65, 32, .d (.lit (.bool ((decide (x31 = (-2)))))))], ?_, ?_⟩
      · exact ⟨by kernel_rfl, by kernel_rfl, by kernel_rfl, by kernel_rfl, by kernel_rfl, [([], []), ([], []), ([0, 1], []), ([2], []), ([3], []), ([4], []), ([5], []), ([6], []), ([6], []), ([6, 7, 8], []), ([6, 9], []), ([6, 10], []), ([6, 11], []), ([6, 12], []), ([13], []), ([14], []), ([14, 15], []), ([14], []), ([14], []), ([14, 17, 18], []), ([14, 19], []), ([14, 20], []), ([14, 16, 21], []), ([14, 22], []), ([14], []), ([14], []), ([14, 24, 25], []), ([14, 26], []), ([14, 27], []), ([14, 23, 28], []), ([14, 29], []), ([14, 30], []), ([14, 31], [])], by kernel_rfl, ⟨fun S hS => aH rfl (aS rfl (aD (v := .d (.sl 4 (r8.map aX))) (aA rfl) (aI hS rfl) rfl)),
      fun S hS => aH rfl (aS rfl (aD (v := .d (.lit (.int .i64 i_0_11))) (aA rfl) (aI hS rfl) rfl)),
      fun S hS => aH rfl (aS rfl (bQ (aA rfl) (aI hS rfl) (aI hS rfl) iH.of (cA aX h16))),
      fun S hS => aH rfl (aS rfl (cO (aA rfl) (aI hS rfl) vE (es := [.lit (.int .i64 x15.One)]) rfl)),
      fun S hS => aH rfl (aS rfl (bT (aA rfl) (aI hS rfl) bO)),
      fun S hS => aH rfl (aS rfl (bK (aA rfl) (aI hS rfl) rfl rfl)),
      fun S hS => aH rfl (aS rfl (aD (v := .d (.lit (.bool ((decide (0 ≤ x15.One)))))) (aA rfl) (aI hS rfl) rfl)),
      fun S hS => aH rfl (bL rfl rfl (aA rfl) (aV hS rfl) c19 (aD (v := .d (.sl 4 (r8.map aX))) (aA rfl) (aI hS rfl) rfl)),
      fun S hS => aH rfl (bL rfl rfl (aA rfl) (aV hS rfl) c19 (aD (v := .d (.lit (.int .i64 i_0_11))) (aA rfl) (aI hS rfl) rfl)),
      fun S hS => aH rfl (bL rfl rfl (aA rfl) (aV hS rfl) c19 (bQ (aA rfl) (aI hS rfl) (aI hS rfl) iH.of (cA aX h21))),
      fun S hS => aH rfl (bL rfl rfl (aA rfl) (aV hS rfl) c19 (cO (aA rfl) (aI hS rfl) yU (es := [.lit (.int .i64 x20.Two)]) rfl)),
      fun S hS => aH rfl (bL rfl rfl (aA rfl) (aV hS rfl) c19 (bT (aA rfl) (aI hS rfl) bO)),
      fun S hS => aH rfl (bL rfl rfl (aA rfl) (aV hS rfl) c19 (bK (aA rfl) (aI hS rfl) rfl rfl)),
      fun S hS => aH rfl (aS rfl (bZ (v := .d (.lit (.bool ((decide (0 ≤ x20.Two)))))) (aA rfl) (aI hS rfl) c19 (aI hS rfl) rfl)),
      fun S hS => aH rfl (aS rfl (aD (v := .d (.lit (.bool (decide (0 ≤ x20.Two))))) (aA rfl) (aI hS rfl) rfl)),
      fun S hS => aH rfl (bL rfl rfl (aA rfl) (aV hS rfl) c24 (aW (aA rfl) (aI hS rfl) nD)),
      fun S hS => aH rfl (bL rfl rfl (aA rfl) (aV hS rfl) c24 (aY (aA rfl) (aI hS rfl) (i := 0) rfl rfl rV)),
      fun S hS => aH rfl (bL rfl rfl (aA rfl) (aV hS rfl) c24 (aD (v := .d (.sl 4 (r8.map aX))) (aA rfl) (aI hS rfl) rfl)),
      fun S hS => aH rfl (bL rfl rfl (aA rfl) (aV hS rfl) c24 (aD (v := .d (.lit (.int .i64 i_0_11))) (aA rfl) (aI hS rfl) rfl)),
      fun S hS => aH rfl (bL rfl rfl (aA rfl) (aV hS rfl) c24 (bQ (aA rfl) (aI hS rfl) (aI hS rfl) iH.of (cA aX h26))),
      fun S hS => aH rfl (bL rfl rfl (aA rfl) (aV hS rfl) c24 (cO (aA rfl) (aI hS rfl) aJo (es := [.lit (.int .i64 x25.Round)]) rfl)),
      fun S hS => aH rfl (bL rfl rfl (aA rfl) (aV hS rfl) c24 (bT (aA rfl) (aI hS rfl) bO)),
      fun S hS => aH rfl (bL rfl rfl (aA rfl) (aV hS rfl) c24 (bQ (aA rfl) (aI hS rfl) (aI hS rfl) sP.of (cA gV h28))),
      fun S hS => aH rfl (bL rfl rfl (aA rfl) (aV hS rfl) c24 (bT (aA rfl) (aI hS rfl) cW)),
      fun S hS => aH rfl (bL rfl rfl (aA rfl) (aV hS rfl) c24 (aD (v := .d (.sl 4 (r8.map aX))) (aA rfl) (aI hS rfl) rfl)),
      fun S hS => aH rfl (bL rfl rfl (aA rfl) (aV hS rfl) c24 (aD (v := .d (.lit (.int .i64 i_0_11))) (aA rfl) (aI hS rfl) rfl)),
      fun S hS => aH rfl (bL rfl rfl (aA rfl) (aV hS rfl) c24 (bQ (aA rfl) (aI hS rfl) (aI hS rfl) iH.of (cA aX h30))),
      fun S hS => aH rfl (bL rfl rfl (aA rfl) (aV hS rfl) c24 (cO (aA rfl) (aI hS rfl) aJp (es := [.lit (.int .i64 x29.Place)]) rfl)),
      fun S hS => aH rfl (bL rfl rfl (aA rfl) (aV hS rfl) c24 (bT (aA rfl) (aI hS rfl) bO)),
      fun S hS => aH rfl (bL rfl rfl (aA rfl) (aV hS rfl) c24 (bQ (aA rfl) (aI hS rfl) (aI hS rfl) cC.of (cA aO h32))),
      fun S hS => aH rfl (bL rfl rfl (aA rfl) (aV hS rfl) c24 (bT (aA rfl) (aI hS rfl) bO)),
      fun S hS => aH rfl (bL rfl rfl (aA rfl) (aV hS rfl) c24 (bK (aA rfl) (aI hS rfl) rfl rfl)),
      fun S hS => aH rfl (aS rfl (bZ (v := .d (.lit (.bool ((decide (x31 = (-2))))))) (aA rfl) (aI hS rfl) c24 (aI hS rfl) rfl)), trivial⟩⟩
      · exact dC (aT rfl (bC ⟨rfl, rfl, rfl, rfl, trivial⟩))
     ·have h23 := aZ c24 h23
      have h23 := Option.some.inj h23
      subst h23
      refine ⟨[(33, 0, .d (.sl 4 (r8.map aX))), (34, 1, .d (.lit (.int .i64 i_0_11))), (35, 2, .cp [.lit (.int .i64 x15.Round), .lit (.int .i64 x15.Place), .lit (.int .i64 x15.One), .lit (.int .i64 x15.Two)]), (36, 3, .cp [.lit (.int .i64 x15.One)]), (37, 4, .d (.lit (.int .i64 x15.One))), (38, 5, .d (.lit (.bool ((decide (0 ≤ x15.One)))))), (39, 6, .d (.lit (.bool ((decide (0 ≤ x15.One)))))), (40, 7, .d (.sl 4 (r8.map aX))), (41, 8, .d (.lit (.int .i64 i_0_11))), (42, 9, .cp [.lit (.int .i64 x20.Round), .lit (.int .i64 x20.Place), .lit (.int .i64 x20.One), .lit (.int .i64 x20.Two)]), (43, 10, .cp [.lit (.int .i64 x20.Two)]), (44, 11, .d (.lit (.int .i64 x20.Two))), (45, 12, .d (.lit (.bool ((decide (0 ≤ x20.Two)))))), (46, 13, .d (.lit (.bool ((decide (0 ≤ x20.Two)))))), (47, 14, .d (.lit (.bool (decide (0 ≤ x20.Two))))), (48, 15, .tup []), (49, 16, .tup []), (50, 17, .tup []), (51, 18, .tup []), (52, 19, .tup []), (53, 20, .tup []), (54, 21, .tup []), (55, 22, .tup []), (56, 23, .tup []), (57, 24, .tup []), (58, 25, .tup []), (59, 26, .tup []), (60, 27, .tup []), (61, 28, .tup []), (62, 29, .tup []), (63, 30, .tup []), (64, 31, .tup []), (65, 32, .d (.lit (.bool false)))], ?_, ?_⟩
      · exact ⟨by kernel_rfl, by kernel_rfl, by kernel_rfl, by kernel_rfl, by kernel_rfl, [([], []), ([], []), ([0, 1], []), ([2], []), ([3], []), ([4], []), ([5], []), ([6], []), ([6], []), ([6, 7, 8], []), ([6, 9], []), ([6, 10], []), ([6, 11], []), ([6, 12], []), ([13], []), ([14], []), ([14, 15], []), ([14], []), ([14], []), ([14, 17, 18], []), ([14, 19], []), ([14, 20], []), ([14, 16, 21], []), ([14, 22], []), ([14], []), ([14], []), ([14, 24, 25], []), ([14, 26], []), ([14, 27], []), ([14, 23, 28], []), ([14, 29], []), ([14, 30], []), ([14, 31], [])], by kernel_rfl, ⟨fun S hS => aH rfl (aS rfl (aD (v := .d (.sl 4 (r8.map aX))) (aA rfl) (aI hS rfl) rfl)),
      fun S hS => aH rfl (aS rfl (aD (v := .d (.lit (.int .i64 i_0_11))) (aA rfl) (aI hS rfl) rfl)),
      fun S hS => aH rfl (aS rfl (bQ (aA rfl) (aI hS rfl) (aI hS rfl) iH.of (cA aX h16))),
      fun S hS => aH rfl (aS rfl (cO (aA rfl) (aI hS rfl) vE (es := [.lit (.int .i64 x15.One)]) rfl)),
      fun S hS => aH rfl (aS rfl (bT (aA rfl) (aI hS rfl) bO)),
      fun S hS => aH rfl (aS rfl (bK (aA rfl) (aI hS rfl) rfl rfl)),
      fun S hS => aH rfl (aS rfl (aD (v := .d (.lit (.bool ((decide (0 ≤ x15.One)))))) (aA rfl) (aI hS rfl) rfl)),
      fun S hS => aH rfl (bL rfl rfl (aA rfl) (aV hS rfl) c19 (aD (v := .d (.sl 4 (r8.map aX))) (aA rfl) (aI hS rfl) rfl)),
      fun S hS => aH rfl (bL rfl rfl (aA rfl) (aV hS rfl) c19 (aD (v := .d (.lit (.int .i64 i_0_11))) (aA rfl) (aI hS rfl) rfl)),
      fun S hS => aH rfl (bL rfl rfl (aA rfl) (aV hS rfl) c19 (bQ (aA rfl) (aI hS rfl) (aI hS rfl) iH.of (cA aX h21))),
      fun S hS => aH rfl (bL rfl rfl (aA rfl) (aV hS rfl) c19 (cO (aA rfl) (aI hS rfl) yU (es := [.lit (.int .i64 x20.Two)]) rfl)),
      fun S hS => aH rfl (bL rfl rfl (aA rfl) (aV hS rfl) c19 (bT (aA rfl) (aI hS rfl) bO)),
      fun S hS => aH rfl (bL rfl rfl (aA rfl) (aV hS rfl) c19 (bK (aA rfl) (aI hS rfl) rfl rfl)),
      fun S hS => aH rfl (aS rfl (bZ (v := .d (.lit (.bool ((decide (0 ≤ x20.Two)))))) (aA rfl) (aI hS rfl) c19 (aI hS rfl) rfl)),
      fun S hS => aH rfl (aS rfl (aD (v := .d (.lit (.bool (decide (0 ≤ x20.Two))))) (aA rfl) (aI hS rfl) rfl)),
      fun S hS => aH rfl (bG rfl rfl (aA rfl) rfl (aA rfl) (aV hS rfl) c24),
      fun S hS => aH rfl (bG rfl rfl (aA rfl) rfl (aA rfl) (aV hS rfl) c24),
      fun S hS => aH rfl (bG rfl rfl (aA rfl) rfl (aA rfl) (aV hS rfl) c24),
      fun S hS => aH rfl (bG rfl rfl (aA rfl) rfl (aA rfl) (aV hS rfl) c24),
      fun S hS => aH rfl (bG rfl rfl (aA rfl) rfl (aA rfl) (aV hS rfl) c24),
      fun S hS => aH rfl (bG rfl rfl (aA rfl) rfl (aA rfl) (aV hS rfl) c24),
      fun S hS => aH rfl (bG rfl rfl (aA rfl) rfl (aA rfl) (aV hS rfl) c24),
      fun S hS => aH rfl (bG rfl rfl (aA rfl) rfl (aA rfl) (aV hS rfl) c24),
      fun S hS => aH rfl (bG rfl rfl (aA rfl) rfl (aA rfl) (aV hS rfl) c24),
      fun S hS => aH rfl (bG rfl rfl (aA rfl) rfl (aA rfl) (aV hS rfl) c24),
      fun S hS => aH rfl (bG rfl rfl (aA rfl) rfl (aA rfl) (aV hS rfl) c24),
      fun S hS => aH rfl (bG rfl rfl (aA rfl) rfl (aA rfl) (aV hS rfl) c24),
      fun S hS => aH rfl (bG rfl rfl (aA rfl) rfl (aA rfl) (aV hS rfl) c24),
      fun S hS => aH rfl (bG rfl rfl (aA rfl) rfl (aA rfl) (aV hS rfl) c24),
      fun S hS => aH rfl (bG rfl rfl (aA rfl) rfl (aA rfl) (aV hS rfl) c24),
      fun S hS => aH rfl (bG rfl rfl (aA rfl) rfl (aA rfl) (aV hS rfl) c24),
      fun S hS => aH rfl (bG rfl rfl (aA rfl) rfl (aA rfl) (aV hS rfl) c24),
      fun S hS => aH rfl (aS rfl (bY (v := .d (.lit (.bool false))) (aA rfl) (aI hS rfl) c24 rfl rfl)), trivial⟩⟩
      · exact dC (aT rfl (bC ⟨rfl, rfl, rfl, rfl, trivial⟩))
    ·have h18 := aZ c19 h18
     have h18 := Option.some.inj h18
     subst h18
     have c24 : false = false := rfl
     have h23 := aZ c24 h23
     have h23 := Option.some.inj h23
     subst h23
     refine ⟨[(33, 0, .d (.sl 4 (r8.map aX))), (34, 1, .d (.lit (.int .i64 i_0_11))), (35, 2, .cp [.lit (.int .i64 x15.Round), .lit (.int .i64 x15.Place), .lit (.int .i64 x15.One), .lit (.int .i64 x15.Two)]), (36, 3, .cp [.lit (.int .i64 x15.One)]), (37, 4, .d (.lit (.int .i64 x15.One))), (38, 5, .d (.lit (.bool ((decide (0 ≤ x15.One)))))), (39, 6, .d (.lit (.bool ((decide (0 ≤ x15.One)))))), (40, 7, .tup []), (41, 8, .tup []), (42, 9, .tup []), (43, 10, .tup []), (44, 11, .tup []), (45, 12, .tup []), (46, 13, .d (.lit (.bool false))), (47, 14, .d (.lit (.bool (false)))), (48, 15, .tup []), (49, 16, .tup []), (50, 17, .tup []), (51, 18, .tup []), (52, 19, .tup []), (53, 20, .tup []), (54, 21, .tup []), (55, 22, .tup []), (56, 23, .tup []), (57, 24, .tup []), (58, 25, .tup []), (59, 26, .tup []), (60, 27, .tup []), (61, 28, .tup []), (62, 29, .tup []), (63, 30, .tup []), (64, 31, .tup []), (65, 32, .d (.lit (.bool false)))], ?_, ?_⟩
     · exact ⟨by kernel_rfl, by kernel_rfl, by kernel_rfl, by kernel_rfl, by kernel_rfl, [([], []), ([], []), ([0, 1], []), ([2], []), ([3], []), ([4], []), ([5], []), ([6], []), ([6], []), ([6, 7, 8], []), ([6, 9], []), ([6, 10], []), ([6, 11], []), ([6, 12], []), ([13], []), ([14], []), ([14, 15], []), ([14], []), ([14], []), ([14, 17, 18], []), ([14, 19], []), ([14, 20], []), ([14, 16, 21], []), ([14, 22], []), ([14], []), ([14], []), ([14, 24, 25], []), ([14, 26], []), ([14, 27], []), ([14, 23, 28], []), ([14, 29], []), ([14, 30], []), ([14, 31], [])], by kernel_rfl, ⟨fun S hS => aH rfl (aS rfl (aD (v := .d (.sl 4 (r8.map aX))) (aA rfl) (aI hS rfl) rfl)),
      fun S hS => aH rfl (aS rfl (aD (v := .d (.lit (.int .i64 i_0_11))) (aA rfl) (aI hS rfl) rfl)),
      fun S hS => aH rfl (aS rfl (bQ (aA rfl) (aI hS rfl) (aI hS rfl) iH.of (cA aX h16))),
      fun S hS => aH rfl (aS rfl (cO (aA rfl) (aI hS rfl) vE (es := [.lit (.int .i64 x15.One)]) rfl)),
      fun S hS => aH rfl (aS rfl (bT (aA rfl) (aI hS rfl) bO)),
      fun S hS => aH rfl (aS rfl (bK (aA rfl) (aI hS rfl) rfl rfl)),
      fun S hS => aH rfl (aS rfl (aD (v := .d (.lit (.bool ((decide (0 ≤ x15.One)))))) (aA rfl) (aI hS rfl) rfl)),
      fun S hS => aH rfl (bG rfl rfl (aA rfl) rfl (aA rfl) (aV hS rfl) c19),
      fun S hS => aH rfl (bG rfl rfl (aA rfl) rfl (aA rfl) (aV hS rfl) c19),
      fun S hS => aH rfl (bG rfl rfl (aA rfl) rfl (aA rfl) (aV hS rfl) c19),
      fun S hS => aH rfl (bG rfl rfl (aA rfl) rfl (aA rfl) (aV hS rfl) c19),
      fun S hS => aH rfl (bG rfl rfl (aA rfl) rfl (aA rfl) (aV hS rfl) c19),
      fun S hS => aH rfl (bG rfl rfl (aA rfl) rfl (aA rfl) (aV hS rfl) c19),
      fun S hS => aH rfl (aS rfl (bY (v := .d (.lit (.bool false))) (aA rfl) (aI hS rfl) c19 rfl rfl)),
      fun S hS => aH rfl (aS rfl (aD (v := .d (.lit (.bool (false)))) (aA rfl) (aI hS rfl) rfl)),
      fun S hS => aH rfl (bG rfl rfl (aA rfl) rfl (aA rfl) (aV hS rfl) c24),
      fun S hS => aH rfl (bG rfl rfl (aA rfl) rfl (aA rfl) (aV hS rfl) c24),
      fun S hS => aH rfl (bG rfl rfl (aA rfl) rfl (aA rfl) (aV hS rfl) c24),
      fun S hS => aH rfl (bG rfl rfl (aA rfl) rfl (aA rfl) (aV hS rfl) c24),
      fun S hS => aH rfl (bG rfl rfl (aA rfl) rfl (aA rfl) (aV hS rfl) c24),
      fun S hS => aH rfl (bG rfl rfl (aA rfl) rfl (aA rfl) (aV hS rfl) c24),
      fun S hS => aH rfl (bG rfl rfl (aA rfl) rfl (aA rfl) (aV hS rfl) c24),
      fun S hS => aH rfl (bG rfl rfl (aA rfl) rfl (aA rfl) (aV hS rfl) c24),
      fun S hS => aH rfl (bG rfl rfl (aA rfl) rfl (aA rfl) (aV hS rfl) c24),
      fun S hS => aH rfl (bG rfl rfl (aA rfl) rfl (aA rfl) (aV hS rfl) c24),
      fun S hS => aH rfl (bG rfl rfl (aA rfl) rfl (aA rfl) (aV hS rfl) c24),
      fun S hS => aH rfl (bG rfl rfl (aA rfl) rfl (aA rfl) (aV hS rfl) c24),
      fun S hS => aH rfl (bG rfl rfl (aA rfl) rfl (aA rfl) (aV hS rfl) c24),
      fun S hS => aH rfl (bG rfl rfl (aA rfl) rfl (aA rfl) (aV hS rfl) c24),
      fun S hS => aH rfl (bG rfl rfl (aA rfl) rfl (aA rfl) (aV hS rfl) c24),
      fun S hS => aH rfl (bG rfl rfl (aA rfl) rfl (aA rfl) (aV hS rfl) c24),
      fun S hS => aH rfl (bG rfl rfl (aA rfl) rfl (aA rfl) (aV hS rfl) c24),
      fun S hS => aH rfl (aS rfl (bY (v := .d (.lit (.bool false))) (aA rfl) (aI hS rfl) c24 rfl rfl)), trivial⟩⟩
     · exact dC (aT rfl (bC ⟨rfl, rfl, rfl, rfl, trivial⟩))
   ·refine aF ?_
    refine bU rfl (fun c33 => ?_) (fun c33 => ?_)
    ·have h := bB c33 h
     refine aC ?_
     refine tr1 rfl (aD (v := .d (.lit w12)) (aA rfl) rfl rfl) ?_
     refine tr1 rfl (aD (v := .d (.sl 4 (r8.map aX))) (aA rfl) rfl rfl) ?_
     refine tr1 rfl (aD (v := .d (.lit (.int .i64 i_0_11))) (aA rfl) rfl rfl) ?_
     obtain ⟨x34, h35, h⟩ := bind_some h
     refine tr1 rfl (bQ (aA rfl) rfl rfl iH.of (cA aX h35)) ?_
     refine tr1 rfl (gC (aA rfl) rfl sY (es := (aX x34)) rfl rfl) ?_
     refine tr1 rfl (fM (aA rfl) iH rfl rfl (rows := ([x34]).map aX) rfl (dD (f := aX) fun _ => rfl) rfl (by decide)) ?_
     obtain ⟨x36, h37, h⟩ := bind_some h
     refine bV rfl (fK (i := 1) (aA rfl) iH rfl rfl rfl (fun _ => rfl) h37 rfl) ?_
     rintro _ ⟨v38, rfl⟩
     refine tr1 rfl (aJ (v := .d (.lit v38)) (aA rfl) rfl rfl) ?_
     refine fD ?_
     refine aC ?_
     refine tr1 rfl (aD (v := .d (.lit (.int .i64 i_0_11))) (aA rfl) rfl rfl) ?_
     refine tr1 rfl (bN (aA rfl) rfl rfl rfl) ?_
     refine tr1 rfl (aJ (v := .d (.lit (.int .i64 ((w64 (i_0_11 + 1)))))) (aA rfl) rfl rfl) ?_
     refine aF ?_
     exact ⟨(w64 (i_0_11 + 1), x36, v38), h, bE [0, 1] rfl rfl (aT rfl (aT rfl (bC ⟨rfl, rfl, trivial⟩)))⟩
    ·have h := aZ c33 h
     refine eA ?_
     refine aC ?_
     refine tr1 rfl (aD (v := .d (.lit (.int .i64 i_0_11))) (aA rfl) rfl rfl) ?_
     refine tr1 rfl (bN (aA rfl) rfl rfl rfl) ?_
     refine tr1 rfl (aJ (v := .d (.lit (.int .i64 ((w64 (i_0_11 + 1)))))) (aA rfl) rfl rfl) ?_
     refine aF ?_
     exact ⟨(w64 (i_0_11 + 1), out_0_11, w12), h, bE [0, 1] rfl rfl (aT rfl (aT rfl (bC ⟨rfl, rfl, trivial⟩)))⟩
  ·have h := aZ c14 h
   refine cV ?_
   refine .inl ⟨rfl, ?_⟩
   simp only [nN] at h
   refine aG ?_
   refine aC ?_
   refine tr1 rfl (aD (v := .d (.lit w12)) (aA rfl) rfl rfl) ?_
   refine tr1 rfl (aJ (v := .d (.lit w12)) (aA rfl) rfl rfl) ?_
   refine tr1 rfl (aJ (v := .d (.lit (.int .i64 0))) (aA rfl) rfl rfl) ?_
   refine aF ?_
   have h := Option.some.inj h
   subst h
   refine cQ (cP (sT (k := 5) (v := .d (.lit (.int .i64 0))) (.same _) (sT (k := 4) (v := .d (.sl 4 (out_0_11.map aX))) (.d (lR 1 rfl (dD (f := aX) fun _ => rfl))) (xL)))) ?_
   exact bR ⟨rfl, _, .two _ _, rfl, rfl⟩

theorem pC (a_0 : List bD) (b_1 : List bD) {r : Bool} (h : gB a_0 b_1 = some r) : Fn Try.prog 22 [.d (.sl 4 (a_0.map aX)), .d (.sl 4 (b_1.map aX))] (.d (.lit (.bool r))) := by
 unfold gB at h
 refine Fn.of_tr Try.func22 rfl (rs := [.tmp 4]) Try.results22 Try.ntmps22 (Nat.le_of_ble_eq_true rfl) ?_
 refine aG ?_
 refine aC ?_
 refine tr1 rfl (aJ (v := .d (.lit (.bool false))) (aA rfl) rfl rfl) ?_
 refine aF ?_
 refine aG ?_
 refine aG ?_
 refine aC ?_
 refine tr1 rfl (aD (v := .d (.sl 4 (a_0.map aX))) (aA rfl) rfl rfl) ?_
 refine tr1 rfl (dZ (aA rfl) rfl iH.of) ?_
 refine tr1 rfl (aD (v := .d (.sl 4 (b_1.map aX))) (aA rfl) rfl rfl) ?_
 refine tr1 rfl (dZ (aA rfl) rfl iH.of) ?_
 refine tr1 rfl (bK (aA rfl) rfl rfl rfl) ?_
 refine aF ?_
 refine bU rfl (fun c1 => ?_) (fun c1 => ?_)
 ·have h := bB c1 h
  refine aG ?_
  refine aC ?_
  refine tr1 rfl (aJ (v := .d (.lit (.bool false))) (aA rfl) rfl rfl) ?_
  refine aF ?_
  have h := Option.some.inj h
  subst h
  exact bR ⟨rfl, _, .one _, rfl, rfl⟩
 ·have h := aZ c1 h
  refine bS ?_
  refine aG ?_
  refine aG ?_
  refine aC ?_
  refine tr1 rfl (aJ (v := .d (.lit (.int .i64 0))) (aA rfl) rfl rfl) ?_
  refine aF ?_
  refine cF ?_
  refine dH [0, 1] (fun (s2 : Int) => [(5, .d (.lit (.int .i64 s2)))]) (fun (s2 : Int) => []) (fun (k : Nat) (s2 : Int) => eQ a_0 b_1 k s2) (fun _ => rfl) (0) h (bE [] rfl rfl (aT rfl (bC ⟨rfl, rfl, trivial⟩))) ?_
  rintro k3 i_0_2 h
  simp only [eQ] at h
  refine aG ?_
  refine aG ?_
  refine aC ?_
  refine tr1 rfl (aD (v := .d (.lit (.int .i64 i_0_2))) (aA rfl) rfl rfl) ?_
  refine tr1 rfl (aD (v := .d (.sl 4 (a_0.map aX))) (aA rfl) rfl rfl) ?_
  refine tr1 rfl (dZ (aA rfl) rfl iH.of) ?_
  refine tr1 rfl (bK (aA rfl) rfl rfl rfl) ?_
  refine aF ?_
  refine bU rfl (fun c4 => ?_) (fun c4 => ?_)
  ·have h := bB c4 h
   refine bS ?_
   refine aG ?_
   refine cF ?_
   refine aG ?_
   obtain ⟨x5, h6, h⟩ := bind_some h
   obtain ⟨x7, h8, h⟩ := bind_some h
   refine dQ mix 8 [0, 1, 5] [(20, .agg (aX x5)), (24, .agg (aX x7))] ?_ ?_
   ·refine ⟨[(17, 0, .d (.sl 4 (a_0.map aX))), (18, 1, .d (.lit (.int .i64 i_0_2))), (19, 2, .cp [.lit (.int .i64 x5.Round), .lit (.int .i64 x5.Place), .lit (.int .i64 x5.One), .lit (.int .i64 x5.Two)]), (20, 3, .agg (aX x5)), (21, 4, .d (.sl 4 (b_1.map aX))), (22, 5, .d (.lit (.int .i64 i_0_2))), (23, 6, .cp [.lit (.int .i64 x7.Round), .lit (.int .i64 x7.Place), .lit (.int .i64 x7.One), .lit (.int .i64 x7.Two)]), (24, 7, .agg (aX x7))], ?_, ?_⟩
    · exact ⟨by kernel_rfl, by kernel_rfl, by kernel_rfl, by kernel_rfl, by kernel_rfl, [([], []), ([], []), ([0, 1], []), ([2], []), ([], []), ([], []), ([4, 5], []), ([6], [])], by kernel_rfl, ⟨fun S hS => aH rfl (aS rfl (aD (v := .d (.sl 4 (a_0.map aX))) (aA rfl) (aI hS rfl) rfl)),
      fun S hS => aH rfl (aS rfl (aD (v := .d (.lit (.int .i64 i_0_2))) (aA rfl) (aI hS rfl) rfl)),
      fun S hS => aH rfl (aS rfl (bQ (aA rfl) (aI hS rfl) (aI hS rfl) iH.of (cA aX h6))),
      fun S hS => aH rfl (aS rfl (gC (aA rfl) (aI hS rfl) sY (es := (aX x5)) rfl rfl)),
      fun S hS => aH rfl (aS rfl (aD (v := .d (.sl 4 (b_1.map aX))) (aA rfl) (aI hS rfl) rfl)),
      fun S hS => aH rfl (aS rfl (aD (v := .d (.lit (.int .i64 i_0_2))) (aA rfl) (aI hS rfl) rfl)),
      fun S hS => aH rfl (aS rfl (bQ (aA rfl) (aI hS rfl) (aI hS rfl) iH.of (cA aX h8))),
      fun S hS => aH rfl (aS rfl (gC (aA rfl) (aI hS rfl) sY (es := (aX x7)) rfl rfl)), trivial⟩⟩
    · exact dC (aT rfl (aT rfl (bC ⟨rfl, rfl, rfl, trivial⟩)))
   ·refine tr1 rfl (aAw (a := x5) (b := x7) (aA rfl) rfl rfl rfl rfl Try.eqGuardType57 aDl) ?_
    refine aF ?_
    refine bU rfl (fun c9 => ?_) (fun c9 => ?_)
    ·have h := bB c9 h
     refine aG ?_
     refine aC ?_
     refine tr1 rfl (aJ (v := .d (.lit (.bool false))) (aA rfl) rfl rfl) ?_
     refine aF ?_
     have h := Option.some.inj h
     subst h
     exact bR ⟨rfl, _, .one _, rfl, rfl⟩
    ·have h := aZ c9 h
     refine eA ?_
     refine aC ?_
     refine tr1 rfl (aD (v := .d (.lit (.int .i64 i_0_2))) (aA rfl) rfl rfl) ?_
     refine tr1 rfl (bN (aA rfl) rfl rfl rfl) ?_
     refine tr1 rfl (aJ (v := .d (.lit (.int .i64 ((w64 (i_0_2 + 1)))))) (aA rfl) rfl rfl) ?_
     refine aF ?_
     exact ⟨(w64 (i_0_2 + 1)), h, bE [] rfl rfl (aT rfl (bC ⟨rfl, rfl, trivial⟩))⟩
  ·have h := aZ c4 h
   refine cV ?_
   refine .inl ⟨rfl, ?_⟩
   simp only [lJ] at h
   refine aG ?_
   refine aC ?_
   refine tr1 rfl (aJ (v := .d (.lit (.bool true))) (aA rfl) rfl rfl) ?_
   refine aF ?_
   have h := Option.some.inj h
   subst h
   exact bR ⟨rfl, _, .one _, rfl, rfl⟩

theorem zQ (a0 : aN) (a1 : List aE) {r : Int} (h : qB a0 a1 = some r) : Fn Try.prog 16 [.agg (aQ a0), .d (.sl 5 (a1.map aL))] ((fun x : Int => .d (.lit (.int .i64 x))) r) := qY (enc := fun x : Int => .d (.lit (.int .i64 x))) (zP a0 a1 (xU a0 a1 h (fun x => x = r) rfl))

theorem zT (a0 : aN) (a1 : List aE) {r : (List bD) × Int} (h : qC a0 a1 = some r) : Fn Try.prog 32 [.agg (aQ a0), .d (.sl 5 (a1.map aL))] ((fun x : (List bD) × Int => .tup [.d (.sl 4 (x.1.map aX)), .d (.lit (.int .i64 x.2))]) r) := qY (enc := fun x : (List bD) × Int => .tup [.d (.sl 4 (x.1.map aX)), .d (.lit (.int .i64 x.2))]) (zS a0 a1 (xX a0 a1 h (fun x => x = r) rfl))

theorem sM (t_0 : aN) (l_1 : List aE) {r : Bool} (h : jK t_0 l_1 = some r) : Fn Try.prog 8 [.agg (aQ t_0), .d (.sl 5 (l_1.map aL))] (.d (.lit (.bool r))) := by
 unfold jK at h
 refine Fn.of_tr Try.func8 rfl (rs := [.tmp 4]) Try.results8 Try.ntmps8 (Nat.le_of_ble_eq_true rfl) ?_
 refine aG ?_
 refine aC ?_
 refine bV rfl (eW (v := .agg (aQ t_0)) (aA rfl) rfl rfl rfl) ?_
 rintro _ ⟨b1, rfl⟩
 refine tr1 rfl (aJ (v := .d (.lit (.bool false))) (aA rfl) rfl rfl) ?_
 refine aF ?_
 refine aG ?_
 refine aG ?_
 refine aC ?_
 refine tr1 rfl (bH (aA rfl) rfl (i := 0) rfl dA (es := (aQ t_0)) rfl rfl) ?_
 refine tr1 rfl (aD (v := .d (.sl 5 (l_1.map aL))) (aA rfl) rfl rfl) ?_
 obtain ⟨r2, h3, h⟩ := bind_some h
 refine tr1 rfl (cN (aA rfl) (.func _ _ Try.call27) rfl rfl (BVs.refl _ _) (yS _ _ h3) rfl) ?_
 refine aF ?_
 refine bU rfl (fun c4 => ?_) (fun c4 => ?_)
 ·have h := bB c4 h
  refine aG ?_
  refine aC ?_
  obtain ⟨r5, h6, h⟩ := bind_some h
  refine tr1 rfl (cN (aA rfl) (.func _ _ Try.call14) rfl rfl (BVs.refl _ _) (rO h6) rfl) ?_
  refine tr1 rfl (aJ (v := .d (.lit (.bool r5))) (aA rfl) rfl rfl) ?_
  refine aF ?_
  have h := Option.some.inj h
  subst h
  refine cQ (cP (cS (l := [4]) ⟨rfl, trivial⟩)) ?_
  exact bR ⟨rfl, _, .one _, rfl, rfl⟩
 ·have h := aZ c4 h
  refine bS ?_
  refine aG ?_
  refine aC ?_
  refine tr1 rfl (bH (aA rfl) rfl (i := 0) rfl dA (es := (aQ t_0)) rfl rfl) ?_
  obtain ⟨r7, h8, h⟩ := bind_some h
  refine tr1 rfl (eR (aA rfl) (.func _ _ Try.call28) rfl rfl (xY _ h8)) ?_
  refine tr1 rfl (aEi (aA rfl) fQ rfl rfl (rows := (([] : List aE)).map aL) rfl (dD (f := aL) fun _ => rfl) rfl (by decide)) ?_
  refine tr1 rfl (aD (v := .d (.sl 5 (l_1.map aL))) (aA rfl) rfl rfl) ?_
  obtain ⟨x9, h10, h⟩ := bind_some h
  refine tr1 rfl (aIt (.d (.weak _ _)) (aCh (nn := true) (f := aL) (xs := ([] : List aE)) (ys := l_1) (aA rfl) fQ rfl rfl (fun _ => rfl) h10 rfl)) ?_
  refine bV rfl (dI (zs := [.lit (.int .i64 0), .sl 1 ((([] : List Int)).map aO)]) (aA rfl) Try.zeroValue24 rfl rfl) ?_
  rintro _ ⟨b11, rfl⟩
  refine tr1 rfl (cE (i := 1) rfl rfl rfl rfl rfl Try.sizeOf24 rfl (aA rfl) (Nat.le_of_ble_eq_true rfl) (ds' := (aQ r7)) rfl) ?_
  refine tr1 rfl (aJ (v := .d (.sl 5 (x9.map aL))) (aA rfl) rfl rfl) ?_
  refine aF ?_
  refine aG ?_
  refine aG ?_
  obtain ⟨r12, h13, h⟩ := bind_some h
  refine dQ mix 5 [1, 2, 5, 6] [(31, .d (.lit (.int .i64 r12))), (32, .agg (aQ t_0)), (33, .d (.sl 5 (l_1.map aL)))] ?_ ?_
  ·refine ⟨[(29, 0, .agg (aQ r7)), (30, 1, .d (.sl 5 (x9.map aL))), (31, 2, .d (.lit (.int .i64 r12))), (32, 3, .agg (aQ t_0)), (33, 4, .d (.sl 5 (l_1.map aL)))], ?_, ?_⟩
   · exact ⟨by kernel_rfl, by kernel_rfl, by kernel_rfl, by kernel_rfl, by kernel_rfl, [([], []), ([], []), ([0, 1], []), ([], []), ([], [])], by kernel_rfl, ⟨fun S hS => aH rfl (aS rfl (bH (aA rfl) (aI hS rfl) (i := 1) rfl dA (es := (aQ r7)) rfl rfl)),
      fun S hS => aH rfl (aS rfl (aD (v := .d (.sl 5 (x9.map aL))) (aA rfl) (aI hS rfl) rfl)),
      fun S hS => aH rfl (aS rfl (cN (aA rfl) (.func _ _ Try.call16) (ev2 (aI hS rfl) (ev2 (aI hS rfl) evn)) rfl (BVs.refl _ _) (zQ _ _ h13) rfl)),
      fun S hS => aH rfl (aS rfl (bH (aA rfl) (aI hS rfl) (i := 0) rfl dA (es := (aQ t_0)) rfl rfl)),
      fun S hS => aH rfl (aS rfl (aD (v := .d (.sl 5 (l_1.map aL))) (aA rfl) (aI hS rfl) rfl)), trivial⟩⟩
   · exact dC (aT rfl (aT rfl (aT rfl (bC ⟨rfl, rfl, rfl, rfl, trivial⟩))))
  ·obtain ⟨r14, h15, h⟩ := bind_some h
   refine tr1 rfl (cN (aA rfl) (.func _ _ Try.call29) rfl rfl (BVs.refl _ _) (lN _ _ h15) rfl) ?_
   refine tr1 rfl (bK (aA rfl) rfl rfl rfl) ?_
   refine aF ?_
   refine bU rfl (fun c16 => ?_) (fun c16 => ?_)
   ·have h := bB c16 h
    refine aG ?_
    refine aC ?_
    refine tr1 rfl (aJ (v := .d (.lit (.bool false))) (aA rfl) rfl rfl) ?_
    refine aF ?_
    have h := Option.some.inj h
    subst h
    refine cQ (cP (cS (l := [4]) ⟨rfl, trivial⟩)) ?_
    exact bR ⟨rfl, _, .one _, rfl, rfl⟩
   ·have h := aZ c16 h
    refine bS ?_
    refine aG ?_
    refine aC ?_
    refine tr1 rfl (bH (aA rfl) rfl (i := 1) rfl dA (es := (aQ r7)) rfl rfl) ?_
    refine tr1 rfl (aD (v := .d (.sl 5 (x9.map aL))) (aA rfl) rfl rfl) ?_
    obtain ⟨r17, h18, h⟩ := bind_some h
    refine tr1 rfl (eR (aA rfl) (.func _ _ Try.call30) rfl rfl (tO _ _ h18)) ?_
    refine tr1 rfl (aD (v := .tup [.d (.sl 4 (r17.1.map aX)), .d (.lit (.int .i64 r17.2))]) (aA rfl) rfl rfl) ?_
    refine tr1 rfl (bM (aA rfl) rfl rfl) ?_
    refine tr1 rfl (bM (aA rfl) rfl rfl) ?_
    refine tr1 rfl (aJ (v := .d (.sl 4 (r17.1.map aX))) (aA rfl) rfl rfl) ?_
    refine tr1 rfl (aJ (v := .d (.lit (.int .i64 r17.2))) (aA rfl) rfl rfl) ?_
    refine aF ?_
    refine aG ?_
    refine aC ?_
    refine tr1 rfl (bH (aA rfl) rfl (i := 0) rfl dA (es := (aQ t_0)) rfl rfl) ?_
    refine tr1 rfl (aD (v := .d (.sl 5 (l_1.map aL))) (aA rfl) rfl rfl) ?_
    obtain ⟨r19, h20, h⟩ := bind_some h
    refine tr1 rfl (eR (aA rfl) (.func _ _ Try.call31) rfl rfl (wI _ _ h20)) ?_
    refine tr1 rfl (aD (v := .tup [.d (.sl 4 (r19.1.map aX)), .d (.lit (.int .i64 r19.2))]) (aA rfl) rfl rfl) ?_
    refine tr1 rfl (bM (aA rfl) rfl rfl) ?_
    refine tr1 rfl (bM (aA rfl) rfl rfl) ?_
    refine tr1 rfl (aJ (v := .d (.sl 4 (r19.1.map aX))) (aA rfl) rfl rfl) ?_
    refine tr1 rfl (aJ (v := .d (.lit (.int .i64 r19.2))) (aA rfl) rfl rfl) ?_
    refine aF ?_
    refine aG ?_
    refine aC ?_
    refine tr1 rfl (bH (aA rfl) rfl (i := 1) rfl dA (es := (aQ r7)) rfl rfl) ?_
    refine tr1 rfl (aD (v := .d (.sl 5 (x9.map aL))) (aA rfl) rfl rfl) ?_
    obtain ⟨r21, h22, h⟩ := bind_some h
    refine tr1 rfl (eR (aA rfl) (.func _ _ Try.call32) rfl rfl (zT _ _ h22)) ?_
    refine tr1 rfl (aD (v := .tup [.d (.sl 4 (r21.1.map aX)), .d (.lit (.int .i64 r21.2))]) (aA rfl) rfl rfl) ?_
    refine tr1 rfl (bM (aA rfl) rfl rfl) ?_
    refine tr1 rfl (bM (aA rfl) rfl rfl) ?_
    refine tr1 rfl (aJ (v := .d (.sl 4 (r21.1.map aX))) (aA rfl) rfl rfl) ?_
    refine tr1 rfl (aJ (v := .d (.lit (.int .i64 r21.2))) (aA rfl) rfl rfl) ?_
    refine aF ?_
    refine aG ?_
    refine aC ?_
    refine tr1 rfl (bH (aA rfl) rfl (i := 0) rfl dA (es := (aQ t_0)) rfl rfl) ?_
    refine tr1 rfl (aD (v := .d (.sl 5 (l_1.map aL))) (aA rfl) rfl rfl) ?_
    obtain ⟨r23, h24, h⟩ := bind_some h
    refine tr1 rfl (eR (aA rfl) (.func _ _ Try.call33) rfl rfl (wJ _ _ h24)) ?_
    refine tr1 rfl (aD (v := .tup [.d (.sl 4 (r23.1.map aX)), .d (.lit (.int .i64 r23.2))]) (aA rfl) rfl rfl) ?_
    refine tr1 rfl (bM (aA rfl) rfl rfl) ?_
    refine tr1 rfl (bM (aA rfl) rfl rfl) ?_
    refine tr1 rfl (aJ (v := .d (.sl 4 (r23.1.map aX))) (aA rfl) rfl rfl) ?_
    refine tr1 rfl (aJ (v := .d (.lit (.int .i64 r23.2))) (aA rfl) rfl rfl) ?_
    refine aF ?_
    refine aG ?_
    refine aC ?_
    refine tr1 rfl (bH (aA rfl) rfl (i := 1) rfl dA (es := (aQ r7)) rfl rfl) ?_
    refine tr1 rfl (aD (v := .d (.sl 5 (x9.map aL))) (aA rfl) rfl rfl) ?_
    obtain ⟨r25, h26, h⟩ := bind_some h
    refine tr1 rfl (cN (aA rfl) (.func _ _ Try.call34) rfl rfl (BVs.refl _ _) (uG _ _ h26) rfl) ?_
    refine tr1 rfl (aD (v := .tup [.d (.lit (.int .i64 r25.1)), .d (.lit (.int .i64 r25.2))]) (aA rfl) rfl rfl) ?_
    refine tr1 rfl (bM (aA rfl) rfl rfl) ?_
    refine tr1 rfl (bM (aA rfl) rfl rfl) ?_
    refine tr1 rfl (aJ (v := .d (.lit (.int .i64 r25.1))) (aA rfl) rfl rfl) ?_
    refine tr1 rfl (aJ (v := .d (.lit (.int .i64 r25.2))) (aA rfl) rfl rfl) ?_
    refine aF ?_
    refine aG ?_
    refine aC ?_
    refine tr1 rfl (bH (aA rfl) rfl (i := 0) rfl dA (es := (aQ t_0)) rfl rfl) ?_
    refine tr1 rfl (aD (v := .d (.sl 5 (l_1.map aL))) (aA rfl) rfl rfl) ?_
    obtain ⟨r27, h28, h⟩ := bind_some h
    refine tr1 rfl (cN (aA rfl) (.func _ _ Try.call35) rfl rfl (BVs.refl _ _) (xZ _ _ h28) rfl) ?_
    refine tr1 rfl (aD (v := .tup [.d (.lit (.int .i64 r27.1)), .d (.lit (.int .i64 r27.2))]) (aA rfl) rfl rfl) ?_
    refine tr1 rfl (bM (aA rfl) rfl rfl) ?_
    refine tr1 rfl (bM (aA rfl) rfl rfl) ?_
    refine tr1 rfl (aJ (v := .d (.lit (.int .i64 r27.1))) (aA rfl) rfl rfl) ?_
    refine tr1 rfl (aJ (v := .d (.lit (.int .i64 r27.2))) (aA rfl) rfl rfl) ?_
    refine aF ?_
    refine aG ?_
    refine aG ?_
    refine aC ?_
    refine tr1 rfl (aD (v := .d (.sl 4 (r17.1.map aX))) (aA rfl) rfl rfl) ?_
    refine tr1 rfl (aD (v := .d (.sl 4 (r19.1.map aX))) (aA rfl) rfl rfl) ?_
    obtain ⟨r29, h30, h⟩ := bind_some h
    refine tr1 rfl (cN (aA rfl) (.func _ _ Try.call22) rfl rfl (BVs.refl _ _) (pC _ _ h30) rfl) ?_
    refine tr1 rfl (gE (aA rfl) rfl) ?_
    refine tr1 rfl (aD (v := .d (.lit (.bool (!r29)))) (aA rfl) rfl rfl) ?_
    obtain ⟨b31, h32, h⟩ := bind_some h
    refine cG 4 [1, 2, 5, 6, 11, 12, 13, 14, 15, 16, 17, 18] 80 b31 ?_ ?_
    ·refine bP (!r29) (fun c63 => ?_) (fun c63 => ?_)
     ·have h32 := bB c63 h32
      refine aP rfl rfl (aA rfl) rfl (aA rfl) rfl c63 ?_
      refine aP rfl rfl (aA rfl) rfl (aA rfl) rfl c63 ?_
      refine aP rfl rfl (aA rfl) rfl (aA rfl) rfl c63 ?_
      refine tr1 rfl (bZ (v := .d (.lit (.bool true))) (aA rfl) rfl c63 rfl rfl) ?_
      have h32 := Option.some.inj h32
      subst h32
      refine aF (bF rfl ⟨rfl, rfl, rfl, rfl, rfl, rfl, rfl, rfl, rfl, rfl, rfl, rfl, trivial⟩ rfl)
     ·have h32 := aZ c63 h32
      refine aM rfl rfl (aA rfl) rfl c63 (aD (v := .d (.lit (.int .i64 r17.2))) (aA rfl) rfl rfl) ?_
      refine aM rfl rfl (aA rfl) rfl c63 (aD (v := .d (.lit (.int .i64 r19.2))) (aA rfl) rfl rfl) ?_
      refine aM rfl rfl (aA rfl) rfl c63 (bK (aA rfl) rfl rfl rfl) ?_
      refine tr1 rfl (bY (v := .d (.lit (.bool ((!decide (r17.2 = r19.2)))))) (aA rfl) rfl c63 rfl rfl) ?_
      have h32 := Option.some.inj h32
      subst h32
      refine aF (bF rfl ⟨rfl, rfl, rfl, rfl, rfl, rfl, rfl, rfl, rfl, rfl, rfl, rfl, trivial⟩ rfl)
    ·refine tr1 rfl (aD (v := .d (.lit (.bool b31))) (aA rfl) rfl rfl) ?_
     obtain ⟨b33, h34, h⟩ := bind_some h
     refine cG 5 [1, 2, 5, 6, 12, 14, 15, 16, 17, 18] 86 b33 ?_ ?_
     ·refine bP (b31) (fun c60 => ?_) (fun c60 => ?_)
      ·have h34 := bB c60 h34
       refine aP rfl rfl (aA rfl) rfl (aA rfl) rfl c60 ?_
       refine aP rfl rfl (aA rfl) rfl (aA rfl) rfl c60 ?_
       refine aP rfl rfl (aA rfl) rfl (aA rfl) rfl c60 ?_
       refine aP rfl rfl (aA rfl) rfl (aA rfl) rfl c60 ?_
       refine tr1 rfl (bZ (v := .d (.lit (.bool true))) (aA rfl) rfl c60 rfl rfl) ?_
       have h34 := Option.some.inj h34
       subst h34
       refine aF (bF rfl ⟨rfl, rfl, rfl, rfl, rfl, rfl, rfl, rfl, rfl, rfl, trivial⟩ rfl)
      ·have h34 := aZ c60 h34
       refine aM rfl rfl (aA rfl) rfl c60 (aD (v := .d (.sl 4 (r21.1.map aX))) (aA rfl) rfl rfl) ?_
       refine aM rfl rfl (aA rfl) rfl c60 (aD (v := .d (.sl 4 (r23.1.map aX))) (aA rfl) rfl rfl) ?_
       obtain ⟨r61, h62, h34⟩ := bind_some h34
       refine aM rfl rfl (aA rfl) rfl c60 (cN (aA rfl) (.func _ _ Try.call22) rfl rfl (BVs.refl _ _) (pC _ _ h62) rfl) ?_
       refine aM rfl rfl (aA rfl) rfl c60 (gE (aA rfl) rfl) ?_
       refine tr1 rfl (bY (v := .d (.lit (.bool (!r61)))) (aA rfl) rfl c60 rfl rfl) ?_
       have h34 := Option.some.inj h34
       subst h34
       refine aF (bF rfl ⟨rfl, rfl, rfl, rfl, rfl, rfl, rfl, rfl, rfl, rfl, trivial⟩ rfl)
     ·refine tr1 rfl (aD (v := .d (.lit (.bool b33))) (aA rfl) rfl rfl) ?_
      obtain ⟨b35, h36, h⟩ := bind_some h
      refine cG 4 [1, 2, 5, 6, 15, 16, 17, 18] 91 b35 ?_ ?_
      ·refine bP (b33) (fun c59 => ?_) (fun c59 => ?_)
       ·have h36 := bB c59 h36
        refine aP rfl rfl (aA rfl) rfl (aA rfl) rfl c59 ?_
        refine aP rfl rfl (aA rfl) rfl (aA rfl) rfl c59 ?_
        refine aP rfl rfl (aA rfl) rfl (aA rfl) rfl c59 ?_
        refine tr1 rfl (bZ (v := .d (.lit (.bool true))) (aA rfl) rfl c59 rfl rfl) ?_
        have h36 := Option.some.inj h36
        subst h36
        refine aF (bF rfl ⟨rfl, rfl, rfl, rfl, rfl, rfl, rfl, rfl, trivial⟩ rfl)
       ·have h36 := aZ c59 h36
        refine aM rfl rfl (aA rfl) rfl c59 (aD (v := .d (.lit (.int .i64 r21.2))) (aA rfl) rfl rfl) ?_
        refine aM rfl rfl (aA rfl) rfl c59 (aD (v := .d (.lit (.int .i64 r23.2))) (aA rfl) rfl rfl) ?_
        refine aM rfl rfl (aA rfl) rfl c59 (bK (aA rfl) rfl rfl rfl) ?_
        refine tr1 rfl (bY (v := .d (.lit (.bool ((!decide (r21.2 = r23.2)))))) (aA rfl) rfl c59 rfl rfl) ?_
        have h36 := Option.some.inj h36
        subst h36
        refine aF (bF rfl ⟨rfl, rfl, rfl, rfl, rfl, rfl, rfl, rfl, trivial⟩ rfl)
      ·refine tr1 rfl (aD (v := .d (.lit (.bool b35))) (aA rfl) rfl rfl) ?_
       obtain ⟨b37, h38, h⟩ := bind_some h
       refine cG 4 [1, 2, 5, 6, 16, 18] 96 b37 ?_ ?_
       ·refine bP (b35) (fun c58 => ?_) (fun c58 => ?_)
        ·have h38 := bB c58 h38
         refine aP rfl rfl (aA rfl) rfl (aA rfl) rfl c58 ?_
         refine aP rfl rfl (aA rfl) rfl (aA rfl) rfl c58 ?_
         refine aP rfl rfl (aA rfl) rfl (aA rfl) rfl c58 ?_
         refine tr1 rfl (bZ (v := .d (.lit (.bool true))) (aA rfl) rfl c58 rfl rfl) ?_
         have h38 := Option.some.inj h38
         subst h38
         refine aF (bF rfl ⟨rfl, rfl, rfl, rfl, rfl, rfl, trivial⟩ rfl)
        ·have h38 := aZ c58 h38
         refine aM rfl rfl (aA rfl) rfl c58 (aD (v := .d (.lit (.int .i64 r25.1))) (aA rfl) rfl rfl) ?_
         refine aM rfl rfl (aA rfl) rfl c58 (aD (v := .d (.lit (.int .i64 r27.1))) (aA rfl) rfl rfl) ?_
         refine aM rfl rfl (aA rfl) rfl c58 (bK (aA rfl) rfl rfl rfl) ?_
         refine tr1 rfl (bY (v := .d (.lit (.bool ((!decide (r25.1 = r27.1)))))) (aA rfl) rfl c58 rfl rfl) ?_
         have h38 := Option.some.inj h38
         subst h38
         refine aF (bF rfl ⟨rfl, rfl, rfl, rfl, rfl, rfl, trivial⟩ rfl)
       ·refine tr1 rfl (aD (v := .d (.lit (.bool b37))) (aA rfl) rfl rfl) ?_
        obtain ⟨b39, h40, h⟩ := bind_some h
        refine cG 4 [1, 2, 5, 6] 101 b39 ?_ ?_
        ·refine bP (b37) (fun c57 => ?_) (fun c57 => ?_)
         ·have h40 := bB c57 h40
          refine aP rfl rfl (aA rfl) rfl (aA rfl) rfl c57 ?_
          refine aP rfl rfl (aA rfl) rfl (aA rfl) rfl c57 ?_
          refine aP rfl rfl (aA rfl) rfl (aA rfl) rfl c57 ?_
          refine tr1 rfl (bZ (v := .d (.lit (.bool true))) (aA rfl) rfl c57 rfl rfl) ?_
          have h40 := Option.some.inj h40
          subst h40
          refine aF (bF rfl ⟨rfl, rfl, rfl, rfl, trivial⟩ rfl)
         ·have h40 := aZ c57 h40
          refine aM rfl rfl (aA rfl) rfl c57 (aD (v := .d (.lit (.int .i64 r25.2))) (aA rfl) rfl rfl) ?_
          refine aM rfl rfl (aA rfl) rfl c57 (aD (v := .d (.lit (.int .i64 r27.2))) (aA rfl) rfl rfl) ?_
          refine aM rfl rfl (aA rfl) rfl c57 (bK (aA rfl) rfl rfl rfl) ?_
          refine tr1 rfl (bY (v := .d (.lit (.bool ((!decide (r25.2 = r27.2)))))) (aA rfl) rfl c57 rfl rfl) ?_
          have h40 := Option.some.inj h40
          subst h40
          refine aF (bF rfl ⟨rfl, rfl, rfl, rfl, trivial⟩ rfl)
        ·refine tr1 rfl (aD (v := .d (.lit (.bool b39))) (aA rfl) rfl rfl) ?_
         obtain ⟨b41, h42, h⟩ := bind_some h
         refine cG 7 [1, 6] 109 b41 ?_ ?_
         ·refine bP (b39) (fun c54 => ?_) (fun c54 => ?_)
          ·have h42 := bB c54 h42
           refine aP rfl rfl (aA rfl) rfl (aA rfl) rfl c54 ?_
           refine aP rfl rfl (aA rfl) rfl (aA rfl) rfl c54 ?_
           refine aP rfl rfl (aA rfl) rfl (aA rfl) rfl c54 ?_
           refine aP rfl rfl (aA rfl) rfl (aA rfl) rfl c54 ?_
           refine aP rfl rfl (aA rfl) rfl (aA rfl) rfl c54 ?_
           refine aP rfl rfl (aA rfl) rfl (aA rfl) rfl c54 ?_
           refine tr1 rfl (bZ (v := .d (.lit (.bool true))) (aA rfl) rfl c54 rfl rfl) ?_
           have h42 := Option.some.inj h42
           subst h42
           refine aF (bF rfl ⟨rfl, rfl, trivial⟩ rfl)
          ·have h42 := aZ c54 h42
           refine aM rfl rfl (aA rfl) rfl c54 (aW (aA rfl) rfl dO) ?_
           refine aM rfl rfl (aA rfl) rfl c54 (aY (aA rfl) rfl (i := 1) rfl rfl cW) ?_
           refine aM rfl rfl (aA rfl) rfl c54 (aW (aA rfl) rfl dO) ?_
           refine aM rfl rfl (aA rfl) rfl c54 (aY (aA rfl) rfl (i := 0) rfl rfl cW) ?_
           obtain ⟨r55, h56, h42⟩ := bind_some h42
           refine aM rfl rfl (aA rfl) rfl c54 (cN (aA rfl) (.func _ _ Try.call23) rfl rfl (BVs.refl _ _) (pT _ _ h56) rfl) ?_
           refine aM rfl rfl (aA rfl) rfl c54 (gE (aA rfl) rfl) ?_
           refine tr1 rfl (bY (v := .d (.lit (.bool (!r55)))) (aA rfl) rfl c54 rfl rfl) ?_
           have h42 := Option.some.inj h42
           subst h42
           refine aF (bF rfl ⟨rfl, rfl, trivial⟩ rfl)
         ·refine aF ?_
          refine bU rfl (fun c43 => ?_) (fun c43 => ?_)
          ·have h := bB c43 h
           refine aG ?_
           refine aC ?_
           refine tr1 rfl (aJ (v := .d (.lit (.bool false))) (aA rfl) rfl rfl) ?_
           refine aF ?_
           have h := Option.some.inj h
           subst h
           refine cQ (cP (cS (l := [4]) ⟨rfl, trivial⟩)) ?_
           exact bR ⟨rfl, _, .one _, rfl, rfl⟩
          ·have h := aZ c43 h
           refine bS ?_
           refine aG ?_
           refine aG ?_
           refine aC ?_
           refine tr1 rfl (aJ (v := .d (.lit (.int .i64 0))) (aA rfl) rfl rfl) ?_
           refine aF ?_
           refine cF ?_
           refine dH [1, 6] (fun (s44 : Int) => [(19, .d (.lit (.int .i64 s44)))]) (fun (s44 : Int) => []) (fun (k : Nat) (s44 : Int) => dS l_1 x9 k s44) (fun _ => rfl) (0) h (bE [] rfl rfl (aT rfl (bC ⟨rfl, rfl, trivial⟩))) ?_
           rintro k45 k_0_44 h
           simp only [dS] at h
           refine aG ?_
           refine aG ?_
           refine aC ?_
           refine tr1 rfl (aD (v := .d (.lit (.int .i64 k_0_44))) (aA rfl) rfl rfl) ?_
           refine tr1 rfl (aD (v := .d (.sl 5 (l_1.map aL))) (aA rfl) rfl rfl) ?_
           refine tr1 rfl (dZ (aA rfl) rfl fQ.of) ?_
           refine tr1 rfl (bK (aA rfl) rfl rfl rfl) ?_
           refine aF ?_
           refine bU rfl (fun c46 => ?_) (fun c46 => ?_)
           ·have h := bB c46 h
            refine bS ?_
            refine aG ?_
            refine cF ?_
            refine aG ?_
            obtain ⟨x47, h48, h⟩ := bind_some h
            obtain ⟨x49, h50, h⟩ := bind_some h
            refine dQ mix 8 [1, 6, 19] [(119, .agg (aL x47)), (123, .agg (aL x49))] ?_ ?_
            ·refine ⟨[(116, 0, .d (.sl 5 (x9.map aL))), (117, 1, .d (.lit (.int .i64 k_0_44))), (118, 2, .cp [.lit (.int .i64 x47.Kind), .lit (.int .i64 x47.Round), .lit (.int .i64 x47.Place), .lit (.int .i64 x47.Player), .lit (.int .i64 x47.Old)]), (119, 3, .agg (aL x47)), (120, 4, .d (.sl 5 (l_1.map aL))), (121, 5, .d (.lit (.int .i64 k_0_44))), (122, 6, .cp [.lit (.int .i64 x49.Kind), .lit (.int .i64 x49.Round), .lit (.int .i64 x49.Place), .lit (.int .i64 x49.Player), .lit (.int .i64 x49.Old)]), (123, 7, .agg (aL x49))], ?_, ?_⟩
             · exact ⟨by kernel_rfl, by kernel_rfl, by kernel_rfl, by kernel_rfl, by kernel_rfl, [([], []), ([], []), ([0, 1], []), ([2], []), ([], []), ([], []), ([4, 5], []), ([6], [])], by kernel_rfl, ⟨fun S hS => aH rfl (aS rfl (aD (v := .d (.sl 5 (x9.map aL))) (aA rfl) (aI hS rfl) rfl)),
      fun S hS => aH rfl (aS rfl (aD (v := .d (.lit (.int .i64 k_0_44))) (aA rfl) (aI hS rfl) rfl)),
      fun S hS => aH rfl (aS rfl (bQ (aA rfl) (aI hS rfl) (aI hS rfl) fQ.of (cA aL h48))),
      fun S hS => aH rfl (aS rfl (gC (aA rfl) (aI hS rfl) iN (es := (aL x47)) rfl rfl)),
      fun S hS => aH rfl (aS rfl (aD (v := .d (.sl 5 (l_1.map aL))) (aA rfl) (aI hS rfl) rfl)),
      fun S hS => aH rfl (aS rfl (aD (v := .d (.lit (.int .i64 k_0_44))) (aA rfl) (aI hS rfl) rfl)),
      fun S hS => aH rfl (aS rfl (bQ (aA rfl) (aI hS rfl) (aI hS rfl) fQ.of (cA aL h50))),
      fun S hS => aH rfl (aS rfl (gC (aA rfl) (aI hS rfl) iN (es := (aL x49)) rfl rfl)), trivial⟩⟩
             · exact dC (aT rfl (aT rfl (bC ⟨rfl, rfl, rfl, trivial⟩)))
            ·refine tr1 rfl (aAw (a := x47) (b := x49) (aA rfl) rfl rfl rfl rfl Try.eqGuardType32 zX) ?_
             refine aF ?_
             refine bU rfl (fun c51 => ?_) (fun c51 => ?_)
             ·have h := bB c51 h
              refine aG ?_
              refine aC ?_
              refine tr1 rfl (aJ (v := .d (.lit (.bool false))) (aA rfl) rfl rfl) ?_
              refine aF ?_
              have h := Option.some.inj h
              subst h
              exact bR ⟨rfl, _, .one _, rfl, rfl⟩
             ·have h := aZ c51 h
              refine eA ?_
              refine aC ?_
              refine tr1 rfl (aD (v := .d (.lit (.int .i64 k_0_44))) (aA rfl) rfl rfl) ?_
              refine tr1 rfl (bN (aA rfl) rfl rfl rfl) ?_
              refine tr1 rfl (aJ (v := .d (.lit (.int .i64 ((w64 (k_0_44 + 1)))))) (aA rfl) rfl rfl) ?_
              refine aF ?_
              exact ⟨(w64 (k_0_44 + 1)), h, bE [] rfl rfl (aT rfl (bC ⟨rfl, rfl, trivial⟩))⟩
           ·have h := aZ c46 h
            refine cV ?_
            refine .inl ⟨rfl, ?_⟩
            simp only [kK] at h
            refine aG ?_
            refine aC ?_
            obtain ⟨r52, h53, h⟩ := bind_some h
            refine tr1 rfl (cN (aA rfl) (.func _ _ Try.call14) rfl rfl (BVs.refl _ _) (rO h53) rfl) ?_
            refine tr1 rfl (aJ (v := .d (.lit (.bool r52))) (aA rfl) rfl rfl) ?_
            refine aF ?_
            have h := Option.some.inj h
            subst h
            exact bR ⟨rfl, _, .one _, rfl, rfl⟩

end Go.Am
