/- The functions compute what the shallow ones say: printed by program. -/
import Derived.Test.YtenffgkkeafnpaaBracketOrderSimP1
namespace Go.Am
open Go.Proofs
set_option maxRecDepth 100000
set_option maxHeartbeats 4000000

theorem vI (t_0 : aP) (l_1 : List aE) {r : (List Int) × Bool} (h : kJ t_0 l_1 = some r) : Fn Try.prog 18 [.agg (aS t_0), .d (.sl 5 (l_1.map aI))] (.tup [.d (.sl 1 (r.1.map aO)), .d (.lit (.bool r.2))]) := by
 unfold kJ at h
 refine Fn.of_tr Try.func18 rfl (rs := [.tmp 4, .tmp 5]) Try.results18 Try.ntmps18 (Nat.le_of_ble_eq_true rfl) ?_
 refine aH ?_
 refine aD ?_
 refine cB rfl (gK (v := .agg (aS t_0)) (aA rfl) rfl rfl rfl) ?_
 rintro _ ⟨b1, rfl⟩
 refine tr1 rfl (qK 1 (aA rfl)) ?_
 refine tr1 rfl (aK (v := .d (.lit (.bool false))) (aA rfl) rfl rfl) ?_
 refine aF ?_
 refine aH ?_
 refine aD ?_
 refine tr1 rfl (aC (v := .d (.sl 5 (l_1.map aI))) (aA rfl) rfl rfl) ?_
 obtain ⟨r2, h3, h⟩ := bind_some h
 refine tr1 rfl (eN (aA rfl) (.func _ _ Try.call51) rfl rfl (sG _ h3)) ?_
 refine tr1 rfl (aK (v := .d (.sl 5 (r2.map aI))) (aA rfl) rfl rfl) ?_
 refine aF ?_
 refine aH ?_
 refine aD ?_
 refine cB rfl (aBz (aA rfl) cC rfl rfl (rows := (([] : List Int)).map aO) rfl (cP (f := aO) fun _ => rfl) rfl (by decide)) ?_
 rintro _ ⟨v4, rfl⟩
 refine tr1 rfl (aT (aA rfl) rfl dL) ?_
 refine tr1 rfl (aY (aA rfl) rfl (i := 0) rfl rfl dB) ?_
 obtain ⟨x5, h6, h⟩ := bind_some h
 refine cB rfl (eO (i := 1) (aA rfl) cC rfl rfl rfl (fun _ => rfl) h6 rfl) ?_
 rintro _ ⟨v7, rfl⟩
 refine tr1 rfl (aK (v := .d (.lit v7)) (aA rfl) rfl rfl) ?_
 refine aF ?_
 refine aH ?_
 refine aD ?_
 refine tr1 rfl (iO 3 1 (.inl rfl) (aA rfl)) ?_
 refine aF ?_
 refine aH ?_
 refine aD ?_
 refine tr1 rfl (aK (v := .d (.lit (.int .i64 0))) (aA rfl) rfl rfl) ?_
 refine aF ?_
 refine aH ?_
 refine aH ?_
 refine aD ?_
 refine tr1 rfl (aK (v := .d (.lit (.int .i64 0))) (aA rfl) rfl rfl) ?_
 refine aF ?_
 refine cG ?_
 refine dN [2, 6] (fun (s9 : Int × Int × (List Int) × (List Int) × Value × Value) => [(7, .d (.lit s9.2.2.2.2.2)), (8, .d (.lit s9.2.2.2.2.1)), (9, .d (.lit (.int .i64 s9.1))), (10, .d (.lit (.int .i64 s9.2.1)))]) (fun (s9 : Int × Int × (List Int) × (List Int) × Value × Value) => [.box b1 0 (aS t_0), .arr s9.2.2.2.2.1 3 1 (s9.2.2.1.map aO), .arr s9.2.2.2.2.2 3 1 (s9.2.2.2.1.map aO)]) (fun (k : Nat) (s9 : Int × Int × (List Int) × (List Int) × Value × Value) => dQ r2 t_0 k s9.1 s9.2.1 s9.2.2.1 s9.2.2.2.1) (fun _ => rfl) (0, 0, ([] : List Int), x5, (.slice none 0 0), v7) h (bI [0, 2, 1] rfl rfl (aU rfl (aU rfl (aU rfl (aU rfl (bD ⟨rfl, rfl, trivial⟩)))))) ?_
 rintro k12 ⟨used_0_9, i_0_9, out_0_9, o18_0_9, w10, w11⟩ h
 simp only [dQ] at h
 refine aH ?_
 refine aH ?_
 refine aD ?_
 refine tr1 rfl (aC (v := .d (.lit (.int .i64 i_0_9))) (aA rfl) rfl rfl) ?_
 refine tr1 rfl (aT (aA rfl) rfl dL) ?_
 refine tr1 rfl (aY (aA rfl) rfl (i := 0) rfl rfl dB) ?_
 refine tr1 rfl (dM (aA rfl) rfl cC.of) ?_
 refine tr1 rfl (bM (aA rfl) rfl rfl rfl) ?_
 refine aF ?_
 refine bY rfl (fun c13 => ?_) (fun c13 => ?_)
 ·have h := aX c13 h
  refine bX ?_
  refine aH ?_
  refine cG ?_
  refine aH ?_
  refine aD ?_
  refine tr1 rfl (aT (aA rfl) rfl dL) ?_
  refine tr1 rfl (aY (aA rfl) rfl (i := 0) rfl rfl dB) ?_
  refine tr1 rfl (aC (v := .d (.lit (.int .i64 i_0_9))) (aA rfl) rfl rfl) ?_
  obtain ⟨x14, h15, h⟩ := bind_some h
  refine tr1 rfl (bQ (aA rfl) rfl rfl cC.of (bZ aO h15)) ?_
  refine tr1 rfl (bT (aA rfl) rfl bK) ?_
  refine tr1 rfl (aK (v := .d (.lit (.int .i64 x14))) (aA rfl) rfl rfl) ?_
  refine aF ?_
  refine aH ?_
  refine aH ?_
  refine aD ?_
  refine tr1 rfl (aK (v := .d (.lit (.bool true))) (aA rfl) rfl rfl) ?_
  refine aF ?_
  refine cG ?_
  refine dN [2, 6, 8, 10] (fun (s16 : Int × Int × Bool × (List Int) × Value) => [(7, .d (.lit s16.2.2.2.2)), (9, .d (.lit (.int .i64 s16.1))), (11, .d (.lit (.int .i64 s16.2.1))), (12, .d (.lit (.bool s16.2.2.1)))]) (fun (s16 : Int × Int × Bool × (List Int) × Value) => [.box b1 0 (aS t_0), .arr w10 3 1 (out_0_9.map aO), .arr s16.2.2.2.2 3 1 (s16.2.2.2.1.map aO)]) (fun (k : Nat) (s16 : Int × Int × Bool × (List Int) × Value) => eY (dQ r2 t_0 k12) r2 i_0_9 t_0 out_0_9 k s16.1 s16.2.1 s16.2.2.1 s16.2.2.2.1) (fun _ => rfl) (used_0_9, x14, true, o18_0_9, w11) h (bI [0, 1, 2] rfl rfl (aU rfl (aU rfl (aU rfl (aU rfl (bD ⟨rfl, rfl, rfl, rfl, trivial⟩)))))) ?_
  rintro k18 ⟨used_2_16, now_2_16, again_2_16, o18_2_16, w17⟩ h
  simp only [eY] at h
  refine aH ?_
  refine aH ?_
  refine aD ?_
  refine tr1 rfl (aC (v := .d (.lit (.bool again_2_16))) (aA rfl) rfl rfl) ?_
  refine aF ?_
  refine bY rfl (fun c19 => ?_) (fun c19 => ?_)
  ·have h := aX c19 h
   refine bX ?_
   refine cG ?_
   refine aH ?_
   refine aD ?_
   refine tr1 rfl (aK (v := .d (.lit (.bool false))) (aA rfl) rfl rfl) ?_
   refine aF ?_
   refine aH ?_
   refine aD ?_
   refine tr1 rfl (iO 3 1 (.inl rfl) (aA rfl)) ?_
   refine aF ?_
   refine aH ?_
   refine aH ?_
   refine aD ?_
   refine tr1 rfl (aK (v := .d (.lit (.int .i64 0))) (aA rfl) rfl rfl) ?_
   refine aF ?_
   refine cG ?_
   refine dN [2, 6, 7, 8, 9, 10, 11, 12] (fun (s21 : Int × (List Int) × Value) => [(13, .d (.lit s21.2.2)), (14, .d (.lit (.int .i64 s21.1)))]) (fun (s21 : Int × (List Int) × Value) => [.box b1 0 (aS t_0), .arr w10 3 1 (out_0_9.map aO), .arr s21.2.2 3 1 (s21.2.1.map aO), .arr w17 3 1 (o18_2_16.map aO)]) (fun (k : Nat) (s21 : Int × (List Int) × Value) => eG (dQ r2 t_0 k12) (eY (dQ r2 t_0 k12) r2 i_0_9 t_0 out_0_9 k18) r2 used_2_16 i_0_9 now_2_16 false t_0 out_0_9 o18_2_16 k s21.1 s21.2.1) (fun _ => rfl) (0, ([] : List Int), (.slice none 0 0)) h (bI [0, 1, 3, 2] rfl rfl (aU rfl (aU rfl (bD ⟨rfl, rfl, rfl, rfl, rfl, rfl, rfl, rfl, trivial⟩)))) ?_
   rintro k23 ⟨k_4_21, nextv_4_21, w22⟩ h
   simp only [eG] at h
   refine aH ?_
   refine aH ?_
   refine aD ?_
   refine tr1 rfl (aC (v := .d (.lit (.int .i64 k_4_21))) (aA rfl) rfl rfl) ?_
   refine tr1 rfl (aC (v := .d (.sl 5 (r2.map aI))) (aA rfl) rfl rfl) ?_
   refine tr1 rfl (dM (aA rfl) rfl dH.of) ?_
   refine tr1 rfl (bM (aA rfl) rfl rfl rfl) ?_
   refine aF ?_
   refine bY rfl (fun c24 => ?_) (fun c24 => ?_)
   ·have h := aX c24 h
    refine bX ?_
    refine aH ?_
    refine cG ?_
    refine aH ?_
    refine aD ?_
    refine tr1 rfl (aC (v := .d (.sl 5 (r2.map aI))) (aA rfl) rfl rfl) ?_
    refine tr1 rfl (aC (v := .d (.lit (.int .i64 k_4_21))) (aA rfl) rfl rfl) ?_
    obtain ⟨x25, h26, h⟩ := bind_some h
    refine tr1 rfl (bQ (aA rfl) rfl rfl dH.of (bZ aI h26)) ?_
    refine tr1 rfl (cH (aA rfl) rfl iW (es := [.lit (.int .i64 x25.Kind)]) rfl) ?_
    refine tr1 rfl (bT (aA rfl) rfl bK) ?_
    refine tr1 rfl (bM (aA rfl) rfl rfl rfl) ?_
    refine tr1 rfl (aC (v := .d (.lit (.bool ((decide (x25.Kind = 5)))))) (aA rfl) rfl rfl) ?_
    obtain ⟨b27, h28, h⟩ := bind_some h
    refine bU 8 [2, 6, 7, 8, 9, 10, 11, 12, 13, 14] 55 b27 ?_ ?_
    ·refine bE (decide (x25.Kind = 5)) (fun c40 => ?_) (fun c40 => ?_)
     ·have h28 := aX c40 h28
      refine aL rfl rfl (aA rfl) rfl c40 (aC (v := .d (.sl 5 (r2.map aI))) (aA rfl) rfl rfl) ?_
      refine aL rfl rfl (aA rfl) rfl c40 (aC (v := .d (.lit (.int .i64 k_4_21))) (aA rfl) rfl rfl) ?_
      obtain ⟨x41, h42, h28⟩ := bind_some h28
      refine aL rfl rfl (aA rfl) rfl c40 (bQ (aA rfl) rfl rfl dH.of (bZ aI h42)) ?_
      refine aL rfl rfl (aA rfl) rfl c40 (cH (aA rfl) rfl iH (es := [.lit (.int .i64 x41.Place)]) rfl) ?_
      refine aL rfl rfl (aA rfl) rfl c40 (bT (aA rfl) rfl bK) ?_
      refine aL rfl rfl (aA rfl) rfl c40 (aC (v := .d (.lit (.int .i64 i_0_9))) (aA rfl) rfl rfl) ?_
      refine aL rfl rfl (aA rfl) rfl c40 (bM (aA rfl) rfl rfl rfl) ?_
      refine tr1 rfl (bJ (v := .d (.lit (.bool ((decide (x41.Place = i_0_9)))))) (aA rfl) rfl c40 rfl rfl) ?_
      have h28 := Option.some.inj h28
      subst h28
      refine aF (aW rfl ⟨rfl, rfl, rfl, rfl, rfl, rfl, rfl, rfl, rfl, rfl, trivial⟩ rfl)
     ·have h28 := aZ c40 h28
      refine aN rfl rfl (aA rfl) rfl (aA rfl) rfl c40 ?_
      refine aN rfl rfl (aA rfl) rfl (aA rfl) rfl c40 ?_
      refine aN rfl rfl (aA rfl) rfl (aA rfl) rfl c40 ?_
      refine aN rfl rfl (aA rfl) rfl (aA rfl) rfl c40 ?_
      refine aN rfl rfl (aA rfl) rfl (aA rfl) rfl c40 ?_
      refine aN rfl rfl (aA rfl) rfl (aA rfl) rfl c40 ?_
      refine aN rfl rfl (aA rfl) rfl (aA rfl) rfl c40 ?_
      refine tr1 rfl (bL (v := .d (.lit (.bool false))) (aA rfl) rfl c40 rfl rfl) ?_
      have h28 := Option.some.inj h28
      subst h28
      refine aF (aW rfl ⟨rfl, rfl, rfl, rfl, rfl, rfl, rfl, rfl, rfl, rfl, trivial⟩ rfl)
    ·refine tr1 rfl (aC (v := .d (.lit (.bool b27))) (aA rfl) rfl rfl) ?_
     obtain ⟨b29, h30, h⟩ := bind_some h
     refine bU 8 [2, 6, 7, 8, 9, 10, 11, 12, 13, 14] 64 b29 ?_ ?_
     ·refine bE (b27) (fun c37 => ?_) (fun c37 => ?_)
      ·have h30 := aX c37 h30
       refine aL rfl rfl (aA rfl) rfl c37 (aC (v := .d (.sl 5 (r2.map aI))) (aA rfl) rfl rfl) ?_
       refine aL rfl rfl (aA rfl) rfl c37 (aC (v := .d (.lit (.int .i64 k_4_21))) (aA rfl) rfl rfl) ?_
       obtain ⟨x38, h39, h30⟩ := bind_some h30
       refine aL rfl rfl (aA rfl) rfl c37 (bQ (aA rfl) rfl rfl dH.of (bZ aI h39)) ?_
       refine aL rfl rfl (aA rfl) rfl c37 (cH (aA rfl) rfl rC (es := [.lit (.int .i64 x38.Old)]) rfl) ?_
       refine aL rfl rfl (aA rfl) rfl c37 (bT (aA rfl) rfl bK) ?_
       refine aL rfl rfl (aA rfl) rfl c37 (aC (v := .d (.lit (.int .i64 now_2_16))) (aA rfl) rfl rfl) ?_
       refine aL rfl rfl (aA rfl) rfl c37 (bM (aA rfl) rfl rfl rfl) ?_
       refine tr1 rfl (bJ (v := .d (.lit (.bool ((decide (x38.Old = now_2_16)))))) (aA rfl) rfl c37 rfl rfl) ?_
       have h30 := Option.some.inj h30
       subst h30
       refine aF (aW rfl ⟨rfl, rfl, rfl, rfl, rfl, rfl, rfl, rfl, rfl, rfl, trivial⟩ rfl)
      ·have h30 := aZ c37 h30
       refine aN rfl rfl (aA rfl) rfl (aA rfl) rfl c37 ?_
       refine aN rfl rfl (aA rfl) rfl (aA rfl) rfl c37 ?_
       refine aN rfl rfl (aA rfl) rfl (aA rfl) rfl c37 ?_
       refine aN rfl rfl (aA rfl) rfl (aA rfl) rfl c37 ?_
       refine aN rfl rfl (aA rfl) rfl (aA rfl) rfl c37 ?_
       refine aN rfl rfl (aA rfl) rfl (aA rfl) rfl c37 ?_
       refine aN rfl rfl (aA rfl) rfl (aA rfl) rfl c37 ?_
       refine tr1 rfl (bL (v := .d (.lit (.bool false))) (aA rfl) rfl c37 rfl rfl) ?_
       have h30 := Option.some.inj h30
       subst h30
       refine aF (aW rfl ⟨rfl, rfl, rfl, rfl, rfl, rfl, rfl, rfl, rfl, rfl, trivial⟩ rfl)
     ·refine aF ?_
      refine bY rfl (fun c31 => ?_) (fun c31 => ?_)
      ·have h := aX c31 h
       refine aD ?_
       refine tr1 rfl (aC (v := .d (.lit w22)) (aA rfl) rfl rfl) ?_
       refine tr1 rfl (aC (v := .d (.sl 5 (r2.map aI))) (aA rfl) rfl rfl) ?_
       refine tr1 rfl (aC (v := .d (.lit (.int .i64 k_4_21))) (aA rfl) rfl rfl) ?_
       obtain ⟨x32, h33, h⟩ := bind_some h
       refine tr1 rfl (bQ (aA rfl) rfl rfl dH.of (bZ aI h33)) ?_
       refine tr1 rfl (cH (aA rfl) rfl mG (es := [.lit (.int .i64 x32.Player)]) rfl) ?_
       refine tr1 rfl (bT (aA rfl) rfl bK) ?_
       refine tr1 rfl (eV (aA rfl) cC rfl rfl (rows := ([x32.Player]).map aO) rfl (cP (f := aO) fun _ => rfl) rfl (by decide)) ?_
       obtain ⟨x34, h35, h⟩ := bind_some h
       refine cB rfl (eO (i := 2) (aA rfl) cC rfl rfl rfl (fun _ => rfl) h35 rfl) ?_
       rintro _ ⟨v36, rfl⟩
       refine tr1 rfl (aK (v := .d (.lit v36)) (aA rfl) rfl rfl) ?_
       refine fF ?_
       refine aD ?_
       refine tr1 rfl (aC (v := .d (.lit (.int .i64 k_4_21))) (aA rfl) rfl rfl) ?_
       refine tr1 rfl (bR (aA rfl) rfl rfl rfl) ?_
       refine tr1 rfl (aK (v := .d (.lit (.int .i64 ((w64 (k_4_21 + 1)))))) (aA rfl) rfl rfl) ?_
       refine aF ?_
       exact ⟨(w64 (k_4_21 + 1), x34, v36), h, bI [0, 1, 2, 3] rfl rfl (aU rfl (aU rfl (bD ⟨rfl, rfl, rfl, rfl, rfl, rfl, rfl, rfl, trivial⟩)))⟩
      ·have h := aZ c31 h
       refine fD ?_
       refine aD ?_
       refine tr1 rfl (aC (v := .d (.lit (.int .i64 k_4_21))) (aA rfl) rfl rfl) ?_
       refine tr1 rfl (bR (aA rfl) rfl rfl rfl) ?_
       refine tr1 rfl (aK (v := .d (.lit (.int .i64 ((w64 (k_4_21 + 1)))))) (aA rfl) rfl rfl) ?_
       refine aF ?_
       exact ⟨(w64 (k_4_21 + 1), nextv_4_21, w22), h, bI [0, 1, 2, 3] rfl rfl (aU rfl (aU rfl (bD ⟨rfl, rfl, rfl, rfl, rfl, rfl, rfl, rfl, trivial⟩)))⟩
   ·have h := aZ c24 h
    refine dC ?_
    refine .inl ⟨rfl, ?_⟩
    simp only [jA] at h
    refine aH ?_
    refine aH ?_
    refine aD ?_
    refine tr1 rfl (aC (v := .d (.lit w22)) (aA rfl) rfl rfl) ?_
    refine tr1 rfl (oR (m := 2) (aA rfl) rfl rfl cC.of) ?_
    refine tr1 rfl (bM (aA rfl) rfl rfl rfl) ?_
    refine tr1 rfl (aC (v := .d (.lit (.bool ((decide (1 < (nextv_4_21.length : Int))))))) (aA rfl) rfl rfl) ?_
    obtain ⟨b43, h44, h⟩ := bind_some h
    refine bU 11 [2, 6, 7, 8, 9, 10, 11, 12, 13] 87 b43 ?_ ?_
    ·refine bE (decide (1 < (nextv_4_21.length : Int))) (fun c52 => ?_) (fun c52 => ?_)
     ·have h44 := aX c52 h44
      refine aN rfl rfl (aA rfl) rfl (aA rfl) rfl c52 ?_
      refine aN rfl rfl (aA rfl) rfl (aA rfl) rfl c52 ?_
      refine aN rfl rfl (aA rfl) rfl (aA rfl) rfl c52 ?_
      refine aN rfl rfl (aA rfl) rfl (aA rfl) rfl c52 ?_
      refine bS rfl rfl (aA rfl) rfl (aA rfl) rfl ?_
      refine bS rfl rfl (aA rfl) rfl (aA rfl) rfl ?_
      refine bS rfl rfl (aA rfl) rfl (aA rfl) rfl ?_
      refine bS rfl rfl (aA rfl) rfl (aA rfl) rfl ?_
      refine bS rfl rfl (aA rfl) rfl (aA rfl) rfl ?_
      refine aN rfl rfl (aA rfl) rfl (aA rfl) rfl c52 ?_
      refine tr1 rfl (bJ (v := .d (.lit (.bool true))) (aA rfl) rfl c52 rfl rfl) ?_
      have h44 := Option.some.inj h44
      subst h44
      refine aF (aW rfl ⟨rfl, rfl, rfl, rfl, rfl, rfl, rfl, rfl, rfl, trivial⟩ rfl)
     ·have h44 := aZ c52 h44
      refine aL rfl rfl (aA rfl) rfl c52 (aC (v := .d (.lit w22)) (aA rfl) rfl rfl) ?_
      refine aL rfl rfl (aA rfl) rfl c52 (oR (m := 2) (aA rfl) rfl rfl cC.of) ?_
      refine aL rfl rfl (aA rfl) rfl c52 (bM (aA rfl) rfl rfl rfl) ?_
      refine aL rfl rfl (aA rfl) rfl c52 (aC (v := .d (.lit (.bool ((decide ((nextv_4_21.length : Int) = 1)))))) (aA rfl) rfl rfl) ?_
      obtain ⟨b53, h54, h44⟩ := bind_some h44
      refine bU 6 [2, 6, 7, 8, 9, 10, 11, 12, 13, 76, 77, 78, 79, 80] 86 b53 ?_ ?_
      ·refine bE (decide ((nextv_4_21.length : Int) = 1)) (fun c55 => ?_) (fun c55 => ?_)
       ·have h54 := aX c55 h54
        refine aL rfl rfl (aA rfl) rfl c55 (aC (v := .d (.lit w17)) (aA rfl) rfl rfl) ?_
        refine aL rfl rfl (aA rfl) rfl c55 (aC (v := .d (.lit w22)) (aA rfl) rfl rfl) ?_
        obtain ⟨x56, h57, h54⟩ := bind_some h54
        refine aL rfl rfl (aA rfl) rfl c55 (jH (m := 2) (aA rfl) rfl rfl rfl cC.of (bZ aO h57)) ?_
        refine aL rfl rfl (aA rfl) rfl c55 (mU (aA rfl) rfl (m := 2) rfl (rY aO h57) rfl bK) ?_
        obtain ⟨r58, h59, h54⟩ := bind_some h54
        refine aL rfl rfl (aA rfl) rfl c55 (cJ (aA rfl) (.func _ _ Try.call52) rfl rfl (.cons (.d (fM 3 rfl (cP (f := aO) fun _ => rfl))) (.cons (.same _) .nil)) (zS _ _ h59) rfl) ?_
        refine aL rfl rfl (aA rfl) rfl c52 (bJ (v := .d (.lit (.bool r58))) (aA rfl) rfl c55 rfl rfl) ?_
        have h54 := Option.some.inj h54
        subst h54
        refine aF (aW rfl ⟨rfl, rfl, rfl, rfl, rfl, rfl, rfl, rfl, rfl, rfl, rfl, rfl, rfl, rfl, trivial⟩ rfl)
       ·have h54 := aZ c55 h54
        refine aN rfl rfl (aA rfl) rfl (aA rfl) rfl c55 ?_
        refine aN rfl rfl (aA rfl) rfl (aA rfl) rfl c55 ?_
        refine aN rfl rfl (aA rfl) rfl (aA rfl) rfl c55 ?_
        refine aN rfl rfl (aA rfl) rfl (aA rfl) rfl c55 ?_
        refine aN rfl rfl (aA rfl) rfl (aA rfl) rfl c55 ?_
        refine aL rfl rfl (aA rfl) rfl c52 (bL (v := .d (.lit (.bool false))) (aA rfl) rfl c55 rfl rfl) ?_
        have h54 := Option.some.inj h54
        subst h54
        refine aF (aW rfl ⟨rfl, rfl, rfl, rfl, rfl, rfl, rfl, rfl, rfl, rfl, rfl, rfl, rfl, rfl, trivial⟩ rfl)
      ·refine tr1 rfl (bL (v := .d (.lit (.bool b53))) (aA rfl) rfl c52 rfl rfl) ?_
       have h44 := Option.some.inj h44
       subst h44
       refine aF (aW rfl ⟨rfl, rfl, rfl, rfl, rfl, rfl, rfl, rfl, rfl, trivial⟩ rfl)
    ·refine aF ?_
     refine bY rfl (fun c45 => ?_) (fun c45 => ?_)
     ·have h := aX c45 h
      refine aH ?_
      refine aD ?_
      refine tr1 rfl (qK 1 (aA rfl)) ?_
      refine tr1 rfl (aK (v := .d (.lit (.bool false))) (aA rfl) rfl rfl) ?_
      refine aF ?_
      have h := Option.some.inj h
      subst h
      refine cT (cR (cW (l := [4, 5]) ⟨rfl, rfl, trivial⟩)) ?_
      exact bV ⟨rfl, _, .two _ _, rfl, rfl⟩
     ·have h := aZ c45 h
      refine bX ?_
      refine aH ?_
      refine aD ?_
      refine tr1 rfl (aC (v := .d (.lit w22)) (aA rfl) rfl rfl) ?_
      refine tr1 rfl (oR (m := 2) (aA rfl) rfl rfl cC.of) ?_
      refine tr1 rfl (bM (aA rfl) rfl rfl rfl) ?_
      refine aF ?_
      refine bY rfl (fun c46 => ?_) (fun c46 => ?_)
      ·have h := aX c46 h
       refine aH ?_
       refine aD ?_
       refine tr1 rfl (aC (v := .d (.lit w22)) (aA rfl) rfl rfl) ?_
       obtain ⟨x47, h48, h⟩ := bind_some h
       refine tr1 rfl (jH (m := 2) (aA rfl) rfl rfl rfl cC.of (bZ aO h48)) ?_
       refine tr1 rfl (mU (aA rfl) rfl (m := 2) rfl (rY aO h48) rfl bK) ?_
       refine tr1 rfl (aK (v := .d (.lit (.int .i64 x47))) (aA rfl) rfl rfl) ?_
       refine aF ?_
       refine aH ?_
       refine aD ?_
       refine tr1 rfl (aC (v := .d (.lit w17)) (aA rfl) rfl rfl) ?_
       refine tr1 rfl (aC (v := .d (.lit (.int .i64 x47))) (aA rfl) rfl rfl) ?_
       refine tr1 rfl (eV (aA rfl) cC rfl rfl (rows := ([x47]).map aO) rfl (cP (f := aO) fun _ => rfl) rfl (by decide)) ?_
       obtain ⟨x49, h50, h⟩ := bind_some h
       refine cB rfl (eO (i := 3) (aA rfl) cC rfl rfl rfl (fun _ => rfl) h50 rfl) ?_
       rintro _ ⟨v51, rfl⟩
       refine tr1 rfl (aK (v := .d (.lit v51)) (aA rfl) rfl rfl) ?_
       refine aF ?_
       refine aH ?_
       refine aD ?_
       refine tr1 rfl (aC (v := .d (.lit (.int .i64 used_2_16))) (aA rfl) rfl rfl) ?_
       refine tr1 rfl (bR (aA rfl) rfl rfl rfl) ?_
       refine tr1 rfl (aK (v := .d (.lit (.int .i64 ((w64 (used_2_16 + 1)))))) (aA rfl) rfl rfl) ?_
       refine aF ?_
       refine aD ?_
       refine tr1 rfl (aK (v := .d (.lit (.bool true))) (aA rfl) rfl rfl) ?_
       refine fF ?_
       simp only [iB] at h
       exact ⟨(w64 (used_2_16 + 1), x47, true, x49, v51), h, bI [0, 1, 3] rfl rfl (aU rfl (aU rfl (aU rfl (aU rfl (bD ⟨rfl, rfl, rfl, rfl, trivial⟩)))))⟩
      ·have h := aZ c46 h
       refine fD ?_
       simp only [iB] at h
       exact ⟨(used_2_16, now_2_16, false, o18_2_16, w17), h, bI [0, 1, 3] rfl rfl (aU rfl (aU rfl (aU rfl (aU rfl (bD ⟨rfl, rfl, rfl, rfl, trivial⟩)))))⟩
  ·have h := aZ c19 h
   refine dC ?_
   refine .inl ⟨rfl, ?_⟩
   simp only [kT] at h
   refine aD ?_
   refine tr1 rfl (aC (v := .d (.lit w10)) (aA rfl) rfl rfl) ?_
   refine tr1 rfl (aC (v := .d (.lit (.int .i64 now_2_16))) (aA rfl) rfl rfl) ?_
   refine tr1 rfl (eV (aA rfl) cC rfl rfl (rows := ([now_2_16]).map aO) rfl (cP (f := aO) fun _ => rfl) rfl (by decide)) ?_
   obtain ⟨x60, h61, h⟩ := bind_some h
   refine cB rfl (eO (i := 1) (aA rfl) cC rfl rfl rfl (fun _ => rfl) h61 rfl) ?_
   rintro _ ⟨v62, rfl⟩
   refine tr1 rfl (aK (v := .d (.lit v62)) (aA rfl) rfl rfl) ?_
   refine fF ?_
   simp only [mP] at h
   refine aD ?_
   refine tr1 rfl (aC (v := .d (.lit (.int .i64 i_0_9))) (aA rfl) rfl rfl) ?_
   refine tr1 rfl (bR (aA rfl) rfl rfl rfl) ?_
   refine tr1 rfl (aK (v := .d (.lit (.int .i64 ((w64 (i_0_9 + 1)))))) (aA rfl) rfl rfl) ?_
   refine aF ?_
   exact ⟨(used_2_16, w64 (i_0_9 + 1), x60, o18_2_16, v62, w17), h, bI [0, 1, 2] rfl rfl (aU rfl (aU rfl (aU rfl (aU rfl (bD ⟨rfl, rfl, trivial⟩)))))⟩
 ·have h := aZ c13 h
  refine dC ?_
  refine .inl ⟨rfl, ?_⟩
  simp only [mO] at h
  refine aH ?_
  refine aH ?_
  refine aD ?_
  refine tr1 rfl (aK (v := .d (.lit (.int .i64 0))) (aA rfl) rfl rfl) ?_
  refine aF ?_
  refine cG ?_
  refine dN [6, 8] (fun (s63 : Int × Int) => [(9, .d (.lit (.int .i64 s63.1))), (15, .d (.lit (.int .i64 s63.2)))]) (fun (s63 : Int × Int) => [.arr w10 3 1 (out_0_9.map aO)]) (fun (k : Nat) (s63 : Int × Int) => eH r2 out_0_9 k s63.1 s63.2) (fun _ => rfl) (used_0_9, 0) h (bI [1] rfl rfl (aU rfl (aU rfl (bD ⟨rfl, rfl, trivial⟩)))) ?_
  rintro k64 ⟨used_6_63, k_6_63⟩ h
  simp only [eH] at h
  refine aH ?_
  refine aH ?_
  refine aD ?_
  refine tr1 rfl (aC (v := .d (.lit (.int .i64 k_6_63))) (aA rfl) rfl rfl) ?_
  refine tr1 rfl (aC (v := .d (.sl 5 (r2.map aI))) (aA rfl) rfl rfl) ?_
  refine tr1 rfl (dM (aA rfl) rfl dH.of) ?_
  refine tr1 rfl (bM (aA rfl) rfl rfl rfl) ?_
  refine aF ?_
  refine bY rfl (fun c65 => ?_) (fun c65 => ?_)
  ·have h := aX c65 h
   refine bX ?_
   refine aH ?_
   refine cG ?_
   refine aH ?_
   refine aD ?_
   refine tr1 rfl (aC (v := .d (.sl 5 (r2.map aI))) (aA rfl) rfl rfl) ?_
   refine tr1 rfl (aC (v := .d (.lit (.int .i64 k_6_63))) (aA rfl) rfl rfl) ?_
   obtain ⟨x66, h67, h⟩ := bind_some h
   refine tr1 rfl (bQ (aA rfl) rfl rfl dH.of (bZ aI h67)) ?_
   refine tr1 rfl (cH (aA rfl) rfl iW (es := [.lit (.int .i64 x66.Kind)]) rfl) ?_
   refine tr1 rfl (bT (aA rfl) rfl bK) ?_
   refine tr1 rfl (bM (aA rfl) rfl rfl rfl) ?_
   refine aF ?_
   refine bY rfl (fun c68 => ?_) (fun c68 => ?_)
   ·have h := aX c68 h
    refine aD ?_
    refine tr1 rfl (aC (v := .d (.lit (.int .i64 used_6_63))) (aA rfl) rfl rfl) ?_
    refine tr1 rfl (bR (aA rfl) rfl rfl rfl) ?_
    refine tr1 rfl (aK (v := .d (.lit (.int .i64 ((w64 (used_6_63 - 1)))))) (aA rfl) rfl rfl) ?_
    refine fF ?_
    refine aD ?_
    refine tr1 rfl (aC (v := .d (.lit (.int .i64 k_6_63))) (aA rfl) rfl rfl) ?_
    refine tr1 rfl (bR (aA rfl) rfl rfl rfl) ?_
    refine tr1 rfl (aK (v := .d (.lit (.int .i64 ((w64 (k_6_63 + 1)))))) (aA rfl) rfl rfl) ?_
    refine aF ?_
    exact ⟨(w64 (used_6_63 - 1), w64 (k_6_63 + 1)), h, bI [0] rfl rfl (aU rfl (aU rfl (bD ⟨rfl, rfl, trivial⟩)))⟩
   ·have h := aZ c68 h
    refine fD ?_
    refine aD ?_
    refine tr1 rfl (aC (v := .d (.lit (.int .i64 k_6_63))) (aA rfl) rfl rfl) ?_
    refine tr1 rfl (bR (aA rfl) rfl rfl rfl) ?_
    refine tr1 rfl (aK (v := .d (.lit (.int .i64 ((w64 (k_6_63 + 1)))))) (aA rfl) rfl rfl) ?_
    refine aF ?_
    exact ⟨(used_6_63, w64 (k_6_63 + 1)), h, bI [0] rfl rfl (aU rfl (aU rfl (bD ⟨rfl, rfl, trivial⟩)))⟩
  ·have h := aZ c65 h
   refine dC ?_
   refine .inl ⟨rfl, ?_⟩
   simp only [mQ] at h
   refine aH ?_
   refine aD ?_
   refine tr1 rfl (aC (v := .d (.lit w10)) (aA rfl) rfl rfl) ?_
   refine tr1 rfl (aC (v := .d (.lit (.int .i64 used_6_63))) (aA rfl) rfl rfl) ?_
   refine tr1 rfl (bM (aA rfl) rfl rfl rfl) ?_
   refine tr1 rfl (aK (v := .d (.lit w10)) (aA rfl) rfl rfl) ?_
   refine tr1 rfl (aK (v := .d (.lit (.bool ((decide (used_6_63 = 0)))))) (aA rfl) rfl rfl) ?_
   refine aF ?_
   have h := Option.some.inj h
   subst h
   refine cT (cR (eF (k := 5) (v := .d (.lit (.bool ((decide (used_6_63 = 0)))))) (.same _) (eF (k := 4) (v := .d (.sl 1 (out_0_9.map aO))) (.d (fM 0 rfl (cP (f := aO) fun _ => rfl))) (uN)))) ?_
   exact bV ⟨rfl, _, .two _ _, rfl, rfl⟩

theorem yG (t_0 : aP) (l_1 : List aE) {r : aR × Bool} (h : cY t_0 l_1 = some r) : Fn Try.prog 55 [.agg (aS t_0), .d (.sl 5 (l_1.map aI))] (.tup [.agg (cN r.1), .d (.lit (.bool r.2))]) := by
 unfold cY at h
 refine sB Try.func55 rfl (rs := [.cell 4 89, .tmp 5]) Try.results55 Try.ntmps55 (Nat.le_of_ble_eq_true rfl) ?_
 refine aH ?_
 refine aD ?_
 refine cB rfl (gK (v := .agg (aS t_0)) (aA rfl) rfl rfl rfl) ?_
 rintro _ ⟨b1, rfl⟩
 refine cB rfl (eC (zs := [.sl 1 ((([] : List Int)).map aO), .sl 1 ((([] : List (List Int))).map lJ)]) (aA rfl) Try.zeroValue89 rfl rfl) ?_
 rintro _ ⟨b2, rfl⟩
 refine tr1 rfl (aK (v := .d (.lit (.bool false))) (aA rfl) rfl rfl) ?_
 refine aF ?_
 refine aH ?_
 refine aD ?_
 refine tr1 rfl (bN (aA rfl) rfl (i := 0) rfl dE (es := (aS t_0)) rfl rfl) ?_
 refine tr1 rfl (aC (v := .d (.sl 5 (l_1.map aI))) (aA rfl) rfl rfl) ?_
 obtain ⟨r3, h4, h⟩ := bind_some h
 refine tr1 rfl (eN (aA rfl) (.func _ _ Try.call18) rfl rfl (vI _ _ h4)) ?_
 refine tr1 rfl (aC (v := .tup [.d (.sl 1 (r3.1.map aO)), .d (.lit (.bool r3.2))]) (aA rfl) rfl rfl) ?_
 refine tr1 rfl (bH (aA rfl) rfl rfl) ?_
 refine tr1 rfl (bH (aA rfl) rfl rfl) ?_
 refine tr1 rfl (aK (v := .d (.sl 1 (r3.1.map aO))) (aA rfl) rfl rfl) ?_
 refine tr1 rfl (aK (v := .d (.lit (.bool r3.2))) (aA rfl) rfl rfl) ?_
 refine aF ?_
 refine aH ?_
 refine aH ?_
 refine aD ?_
 refine tr1 rfl (aC (v := .d (.lit (.bool r3.2))) (aA rfl) rfl rfl) ?_
 refine tr1 rfl (gZ (aA rfl) rfl) ?_
 refine aF ?_
 refine bY rfl (fun c5 => ?_) (fun c5 => ?_)
 ·have h := aX c5 h
  refine aH ?_
  refine aD ?_
  refine tr1 rfl (eZ (aA rfl) xT (zs := [.sl 1 ((([] : List Int)).map aO), .sl 1 ((([] : List (List Int))).map lJ)]) rfl rfl rfl rfl (es := [.sl 1 ((([] : List Int)).map aO), .sl 1 ((([] : List (List Int))).map lJ)]) rfl) ?_
  refine tr1 rfl (cM (i := 1) rfl rfl rfl rfl rfl Try.sizeOf89 rfl (aA rfl) (Nat.le_of_ble_eq_true rfl) (ds' := (cN (aR.mk ([] : List Int) ([] : List (List Int))))) rfl) ?_
  refine tr1 rfl (aK (v := .d (.lit (.bool false))) (aA rfl) rfl rfl) ?_
  refine aF ?_
  have h := Option.some.inj h
  subst h
  exact bV ⟨rfl, _, [.box b1 0 (aS t_0), .box b2 0 (cN (aR.mk ([] : List Int) ([] : List (List Int))))], .two (.cell 4 89 rfl (i := 1) rfl uM (es := (cN (aR.mk ([] : List Int) ([] : List (List Int))))) rfl rfl) (.tmp 5 (v := .d (.lit (.bool false))) rfl), .refl _, .same _⟩
 ·have h := aZ c5 h
  refine bX ?_
  refine aH ?_
  refine aD ?_
  refine tr1 rfl (aC (v := .d (.sl 1 (r3.1.map aO))) (aA rfl) rfl rfl) ?_
  refine tr1 rfl (eZ (aA rfl) xT (zs := [.sl 1 ((([] : List Int)).map aO), .lit (.slice none 0 0)]) rfl rfl rfl rfl (es := [.sl 1 (r3.1.map aO), .lit (.slice none 0 0)]) rfl) ?_
  refine cB rfl (eC (zs := [.sl 1 ((([] : List Int)).map aO), .lit (.slice none 0 0)]) (aA rfl) Try.zeroValue89 rfl rfl) ?_
  rintro _ ⟨b6, rfl⟩
  refine gA (zT 22 1) ?_
  refine gA (aGg 3 1) ?_
  refine tr1 rfl (cM (i := 2) rfl rfl rfl rfl rfl Try.sizeOf89 rfl (aA rfl) (Nat.le_of_ble_eq_true rfl) (ds' := [.sl 1 (r3.1.map aO), .lit (.slice none 0 0)]) rfl) ?_
  refine aF ?_
  refine aH ?_
  refine aH ?_
  refine aD ?_
  refine tr1 rfl (aK (v := .d (.lit (.int .i64 0))) (aA rfl) rfl rfl) ?_
  refine aF ?_
  refine cG ?_
  refine dN [1, 2, 4, 6, 8] (fun (s7 : Int × (List (List Int)) × (List Int) × (List Value) × Value) => [(9, .d (.lit (.int .i64 s7.1)))]) (fun (s7 : Int × (List (List Int)) × (List Int) × (List Value) × Value) => [.box b1 0 (aS t_0), .box b2 0 (cN (aR.mk ([] : List Int) ([] : List (List Int)))), .fam 3 1 s7.2.2.2.1 (s7.2.1.map fun r => r.map aO), .arr s7.2.2.2.2 22 1 (s7.2.2.2.1.map fun v => [.lit v]), .box b6 0 [.sl 1 (s7.2.2.1.map aO), .lit s7.2.2.2.2]]) (fun (k : Nat) (s7 : Int × (List (List Int)) × (List Int) × (List Value) × Value) => fL l_1 r3.1 t_0 (aR.mk ([] : List Int) ([] : List (List Int))) k s7.1 s7.2.1 s7.2.2.1) (fun _ => rfl) (0, ([] : List (List Int)), r3.1, [], (.slice none 0 0)) h (bI [0, 1, 4, 3, 2] rfl rfl (aU rfl (bD ⟨rfl, rfl, rfl, rfl, rfl, trivial⟩))) ?_
  rintro k10 ⟨r_0_7, d_0_7, d_0_7_2, vs8, w9⟩ h
  simp only [fL] at h
  refine aH ?_
  refine aH ?_
  refine aD ?_
  refine tr1 rfl (aC (v := .d (.lit (.int .i64 r_0_7))) (aA rfl) rfl rfl) ?_
  refine tr1 rfl (aT (aA rfl) rfl iV) ?_
  refine tr1 rfl (aY (aA rfl) rfl (i := 0) rfl rfl bK) ?_
  refine tr1 rfl (bM (aA rfl) rfl rfl rfl) ?_
  refine aF ?_
  refine bY rfl (fun c11 => ?_) (fun c11 => ?_)
  ·have h := aX c11 h
   refine bX ?_
   refine aH ?_
   refine cG ?_
   refine aH ?_
   refine aD ?_
   refine tr1 rfl (iO 3 1 (.inl rfl) (aA rfl)) ?_
   refine aF ?_
   refine aH ?_
   refine aH ?_
   refine aD ?_
   refine tr1 rfl (aK (v := .d (.lit (.int .i64 0))) (aA rfl) rfl rfl) ?_
   refine aF ?_
   refine cG ?_
   refine dN [1, 2, 4, 6, 8, 9] (fun (s13 : Int × (List Int) × Value) => [(10, .d (.lit s13.2.2)), (11, .d (.lit (.int .i64 s13.1)))]) (fun (s13 : Int × (List Int) × Value) => [.box b1 0 (aS t_0), .box b2 0 (cN (aR.mk ([] : List Int) ([] : List (List Int)))), .fam 3 1 vs8 (d_0_7.map fun r => r.map aO), .arr w9 22 1 (vs8.map fun v => [.lit v]), .box b6 0 [.sl 1 (d_0_7_2.map aO), .lit w9], .arr s13.2.2 3 1 (s13.2.1.map aO)]) (fun (k : Nat) (s13 : Int × (List Int) × Value) => dW (fL l_1 r3.1 t_0 (aR.mk ([] : List Int) ([] : List (List Int))) k10) l_1 r3.1 r_0_7 t_0 (aR.mk ([] : List Int) ([] : List (List Int))) d_0_7 d_0_7_2 k s13.1 s13.2.1) (fun _ => rfl) (0, ([] : List Int), (.slice none 0 0)) h (bI [0, 1, 2, 3, 4, 5] rfl rfl (aU rfl (aU rfl (bD ⟨rfl, rfl, rfl, rfl, rfl, rfl, trivial⟩)))) ?_
   rintro k15 ⟨p_2_13, row_2_13, w14⟩ h
   simp only [dW] at h
   refine aH ?_
   refine aH ?_
   refine aD ?_
   refine tr1 rfl (aC (v := .d (.lit (.int .i64 p_2_13))) (aA rfl) rfl rfl) ?_
   refine tr1 rfl (bN (aA rfl) rfl (i := 0) rfl dE (es := (aS t_0)) rfl rfl) ?_
   refine tr1 rfl (aC (v := .d (.lit (.int .i64 r_0_7))) (aA rfl) rfl rfl) ?_
   obtain ⟨r16, h17, h⟩ := bind_some h
   refine tr1 rfl (cJ (aA rfl) (.func _ _ Try.call42) rfl rfl (BVs.refl _ _) (qR _ _ h17) rfl) ?_
   refine tr1 rfl (bM (aA rfl) rfl rfl rfl) ?_
   refine aF ?_
   refine bY rfl (fun c18 => ?_) (fun c18 => ?_)
   ·have h := aX c18 h
    refine bX ?_
    refine aH ?_
    refine cG ?_
    refine aH ?_
    refine aD ?_
    refine tr1 rfl (aK (v := .d (.lit (.int .i64 (-2)))) (aA rfl) rfl rfl) ?_
    refine aF ?_
    refine aH ?_
    refine aH ?_
    refine aD ?_
    refine tr1 rfl (aC (v := .d (.lit (.int .i64 r_0_7))) (aA rfl) rfl rfl) ?_
    refine tr1 rfl (bM (aA rfl) rfl rfl rfl) ?_
    refine tr1 rfl (aC (v := .d (.lit (.bool ((decide (r_0_7 = 0)))))) (aA rfl) rfl rfl) ?_
    obtain ⟨b19, h20, h⟩ := bind_some h
    refine bU 7 [1, 2, 4, 6, 8, 9, 10, 11, 12] 55 b19 ?_ ?_
    ·refine bE (decide (r_0_7 = 0)) (fun c52 => ?_) (fun c52 => ?_)
     ·have h20 := aX c52 h20
      refine aL rfl rfl (aA rfl) rfl c52 (aC (v := .d (.sl 1 (r3.1.map aO))) (aA rfl) rfl rfl) ?_
      refine aL rfl rfl (aA rfl) rfl c52 (aC (v := .d (.lit (.int .i64 p_2_13))) (aA rfl) rfl rfl) ?_
      refine aL rfl rfl (aA rfl) rfl c52 (bR (aA rfl) rfl rfl rfl) ?_
      obtain ⟨x53, h54, h20⟩ := bind_some h20
      refine aL rfl rfl (aA rfl) rfl c52 (bQ (aA rfl) rfl rfl cC.of (bZ aO h54)) ?_
      refine aL rfl rfl (aA rfl) rfl c52 (bT (aA rfl) rfl bK) ?_
      refine aL rfl rfl (aA rfl) rfl c52 (bM (aA rfl) rfl rfl rfl) ?_
      refine tr1 rfl (bJ (v := .d (.lit (.bool ((decide (x53 = (-1))))))) (aA rfl) rfl c52 rfl rfl) ?_
      have h20 := Option.some.inj h20
      subst h20
      refine aF (aW rfl ⟨rfl, rfl, rfl, rfl, rfl, rfl, rfl, rfl, rfl, trivial⟩ rfl)
     ·have h20 := aZ c52 h20
      refine aN rfl rfl (aA rfl) rfl (aA rfl) rfl c52 ?_
      refine aN rfl rfl (aA rfl) rfl (aA rfl) rfl c52 ?_
      refine aN rfl rfl (aA rfl) rfl (aA rfl) rfl c52 ?_
      refine aN rfl rfl (aA rfl) rfl (aA rfl) rfl c52 ?_
      refine aN rfl rfl (aA rfl) rfl (aA rfl) rfl c52 ?_
      refine aN rfl rfl (aA rfl) rfl (aA rfl) rfl c52 ?_
      refine tr1 rfl (bL (v := .d (.lit (.bool false))) (aA rfl) rfl c52 rfl rfl) ?_
      have h20 := Option.some.inj h20
      subst h20
      refine aF (aW rfl ⟨rfl, rfl, rfl, rfl, rfl, rfl, rfl, rfl, rfl, trivial⟩ rfl)
    ·refine aF ?_
     refine bY rfl (fun c21 => ?_) (fun c21 => ?_)
     ·have h := aX c21 h
      refine aD ?_
      refine tr1 rfl (aC (v := .d (.sl 1 (r3.1.map aO))) (aA rfl) rfl rfl) ?_
      refine tr1 rfl (aC (v := .d (.lit (.int .i64 p_2_13))) (aA rfl) rfl rfl) ?_
      refine tr1 rfl (bR (aA rfl) rfl rfl rfl) ?_
      refine tr1 rfl (bR (aA rfl) rfl rfl rfl) ?_
      obtain ⟨x22, h23, h⟩ := bind_some h
      refine tr1 rfl (bQ (aA rfl) rfl rfl cC.of (bZ aO h23)) ?_
      refine tr1 rfl (bT (aA rfl) rfl bK) ?_
      refine tr1 rfl (aK (v := .d (.lit (.int .i64 x22))) (aA rfl) rfl rfl) ?_
      refine aF ?_
      refine aH ?_
      refine aH ?_
      refine aD ?_
      refine tr1 rfl (aC (v := .d (.lit (.int .i64 r_0_7))) (aA rfl) rfl rfl) ?_
      refine tr1 rfl (bM (aA rfl) rfl rfl rfl) ?_
      refine tr1 rfl (aC (v := .d (.lit (.bool ((decide (r_0_7 = 0)))))) (aA rfl) rfl rfl) ?_
      obtain ⟨b24, h25, h⟩ := bind_some h
      refine bU 8 [1, 2, 4, 6, 8, 9, 10, 11, 12] 72 b24 ?_ ?_
      ·refine bE (decide (r_0_7 = 0)) (fun c35 => ?_) (fun c35 => ?_)
       ·have h25 := aX c35 h25
        refine aL rfl rfl (aA rfl) rfl c35 (aC (v := .d (.sl 1 (r3.1.map aO))) (aA rfl) rfl rfl) ?_
        refine aL rfl rfl (aA rfl) rfl c35 (aC (v := .d (.lit (.int .i64 p_2_13))) (aA rfl) rfl rfl) ?_
        refine aL rfl rfl (aA rfl) rfl c35 (bR (aA rfl) rfl rfl rfl) ?_
        refine aL rfl rfl (aA rfl) rfl c35 (bR (aA rfl) rfl rfl rfl) ?_
        obtain ⟨x36, h37, h25⟩ := bind_some h25
        refine aL rfl rfl (aA rfl) rfl c35 (bQ (aA rfl) rfl rfl cC.of (bZ aO h37)) ?_
        refine aL rfl rfl (aA rfl) rfl c35 (bT (aA rfl) rfl bK) ?_
        refine aL rfl rfl (aA rfl) rfl c35 (bM (aA rfl) rfl rfl rfl) ?_
        refine tr1 rfl (bJ (v := .d (.lit (.bool ((decide (x36 = (-1))))))) (aA rfl) rfl c35 rfl rfl) ?_
        have h25 := Option.some.inj h25
        subst h25
        refine aF (aW rfl ⟨rfl, rfl, rfl, rfl, rfl, rfl, rfl, rfl, rfl, trivial⟩ rfl)
       ·have h25 := aZ c35 h25
        refine aN rfl rfl (aA rfl) rfl (aA rfl) rfl c35 ?_
        refine aN rfl rfl (aA rfl) rfl (aA rfl) rfl c35 ?_
        refine aN rfl rfl (aA rfl) rfl (aA rfl) rfl c35 ?_
        refine aN rfl rfl (aA rfl) rfl (aA rfl) rfl c35 ?_
        refine aN rfl rfl (aA rfl) rfl (aA rfl) rfl c35 ?_
        refine aN rfl rfl (aA rfl) rfl (aA rfl) rfl c35 ?_
        refine aN rfl rfl (aA rfl) rfl (aA rfl) rfl c35 ?_
        refine tr1 rfl (bL (v := .d (.lit (.bool false))) (aA rfl) rfl c35 rfl rfl) ?_
        have h25 := Option.some.inj h25
        subst h25
        refine aF (aW rfl ⟨rfl, rfl, rfl, rfl, rfl, rfl, rfl, rfl, rfl, trivial⟩ rfl)
      ·refine aF ?_
       refine bY rfl (fun c26 => ?_) (fun c26 => ?_)
       ·have h := aX c26 h
        refine aD ?_
        refine tr1 rfl (aC (v := .d (.sl 1 (r3.1.map aO))) (aA rfl) rfl rfl) ?_
        refine tr1 rfl (aC (v := .d (.lit (.int .i64 p_2_13))) (aA rfl) rfl rfl) ?_
        refine tr1 rfl (bR (aA rfl) rfl rfl rfl) ?_
        obtain ⟨x27, h28, h⟩ := bind_some h
        refine tr1 rfl (bQ (aA rfl) rfl rfl cC.of (bZ aO h28)) ?_
        refine tr1 rfl (bT (aA rfl) rfl bK) ?_
        refine tr1 rfl (aK (v := .d (.lit (.int .i64 x27))) (aA rfl) rfl rfl) ?_
        refine aF ?_
        refine aD ?_
        refine tr1 rfl (aC (v := .d (.lit w14)) (aA rfl) rfl rfl) ?_
        refine tr1 rfl (aC (v := .d (.lit (.int .i64 x27))) (aA rfl) rfl rfl) ?_
        refine tr1 rfl (eV (aA rfl) cC rfl rfl (rows := ([x27]).map aO) rfl (cP (f := aO) fun _ => rfl) rfl (by decide)) ?_
        obtain ⟨x29, h30, h⟩ := bind_some h
        refine cB rfl (eO (i := 5) (aA rfl) cC rfl rfl rfl (fun _ => rfl) h30 rfl) ?_
        rintro _ ⟨v31, rfl⟩
        refine tr1 rfl (aK (v := .d (.lit v31)) (aA rfl) rfl rfl) ?_
        refine fF ?_
        refine aD ?_
        refine tr1 rfl (aC (v := .d (.lit (.int .i64 p_2_13))) (aA rfl) rfl rfl) ?_
        refine tr1 rfl (bR (aA rfl) rfl rfl rfl) ?_
        refine tr1 rfl (aK (v := .d (.lit (.int .i64 ((w64 (p_2_13 + 1)))))) (aA rfl) rfl rfl) ?_
        refine aF ?_
        exact ⟨(w64 (p_2_13 + 1), x29, v31), h, bI [0, 1, 2, 3, 4, 5] rfl rfl (aU rfl (aU rfl (bD ⟨rfl, rfl, rfl, rfl, rfl, rfl, trivial⟩)))⟩
       ·have h := aZ c26 h
        refine bX ?_
        refine aD ?_
        refine tr1 rfl (aC (v := .d (.lit w14)) (aA rfl) rfl rfl) ?_
        refine tr1 rfl (aC (v := .d (.lit (.int .i64 x22))) (aA rfl) rfl rfl) ?_
        refine tr1 rfl (eV (aA rfl) cC rfl rfl (rows := ([x22]).map aO) rfl (cP (f := aO) fun _ => rfl) rfl (by decide)) ?_
        obtain ⟨x32, h33, h⟩ := bind_some h
        refine cB rfl (eO (i := 5) (aA rfl) cC rfl rfl rfl (fun _ => rfl) h33 rfl) ?_
        rintro _ ⟨v34, rfl⟩
        refine tr1 rfl (aK (v := .d (.lit v34)) (aA rfl) rfl rfl) ?_
        refine fF ?_
        refine aD ?_
        refine tr1 rfl (aC (v := .d (.lit (.int .i64 p_2_13))) (aA rfl) rfl rfl) ?_
        refine tr1 rfl (bR (aA rfl) rfl rfl rfl) ?_
        refine tr1 rfl (aK (v := .d (.lit (.int .i64 ((w64 (p_2_13 + 1)))))) (aA rfl) rfl rfl) ?_
        refine aF ?_
        exact ⟨(w64 (p_2_13 + 1), x32, v34), h, bI [0, 1, 2, 3, 4, 5] rfl rfl (aU rfl (aU rfl (bD ⟨rfl, rfl, rfl, rfl, rfl, rfl, trivial⟩)))⟩
     ·have h := aZ c21 h
      refine bX ?_
      refine aH ?_
      refine aH ?_
      refine aD ?_
      refine tr1 rfl (aC (v := .d (.lit (.int .i64 r_0_7))) (aA rfl) rfl rfl) ?_
      refine tr1 rfl (bM (aA rfl) rfl rfl rfl) ?_
      refine tr1 rfl (aC (v := .d (.lit (.bool ((decide (r_0_7 = 0)))))) (aA rfl) rfl rfl) ?_
      obtain ⟨b38, h39, h⟩ := bind_some h
      refine bU 8 [1, 2, 4, 6, 8, 9, 10, 11, 12] 72 b38 ?_ ?_
      ·refine bE (decide (r_0_7 = 0)) (fun c49 => ?_) (fun c49 => ?_)
       ·have h39 := aX c49 h39
        refine aL rfl rfl (aA rfl) rfl c49 (aC (v := .d (.sl 1 (r3.1.map aO))) (aA rfl) rfl rfl) ?_
        refine aL rfl rfl (aA rfl) rfl c49 (aC (v := .d (.lit (.int .i64 p_2_13))) (aA rfl) rfl rfl) ?_
        refine aL rfl rfl (aA rfl) rfl c49 (bR (aA rfl) rfl rfl rfl) ?_
        refine aL rfl rfl (aA rfl) rfl c49 (bR (aA rfl) rfl rfl rfl) ?_
        obtain ⟨x50, h51, h39⟩ := bind_some h39
        refine aL rfl rfl (aA rfl) rfl c49 (bQ (aA rfl) rfl rfl cC.of (bZ aO h51)) ?_
        refine aL rfl rfl (aA rfl) rfl c49 (bT (aA rfl) rfl bK) ?_
        refine aL rfl rfl (aA rfl) rfl c49 (bM (aA rfl) rfl rfl rfl) ?_
        refine tr1 rfl (bJ (v := .d (.lit (.bool ((decide (x50 = (-1))))))) (aA rfl) rfl c49 rfl rfl) ?_
        have h39 := Option.some.inj h39
        subst h39
        refine aF (aW rfl ⟨rfl, rfl, rfl, rfl, rfl, rfl, rfl, rfl, rfl, trivial⟩ rfl)
       ·have h39 := aZ c49 h39
        refine aN rfl rfl (aA rfl) rfl (aA rfl) rfl c49 ?_
        refine aN rfl rfl (aA rfl) rfl (aA rfl) rfl c49 ?_
        refine aN rfl rfl (aA rfl) rfl (aA rfl) rfl c49 ?_
        refine aN rfl rfl (aA rfl) rfl (aA rfl) rfl c49 ?_
        refine aN rfl rfl (aA rfl) rfl (aA rfl) rfl c49 ?_
        refine aN rfl rfl (aA rfl) rfl (aA rfl) rfl c49 ?_
        refine aN rfl rfl (aA rfl) rfl (aA rfl) rfl c49 ?_
        refine tr1 rfl (bL (v := .d (.lit (.bool false))) (aA rfl) rfl c49 rfl rfl) ?_
        have h39 := Option.some.inj h39
        subst h39
        refine aF (aW rfl ⟨rfl, rfl, rfl, rfl, rfl, rfl, rfl, rfl, rfl, trivial⟩ rfl)
      ·refine aF ?_
       refine bY rfl (fun c40 => ?_) (fun c40 => ?_)
       ·have h := aX c40 h
        refine aD ?_
        refine tr1 rfl (aC (v := .d (.sl 1 (r3.1.map aO))) (aA rfl) rfl rfl) ?_
        refine tr1 rfl (aC (v := .d (.lit (.int .i64 p_2_13))) (aA rfl) rfl rfl) ?_
        refine tr1 rfl (bR (aA rfl) rfl rfl rfl) ?_
        obtain ⟨x41, h42, h⟩ := bind_some h
        refine tr1 rfl (bQ (aA rfl) rfl rfl cC.of (bZ aO h42)) ?_
        refine tr1 rfl (bT (aA rfl) rfl bK) ?_
        refine tr1 rfl (aK (v := .d (.lit (.int .i64 x41))) (aA rfl) rfl rfl) ?_
        refine aF ?_
        refine aD ?_
        refine tr1 rfl (aC (v := .d (.lit w14)) (aA rfl) rfl rfl) ?_
        refine tr1 rfl (aC (v := .d (.lit (.int .i64 x41))) (aA rfl) rfl rfl) ?_
        refine tr1 rfl (eV (aA rfl) cC rfl rfl (rows := ([x41]).map aO) rfl (cP (f := aO) fun _ => rfl) rfl (by decide)) ?_
        obtain ⟨x43, h44, h⟩ := bind_some h
        refine cB rfl (eO (i := 5) (aA rfl) cC rfl rfl rfl (fun _ => rfl) h44 rfl) ?_
        rintro _ ⟨v45, rfl⟩
        refine tr1 rfl (aK (v := .d (.lit v45)) (aA rfl) rfl rfl) ?_
        refine fF ?_
        refine aD ?_
        refine tr1 rfl (aC (v := .d (.lit (.int .i64 p_2_13))) (aA rfl) rfl rfl) ?_
        refine tr1 rfl (bR (aA rfl) rfl rfl rfl) ?_
        refine tr1 rfl (aK (v := .d (.lit (.int .i64 ((w64 (p_2_13 + 1)))))) (aA rfl) rfl rfl) ?_
        refine aF ?_
        exact ⟨(w64 (p_2_13 + 1), x43, v45), h, bI [0, 1, 2, 3, 4, 5] rfl rfl (aU rfl (aU rfl (bD ⟨rfl, rfl, rfl, rfl, rfl, rfl, trivial⟩)))⟩
       ·have h := aZ c40 h
        refine bX ?_
        refine aD ?_
        refine tr1 rfl (aC (v := .d (.lit w14)) (aA rfl) rfl rfl) ?_
        refine tr1 rfl (aC (v := .d (.lit (.int .i64 (-2)))) (aA rfl) rfl rfl) ?_
        refine tr1 rfl (eV (aA rfl) cC rfl rfl (rows := ([(-2)]).map aO) rfl (cP (f := aO) fun _ => rfl) rfl (by decide)) ?_
        obtain ⟨x46, h47, h⟩ := bind_some h
        refine cB rfl (eO (i := 5) (aA rfl) cC rfl rfl rfl (fun _ => rfl) h47 rfl) ?_
        rintro _ ⟨v48, rfl⟩
        refine tr1 rfl (aK (v := .d (.lit v48)) (aA rfl) rfl rfl) ?_
        refine fF ?_
        refine aD ?_
        refine tr1 rfl (aC (v := .d (.lit (.int .i64 p_2_13))) (aA rfl) rfl rfl) ?_
        refine tr1 rfl (bR (aA rfl) rfl rfl rfl) ?_
        refine tr1 rfl (aK (v := .d (.lit (.int .i64 ((w64 (p_2_13 + 1)))))) (aA rfl) rfl rfl) ?_
        refine aF ?_
        exact ⟨(w64 (p_2_13 + 1), x46, v48), h, bI [0, 1, 2, 3, 4, 5] rfl rfl (aU rfl (aU rfl (bD ⟨rfl, rfl, rfl, rfl, rfl, rfl, trivial⟩)))⟩
   ·have h := aZ c18 h
    refine dC ?_
    refine .inl ⟨rfl, ?_⟩
    simp only [jD] at h
    refine aD ?_
    refine tr1 rfl (aT (aA rfl) rfl rD) ?_
    refine tr1 rfl (aY (aA rfl) rfl (i := 4) rfl rfl xL) ?_
    refine tr1 rfl (aC (v := .d (.lit w14)) (aA rfl) rfl rfl) ?_
    refine tr1 rfl (eV (aA rfl) yA rfl rfl (rows := [[.lit w14]]) rfl (fun r hr => by cases hr with | head => rfl | tail _ h => cases h) rfl (by decide)) ?_
    obtain ⟨x55, h56, h⟩ := bind_some h
    refine cB rfl (aEd (m := 3) (f := 2) (aA rfl) yA rfl rfl rfl rfl h56 rfl) ?_
    rintro _ ⟨v57, rfl⟩
    refine gA (aEu (i := 2) [.box b1 0 (aS t_0), .box b2 0 (cN (aR.mk ([] : List Int) ([] : List (List Int)))), .fam 3 1 vs8 (d_0_7.map fun r => r.map aO), .arr v57 22 1 ((vs8 ++ [w14]).map fun v => [.lit v]), .box b6 0 [.sl 1 (d_0_7_2.map aO), .lit w9]] [.box b1 0 (aS t_0), .box b2 0 (cN (aR.mk ([] : List Int) ([] : List (List Int)))), .fam 3 1 (vs8 ++ [w14]) (x55.map fun r => r.map aO), .arr v57 22 1 ((vs8 ++ [w14]).map fun v => [.lit v]), .box b6 0 [.sl 1 (d_0_7_2.map aO), .lit w9]] rfl rfl h56 rfl) ?_
    refine tr1 rfl (aT (aA rfl) rfl rD) ?_
    refine tr1 rfl (cM (i := 4) rfl rfl rfl rfl rfl Try.sizeOf53 rfl (aA rfl) (Nat.le_of_ble_eq_true rfl) (ds' := [.sl 1 (d_0_7_2.map aO), .lit v57]) rfl) ?_
    refine fF ?_
    simp only [oD] at h
    refine aD ?_
    refine tr1 rfl (aC (v := .d (.lit (.int .i64 r_0_7))) (aA rfl) rfl rfl) ?_
    refine tr1 rfl (bR (aA rfl) rfl rfl rfl) ?_
    refine tr1 rfl (aK (v := .d (.lit (.int .i64 ((w64 (r_0_7 + 1)))))) (aA rfl) rfl rfl) ?_
    refine aF ?_
    exact ⟨(w64 (r_0_7 + 1), x55, d_0_7_2, (vs8 ++ [w14]), v57), h, bI [0, 1, 2, 3, 4] rfl rfl (aU rfl (bD ⟨rfl, rfl, rfl, rfl, rfl, trivial⟩))⟩
  ·have h := aZ c11 h
   refine dC ?_
   refine .inl ⟨rfl, ?_⟩
   simp only [jC] at h
   refine aH ?_
   refine aD ?_
   refine tr1 rfl (aC (v := .d (.sl 5 (l_1.map aI))) (aA rfl) rfl rfl) ?_
   obtain ⟨r58, h59, h⟩ := bind_some h
   refine tr1 rfl (eN (aA rfl) (.func _ _ Try.call51) rfl rfl (sG _ h59)) ?_
   refine tr1 rfl (aK (v := .d (.sl 5 (r58.map aI))) (aA rfl) rfl rfl) ?_
   refine aF ?_
   refine aH ?_
   refine aH ?_
   refine aD ?_
   refine tr1 rfl (aK (v := .d (.lit (.int .i64 0))) (aA rfl) rfl rfl) ?_
   refine aF ?_
   refine cG ?_
   refine dN [4, 6, 8, 13] (fun (s60 : Int × aR × (List (List Int)) × (List Value)) => [(14, .d (.lit (.int .i64 s60.1)))]) (fun (s60 : Int × aR × (List (List Int)) × (List Value)) => [.box b2 0 (cN s60.2.1), .fam 3 1 s60.2.2.2 (s60.2.2.1.map fun r => r.map aO), .arr w9 22 1 (s60.2.2.2.map fun v => [.lit v]), .box b6 0 [.sl 1 (d_0_7_2.map aO), .lit w9]]) (fun (k : Nat) (s60 : Int × aR × (List (List Int)) × (List Value)) => dF r3.1 r58 d_0_7_2 k s60.1 s60.2.1 s60.2.2.1) (fun _ => rfl) (0, (aR.mk ([] : List Int) ([] : List (List Int))), d_0_7, vs8) h (bI [1, 2, 3, 4] rfl rfl (aU rfl (bD ⟨rfl, rfl, rfl, rfl, trivial⟩))) ?_
   rintro k62 ⟨i_4_60, o4_4_60, d_4_60, vs61⟩ h
   simp only [dF] at h
   refine aH ?_
   refine aH ?_
   refine aD ?_
   refine tr1 rfl (aC (v := .d (.lit (.int .i64 i_4_60))) (aA rfl) rfl rfl) ?_
   refine tr1 rfl (aC (v := .d (.sl 5 (r58.map aI))) (aA rfl) rfl rfl) ?_
   refine tr1 rfl (dM (aA rfl) rfl dH.of) ?_
   refine tr1 rfl (bM (aA rfl) rfl rfl rfl) ?_
   refine aF ?_
   refine bY rfl (fun c63 => ?_) (fun c63 => ?_)
   ·have h := aX c63 h
    refine bX ?_
    refine aH ?_
    refine cG ?_
    refine aH ?_
    refine aD ?_
    refine tr1 rfl (aC (v := .d (.sl 5 (r58.map aI))) (aA rfl) rfl rfl) ?_
    refine tr1 rfl (aC (v := .d (.lit (.int .i64 i_4_60))) (aA rfl) rfl rfl) ?_
    obtain ⟨x64, h65, h⟩ := bind_some h
    refine tr1 rfl (bQ (aA rfl) rfl rfl dH.of (bZ aI h65)) ?_
    refine tr1 rfl (gY (aA rfl) rfl iK (es := (aI x64)) rfl rfl) ?_
    refine cB rfl (eC (zs := [.lit (.int .i64 0), .lit (.int .i64 0), .lit (.int .i64 0), .lit (.int .i64 0), .lit (.int .i64 0)]) (aA rfl) Try.zeroValue32 rfl rfl) ?_
    rintro _ ⟨b66, rfl⟩
    refine tr1 rfl (cM (i := 4) rfl rfl rfl rfl rfl Try.sizeOf32 rfl (aA rfl) (Nat.le_of_ble_eq_true rfl) (ds' := (aI x64)) rfl) ?_
    refine aF ?_
    refine aH ?_
    refine aH ?_
    refine aD ?_
    refine tr1 rfl (aT (aA rfl) rfl iW) ?_
    refine tr1 rfl (aY (aA rfl) rfl (i := 4) rfl rfl bK) ?_
    refine tr1 rfl (bM (aA rfl) rfl rfl rfl) ?_
    refine aF ?_
    refine bY rfl (fun c67 => ?_) (fun c67 => ?_)
    ·have h := aX c67 h
     refine dC ?_
     refine .inl ⟨rfl, ?_⟩
     simp only [jE] at h
     refine aD ?_
     refine tr1 rfl (aC (v := .d (.lit (.int .i64 i_4_60))) (aA rfl) rfl rfl) ?_
     refine tr1 rfl (bR (aA rfl) rfl rfl rfl) ?_
     refine tr1 rfl (aK (v := .d (.lit (.int .i64 ((w64 (i_4_60 + 1)))))) (aA rfl) rfl rfl) ?_
     refine aF ?_
     exact ⟨(w64 (i_4_60 + 1), o4_4_60, d_4_60, vs61), h, bI [0, 1, 2, 3] rfl rfl (aU rfl (bD ⟨rfl, rfl, rfl, rfl, trivial⟩))⟩
    ·have h := aZ c67 h
     refine bX ?_
     refine aH ?_
     refine aH ?_
     refine aD ?_
     refine tr1 rfl (aK (v := .d (.lit (.int .i64 0))) (aA rfl) rfl rfl) ?_
     refine aF ?_
     refine cG ?_
     refine dN [4, 6, 8, 13, 14, 15] (fun (s68 : Int × aR) => [(16, .d (.lit (.int .i64 s68.1)))]) (fun (s68 : Int × aR) => [.box b2 0 (cN s68.2), .fam 3 1 vs61 (d_4_60.map fun r => r.map aO), .arr w9 22 1 (vs61.map fun v => [.lit v]), .box b6 0 [.sl 1 (d_0_7_2.map aO), .lit w9], .box b66 0 (aI x64)]) (fun (k : Nat) (s68 : Int × aR) => gD (dF r3.1 r58 d_0_7_2 k62) r3.1 r58 i_4_60 d_4_60 d_0_7_2 x64 k s68.1 s68.2) (fun _ => rfl) (0, o4_4_60) h (bI [0, 1, 2, 3, 4] rfl rfl (aU rfl (bD ⟨rfl, rfl, rfl, rfl, rfl, rfl, trivial⟩))) ?_
     rintro k69 ⟨k_6_68, o4_6_68⟩ h
     simp only [gD] at h
     refine aH ?_
     refine aH ?_
     refine aD ?_
     refine tr1 rfl (aC (v := .d (.lit (.int .i64 k_6_68))) (aA rfl) rfl rfl) ?_
     refine tr1 rfl (aC (v := .d (.lit (.int .i64 i_4_60))) (aA rfl) rfl rfl) ?_
     refine tr1 rfl (bM (aA rfl) rfl rfl rfl) ?_
     refine aF ?_
     refine bY rfl (fun c70 => ?_) (fun c70 => ?_)
     ·have h := aX c70 h
      refine bX ?_
      refine aH ?_
      refine cG ?_
      refine aH ?_
      refine aD ?_
      refine tr1 rfl (aC (v := .d (.sl 5 (r58.map aI))) (aA rfl) rfl rfl) ?_
      refine tr1 rfl (aC (v := .d (.lit (.int .i64 k_6_68))) (aA rfl) rfl rfl) ?_
      obtain ⟨x71, h72, h⟩ := bind_some h
      refine tr1 rfl (bQ (aA rfl) rfl rfl dH.of (bZ aI h72)) ?_
      refine tr1 rfl (gY (aA rfl) rfl iK (es := (aI x71)) rfl rfl) ?_
      refine cB rfl (eC (zs := [.lit (.int .i64 0), .lit (.int .i64 0), .lit (.int .i64 0), .lit (.int .i64 0), .lit (.int .i64 0)]) (aA rfl) Try.zeroValue32 rfl rfl) ?_
      rintro _ ⟨b73, rfl⟩
      refine tr1 rfl (cM (i := 5) rfl rfl rfl rfl rfl Try.sizeOf32 rfl (aA rfl) (Nat.le_of_ble_eq_true rfl) (ds' := (aI x71)) rfl) ?_
      refine aF ?_
      refine aH ?_
      refine aD ?_
      refine tr1 rfl (aT (aA rfl) rfl iW) ?_
      refine tr1 rfl (aY (aA rfl) rfl (i := 5) rfl rfl bK) ?_
      refine tr1 rfl (bM (aA rfl) rfl rfl rfl) ?_
      refine tr1 rfl (aC (v := .d (.lit (.bool ((!decide (x71.Kind = 5)))))) (aA rfl) rfl rfl) ?_
      obtain ⟨b74, h75, h⟩ := bind_some h
      refine bU 6 [4, 6, 8, 13, 14, 15, 16, 17] 121 b74 ?_ ?_
      ·refine bE (!decide (x71.Kind = 5)) (fun c80 => ?_) (fun c80 => ?_)
       ·have h75 := aX c80 h75
        refine aL rfl rfl (aA rfl) rfl c80 (aT (aA rfl) rfl iX) ?_
        refine aL rfl rfl (aA rfl) rfl c80 (aY (aA rfl) rfl (i := 5) rfl rfl bK) ?_
        refine aL rfl rfl (aA rfl) rfl c80 (aT (aA rfl) rfl iX) ?_
        refine aL rfl rfl (aA rfl) rfl c80 (aY (aA rfl) rfl (i := 4) rfl rfl bK) ?_
        refine aL rfl rfl (aA rfl) rfl c80 (bM (aA rfl) rfl rfl rfl) ?_
        refine tr1 rfl (bJ (v := .d (.lit (.bool ((decide (x71.Round = x64.Round)))))) (aA rfl) rfl c80 rfl rfl) ?_
        have h75 := Option.some.inj h75
        subst h75
        refine aF (aW rfl ⟨rfl, rfl, rfl, rfl, rfl, rfl, rfl, rfl, trivial⟩ rfl)
       ·have h75 := aZ c80 h75
        refine aN rfl rfl (aA rfl) rfl (aA rfl) rfl c80 ?_
        refine aN rfl rfl (aA rfl) rfl (aA rfl) rfl c80 ?_
        refine aN rfl rfl (aA rfl) rfl (aA rfl) rfl c80 ?_
        refine aN rfl rfl (aA rfl) rfl (aA rfl) rfl c80 ?_
        refine aN rfl rfl (aA rfl) rfl (aA rfl) rfl c80 ?_
        refine tr1 rfl (bL (v := .d (.lit (.bool false))) (aA rfl) rfl c80 rfl rfl) ?_
        have h75 := Option.some.inj h75
        subst h75
        refine aF (aW rfl ⟨rfl, rfl, rfl, rfl, rfl, rfl, rfl, rfl, trivial⟩ rfl)
      ·refine tr1 rfl (aC (v := .d (.lit (.bool b74))) (aA rfl) rfl rfl) ?_
       obtain ⟨b76, h77, h⟩ := bind_some h
       refine bU 6 [4, 6, 8, 13, 14, 15, 16] 128 b76 ?_ ?_
       ·refine bE (b74) (fun c79 => ?_) (fun c79 => ?_)
        ·have h77 := aX c79 h77
         refine aL rfl rfl (aA rfl) rfl c79 (aT (aA rfl) rfl iH) ?_
         refine aL rfl rfl (aA rfl) rfl c79 (aY (aA rfl) rfl (i := 5) rfl rfl bK) ?_
         refine aL rfl rfl (aA rfl) rfl c79 (aT (aA rfl) rfl iH) ?_
         refine aL rfl rfl (aA rfl) rfl c79 (aY (aA rfl) rfl (i := 4) rfl rfl bK) ?_
         refine aL rfl rfl (aA rfl) rfl c79 (bM (aA rfl) rfl rfl rfl) ?_
         refine tr1 rfl (bJ (v := .d (.lit (.bool ((decide (x71.Place = x64.Place)))))) (aA rfl) rfl c79 rfl rfl) ?_
         have h77 := Option.some.inj h77
         subst h77
         refine aF (aW rfl ⟨rfl, rfl, rfl, rfl, rfl, rfl, rfl, trivial⟩ rfl)
        ·have h77 := aZ c79 h77
         refine aN rfl rfl (aA rfl) rfl (aA rfl) rfl c79 ?_
         refine aN rfl rfl (aA rfl) rfl (aA rfl) rfl c79 ?_
         refine aN rfl rfl (aA rfl) rfl (aA rfl) rfl c79 ?_
         refine aN rfl rfl (aA rfl) rfl (aA rfl) rfl c79 ?_
         refine aN rfl rfl (aA rfl) rfl (aA rfl) rfl c79 ?_
         refine tr1 rfl (bL (v := .d (.lit (.bool false))) (aA rfl) rfl c79 rfl rfl) ?_
         have h77 := Option.some.inj h77
         subst h77
         refine aF (aW rfl ⟨rfl, rfl, rfl, rfl, rfl, rfl, rfl, trivial⟩ rfl)
       ·refine aF ?_
        refine bY rfl (fun c78 => ?_) (fun c78 => ?_)
        ·have h := aX c78 h
         refine aH ?_
         refine aD ?_
         refine tr1 rfl (eZ (aA rfl) xT (zs := [.sl 1 ((([] : List Int)).map aO), .sl 1 ((([] : List (List Int))).map lJ)]) rfl rfl rfl rfl (es := [.sl 1 ((([] : List Int)).map aO), .sl 1 ((([] : List (List Int))).map lJ)]) rfl) ?_
         refine tr1 rfl (cM (i := 0) rfl rfl rfl rfl rfl Try.sizeOf89 rfl (aA rfl) (Nat.le_of_ble_eq_true rfl) (ds' := (cN (aR.mk ([] : List Int) ([] : List (List Int))))) rfl) ?_
         refine tr1 rfl (aK (v := .d (.lit (.bool false))) (aA rfl) rfl rfl) ?_
         refine aF ?_
         have h := Option.some.inj h
         subst h
         exact bV ⟨rfl, _, [.box b2 0 (cN (aR.mk ([] : List Int) ([] : List (List Int)))), .fam 3 1 vs61 (d_4_60.map fun r => r.map aO), .arr w9 22 1 (vs61.map fun v => [.lit v]), .box b6 0 [.sl 1 (d_0_7_2.map aO), .lit w9], .box b66 0 (aI x64), .box b73 0 (aI x71)], .two (.cell 4 89 rfl (i := 0) rfl uM (es := (cN (aR.mk ([] : List Int) ([] : List (List Int))))) rfl rfl) (.tmp 5 (v := .d (.lit (.bool false))) rfl), .refl _, .same _⟩
        ·have h := aZ c78 h
         refine fD ?_
         refine aD ?_
         refine tr1 rfl (aC (v := .d (.lit (.int .i64 k_6_68))) (aA rfl) rfl rfl) ?_
         refine tr1 rfl (bR (aA rfl) rfl rfl rfl) ?_
         refine tr1 rfl (aK (v := .d (.lit (.int .i64 ((w64 (k_6_68 + 1)))))) (aA rfl) rfl rfl) ?_
         refine aF ?_
         exact ⟨(w64 (k_6_68 + 1), o4_6_68), h, bI [0, 1, 2, 3, 4] rfl rfl (aU rfl (bD ⟨rfl, rfl, rfl, rfl, rfl, rfl, trivial⟩))⟩
     ·have h := aZ c70 h
      refine dC ?_
      refine .inl ⟨rfl, ?_⟩
      simp only [lZ] at h
      refine aH ?_
      refine aD ?_
      refine tr1 rfl (aK (v := .d (.lit (.int .i64 (-1)))) (aA rfl) rfl rfl) ?_
      refine aF ?_
      refine aH ?_
      refine aH ?_
      refine aD ?_
      refine tr1 rfl (aK (v := .d (.lit (.int .i64 0))) (aA rfl) rfl rfl) ?_
      refine aF ?_
      refine cG ?_
      refine dN [4, 6, 8, 13, 14, 15] (fun (s81 : Int × Int) => [(18, .d (.lit (.int .i64 s81.1))), (19, .d (.lit (.int .i64 s81.2)))]) (fun (s81 : Int × Int) => [.box b2 0 (cN o4_6_68), .fam 3 1 vs61 (d_4_60.map fun r => r.map aO), .arr w9 22 1 (vs61.map fun v => [.lit v]), .box b6 0 [.sl 1 (d_0_7_2.map aO), .lit w9], .box b66 0 (aI x64)]) (fun (k : Nat) (s81 : Int × Int) => dR (dF r3.1 r58 d_0_7_2 k62) r3.1 r58 i_4_60 o4_6_68 d_4_60 d_0_7_2 x64 k s81.1 s81.2) (fun _ => rfl) ((-1), 0) h (bI [0, 1, 2, 3, 4] rfl rfl (aU rfl (aU rfl (bD ⟨rfl, rfl, rfl, rfl, rfl, rfl, trivial⟩)))) ?_
      rintro k82 ⟨atv_8_81, s_8_81⟩ h
      simp only [dR] at h
      refine aH ?_
      refine aH ?_
      refine aD ?_
      refine tr1 rfl (aC (v := .d (.lit (.int .i64 s_8_81))) (aA rfl) rfl rfl) ?_
      refine tr1 rfl (aC (v := .d (.sl 1 (r3.1.map aO))) (aA rfl) rfl rfl) ?_
      refine tr1 rfl (dM (aA rfl) rfl cC.of) ?_
      refine tr1 rfl (bM (aA rfl) rfl rfl rfl) ?_
      refine aF ?_
      refine bY rfl (fun c83 => ?_) (fun c83 => ?_)
      ·have h := aX c83 h
       refine bX ?_
       refine aH ?_
       refine cG ?_
       refine aH ?_
       obtain ⟨x84, h85, h⟩ := bind_some h
       refine dZ mix 6 [4, 6, 8, 13, 14, 15, 18, 19] [(139, .d (.lit (.int .i64 x84))), (141, .d (.lit (.int .i64 x64.Player)))] ?_ ?_
       ·refine ⟨[(136, 0, .d (.sl 1 (r3.1.map aO))), (137, 1, .d (.lit (.int .i64 s_8_81))), (138, 2, .cp [.lit (.int .i64 x84)]), (139, 3, .d (.lit (.int .i64 x84))), (140, 4, .bp b66 0 3), (141, 5, .d (.lit (.int .i64 x64.Player)))], ?_, ?_⟩
        · exact ⟨by kernel_rfl, by kernel_rfl, by kernel_rfl, by kernel_rfl, by kernel_rfl, [([], []), ([], []), ([0, 1], []), ([2], []), ([], []), ([4], [])], by kernel_rfl, ⟨fun S hS => aG rfl (aV rfl (aC (v := .d (.sl 1 (r3.1.map aO))) (aA rfl) (aJ hS rfl) rfl)),
      fun S hS => aG rfl (aV rfl (aC (v := .d (.lit (.int .i64 s_8_81))) (aA rfl) (aJ hS rfl) rfl)),
      fun S hS => aG rfl (aV rfl (bQ (aA rfl) (aJ hS rfl) (aJ hS rfl) cC.of (bZ aO h85))),
      fun S hS => aG rfl (aV rfl (bT (aA rfl) (aJ hS rfl) bK)),
      fun S hS => aG rfl (aV rfl (aT (aA rfl) (aJ hS rfl) mG)),
      fun S hS => aG rfl (aV rfl (aY (aA rfl) (aJ hS rfl) (i := 4) rfl rfl bK)), trivial⟩⟩
        · exact cZ (aU rfl (aU rfl (bD ⟨rfl, rfl, rfl, rfl, rfl, rfl, rfl, rfl, trivial⟩)))
       ·refine tr1 rfl (bM (aA rfl) rfl rfl rfl) ?_
        refine aF ?_
        refine bY rfl (fun c86 => ?_) (fun c86 => ?_)
        ·have h := aX c86 h
         refine aD ?_
         refine tr1 rfl (aC (v := .d (.lit (.int .i64 s_8_81))) (aA rfl) rfl rfl) ?_
         refine tr1 rfl (aK (v := .d (.lit (.int .i64 s_8_81))) (aA rfl) rfl rfl) ?_
         refine fF ?_
         refine aD ?_
         refine tr1 rfl (aC (v := .d (.lit (.int .i64 s_8_81))) (aA rfl) rfl rfl) ?_
         refine tr1 rfl (bR (aA rfl) rfl rfl rfl) ?_
         refine tr1 rfl (aK (v := .d (.lit (.int .i64 ((w64 (s_8_81 + 1)))))) (aA rfl) rfl rfl) ?_
         refine aF ?_
         exact ⟨(s_8_81, w64 (s_8_81 + 1)), h, bI [0, 1, 2, 3, 4] rfl rfl (aU rfl (aU rfl (bD ⟨rfl, rfl, rfl, rfl, rfl, rfl, trivial⟩)))⟩
        ·have h := aZ c86 h
         refine fD ?_
         refine aD ?_
         refine tr1 rfl (aC (v := .d (.lit (.int .i64 s_8_81))) (aA rfl) rfl rfl) ?_
         refine tr1 rfl (bR (aA rfl) rfl rfl rfl) ?_
         refine tr1 rfl (aK (v := .d (.lit (.int .i64 ((w64 (s_8_81 + 1)))))) (aA rfl) rfl rfl) ?_
         refine aF ?_
         exact ⟨(atv_8_81, w64 (s_8_81 + 1)), h, bI [0, 1, 2, 3, 4] rfl rfl (aU rfl (aU rfl (bD ⟨rfl, rfl, rfl, rfl, rfl, rfl, trivial⟩)))⟩
      ·have h := aZ c83 h
       refine dC ?_
       refine .inl ⟨rfl, ?_⟩
       simp only [gC] at h
       refine aH ?_
       refine aH ?_
       refine aD ?_
       refine tr1 rfl (aC (v := .d (.lit (.int .i64 atv_8_81))) (aA rfl) rfl rfl) ?_
       refine tr1 rfl (bM (aA rfl) rfl rfl rfl) ?_
       refine tr1 rfl (aC (v := .d (.lit (.bool ((decide (atv_8_81 < 0)))))) (aA rfl) rfl rfl) ?_
       obtain ⟨b87, h88, h⟩ := bind_some h
       refine bU 10 [4, 6, 8, 13, 14, 15, 18] 156 b87 ?_ ?_
       ·refine bE (decide (atv_8_81 < 0)) (fun c112 => ?_) (fun c112 => ?_)
        ·have h88 := aX c112 h88
         refine aN rfl rfl (aA rfl) rfl (aA rfl) rfl c112 ?_
         refine aN rfl rfl (aA rfl) rfl (aA rfl) rfl c112 ?_
         refine aN rfl rfl (aA rfl) rfl (aA rfl) rfl c112 ?_
         refine aN rfl rfl (aA rfl) rfl (aA rfl) rfl c112 ?_
         refine aN rfl rfl (aA rfl) rfl (aA rfl) rfl c112 ?_
         refine aN rfl rfl (aA rfl) rfl (aA rfl) rfl c112 ?_
         refine aN rfl rfl (aA rfl) rfl (aA rfl) rfl c112 ?_
         refine aN rfl rfl (aA rfl) rfl (aA rfl) rfl c112 ?_
         refine aN rfl rfl (aA rfl) rfl (aA rfl) rfl c112 ?_
         refine tr1 rfl (bJ (v := .d (.lit (.bool true))) (aA rfl) rfl c112 rfl rfl) ?_
         have h88 := Option.some.inj h88
         subst h88
         refine aF (aW rfl ⟨rfl, rfl, rfl, rfl, rfl, rfl, rfl, trivial⟩ rfl)
        ·have h88 := aZ c112 h88
         refine aL rfl rfl (aA rfl) rfl c112 (aC (v := .d (.lit (.int .i64 atv_8_81))) (aA rfl) rfl rfl) ?_
         refine aL rfl rfl (aA rfl) rfl c112 (aT (aA rfl) rfl iX) ?_
         refine aL rfl rfl (aA rfl) rfl c112 (aY (aA rfl) rfl (i := 4) rfl rfl bK) ?_
         refine aL rfl rfl (aA rfl) rfl c112 (bR (aA rfl) rfl rfl rfl) ?_
         refine aL rfl rfl (aA rfl) rfl c112 (aAq (aA rfl) rfl Try.runUnderlying3 Try.runUnderlying45) ?_
         obtain ⟨u113, h114, h88⟩ := bind_some h88
         refine aL rfl rfl (aA rfl) rfl c112 (aAs (aA rfl) rfl rfl (tQ h114)) ?_
         refine aL rfl rfl (aA rfl) rfl c112 (aT (aA rfl) rfl iH) ?_
         refine aL rfl rfl (aA rfl) rfl c112 (aY (aA rfl) rfl (i := 4) rfl rfl bK) ?_
         refine aL rfl rfl (aA rfl) rfl c112 (bM (aA rfl) rfl rfl rfl) ?_
         refine tr1 rfl (bL (v := .d (.lit (.bool ((!decide ((atv_8_81.fdiv (2 ^ (min (IntKind.u64.wrap (w64 (x64.Round + 1))).toNat 64))) = x64.Place)))))) (aA rfl) rfl c112 rfl rfl) ?_
         have h88 := Option.some.inj h88
         subst h88
         refine aF (aW rfl ⟨rfl, rfl, rfl, rfl, rfl, rfl, rfl, trivial⟩ rfl)
       ·refine aF ?_
        refine bY rfl (fun c89 => ?_) (fun c89 => ?_)
        ·have h := aX c89 h
         refine aH ?_
         refine aD ?_
         refine tr1 rfl (eZ (aA rfl) xT (zs := [.sl 1 ((([] : List Int)).map aO), .sl 1 ((([] : List (List Int))).map lJ)]) rfl rfl rfl rfl (es := [.sl 1 ((([] : List Int)).map aO), .sl 1 ((([] : List (List Int))).map lJ)]) rfl) ?_
         refine tr1 rfl (cM (i := 0) rfl rfl rfl rfl rfl Try.sizeOf89 rfl (aA rfl) (Nat.le_of_ble_eq_true rfl) (ds' := (cN (aR.mk ([] : List Int) ([] : List (List Int))))) rfl) ?_
         refine tr1 rfl (aK (v := .d (.lit (.bool false))) (aA rfl) rfl rfl) ?_
         refine aF ?_
         have h := Option.some.inj h
         subst h
         exact bV ⟨rfl, _, [.box b2 0 (cN (aR.mk ([] : List Int) ([] : List (List Int)))), .fam 3 1 vs61 (d_4_60.map fun r => r.map aO), .arr w9 22 1 (vs61.map fun v => [.lit v]), .box b6 0 [.sl 1 (d_0_7_2.map aO), .lit w9], .box b66 0 (aI x64)], .two (.cell 4 89 rfl (i := 0) rfl uM (es := (cN (aR.mk ([] : List Int) ([] : List (List Int))))) rfl rfl) (.tmp 5 (v := .d (.lit (.bool false))) rfl), .refl _, .same _⟩
        ·have h := aZ c89 h
         refine bX ?_
         refine aH ?_
         refine aD ?_
         refine tr1 rfl (aK (v := .d (.lit (.int .i64 0))) (aA rfl) rfl rfl) ?_
         refine aF ?_
         refine yB ?_
         refine dN [4, 6, 8, 13, 14, 15, 18] (fun (s90 : Int × aR × (List (List Int)) × (List Value)) => [(20, .d (.lit (.int .i64 s90.1)))]) (fun (s90 : Int × aR × (List (List Int)) × (List Value)) => [.box b2 0 (cN s90.2.1), .fam 3 1 s90.2.2.2 (s90.2.2.1.map fun r => r.map aO), .arr w9 22 1 (s90.2.2.2.map fun v => [.lit v]), .box b6 0 [.sl 1 (d_0_7_2.map aO), .lit w9], .box b66 0 (aI x64)]) (fun (k : Nat) (s90 : Int × aR × (List (List Int)) × (List Value)) => fT (dF r3.1 r58 d_0_7_2 k62) r3.1 r58 i_4_60 atv_8_81 d_0_7_2 x64 k s90.1 s90.2.1 s90.2.2.1) (fun _ => rfl) (0, o4_6_68, d_4_60, vs61) h (bI [0, 1, 2, 3, 4] rfl rfl (aU rfl (bD ⟨rfl, rfl, rfl, rfl, rfl, rfl, rfl, trivial⟩))) ?_
         rintro k92 ⟨r_10_90, o4_10_90, d_10_90, vs91⟩ h
         simp only [fT] at h
         refine aH ?_
         refine aH ?_
         refine aD ?_
         refine tr1 rfl (aC (v := .d (.lit (.int .i64 r_10_90))) (aA rfl) rfl rfl) ?_
         refine tr1 rfl (aT (aA rfl) rfl iX) ?_
         refine tr1 rfl (aY (aA rfl) rfl (i := 4) rfl rfl bK) ?_
         refine tr1 rfl (bM (aA rfl) rfl rfl rfl) ?_
         refine aF ?_
         refine bY rfl (fun c93 => ?_) (fun c93 => ?_)
         ·have h := aX c93 h
          refine bX ?_
          refine aH ?_
          refine cG ?_
          refine aH ?_
          refine aD ?_
          refine tr1 rfl (aC (v := .d (.lit (.int .i64 atv_8_81))) (aA rfl) rfl rfl) ?_
          refine tr1 rfl (aC (v := .d (.lit (.int .i64 r_10_90))) (aA rfl) rfl rfl) ?_
          refine tr1 rfl (bR (aA rfl) rfl rfl rfl) ?_
          refine tr1 rfl (aAq (aA rfl) rfl Try.runUnderlying3 Try.runUnderlying45) ?_
          obtain ⟨u94, h95, h⟩ := bind_some h
          refine tr1 rfl (aAs (aA rfl) rfl rfl (tQ h95)) ?_
          refine tr1 rfl (aK (v := .d (.lit (.int .i64 ((atv_8_81.fdiv (2 ^ (min (IntKind.u64.wrap (w64 (r_10_90 + 1))).toNat 64))))))) (aA rfl) rfl rfl) ?_
          refine aF ?_
          refine aH ?_
          refine aH ?_
          obtain ⟨x96, h97, h⟩ := bind_some h
          obtain ⟨x98, h99, h⟩ := bind_some h
          obtain ⟨b100, h101, h⟩ := bind_some h
          refine dZ mix 22 [4, 6, 8, 13, 14, 15, 18, 20, 21] [(190, .d (.lit (.bool b100)))] ?_ ?_
          ·refine bE (!decide (x98 = (-2))) (fun c102 => ?_) (fun c102 => ?_)
           ·have h101 := aX c102 h101
            obtain ⟨x103, h104, h101⟩ := bind_some h101
            obtain ⟨x105, h106, h101⟩ := bind_some h101
            have h101 := Option.some.inj h101
            subst h101
            refine ⟨[(169, 0, .bp b6 0 1), (170, 1, .d (.lit w9)), (171, 2, .d (.lit (.int .i64 r_10_90))), (172, 3, .ep w9 1 r_10_90.toNat 0), (173, 4, .d (.lit (pL vs91 r_10_90))), (174, 5, .d (.lit (.int .i64 ((atv_8_81.fdiv (2 ^ (min (IntKind.u64.wrap (w64 (r_10_90 + 1))).toNat 64))))))), (175, 6, .ep (pL vs91 r_10_90) 1 (atv_8_81.fdiv (2 ^ (min (IntKind.u64.wrap (w64 (r_10_90 + 1))).toNat 64))).toNat 0), (176, 7, .d (.lit (.int .i64 x98))), (177, 8, .d (.lit (.bool ((!decide (x98 = (-2))))))), (178, 9, .d (.lit (.bool ((!decide (x98 = (-2))))))), (179, 10, .bp b6 0 1), (180, 11, .d (.lit w9)), (181, 12, .d (.lit (.int .i64 r_10_90))), (182, 13, .ep w9 1 r_10_90.toNat 0), (183, 14, .d (.lit (pL vs91 r_10_90))), (184, 15, .d (.lit (.int .i64 ((atv_8_81.fdiv (2 ^ (min (IntKind.u64.wrap (w64 (r_10_90 + 1))).toNat 64))))))), (185, 16, .ep (pL vs91 r_10_90) 1 (atv_8_81.fdiv (2 ^ (min (IntKind.u64.wrap (w64 (r_10_90 + 1))).toNat 64))).toNat 0), (186, 17, .d (.lit (.int .i64 x105))), (187, 18, .bp b66 0 3), (188, 19, .d (.lit (.int .i64 x64.Player))), (189, 20, .d (.lit (.bool ((!decide (x105 = x64.Player)))))), (190, 21, .d (.lit (.bool ((!decide (x105 = x64.Player))))))], ?_, ?_⟩
            · exact ⟨by kernel_rfl, by kernel_rfl, by kernel_rfl, by kernel_rfl, by kernel_rfl, [([], []), ([0], []), ([], []), ([1, 2], []), ([3], []), ([], []), ([4, 5], []), ([6], []), ([7], []), ([8], []), ([9], []), ([9, 10], []), ([9], []), ([9, 11, 12], []), ([9, 13], []), ([9], []), ([9, 14, 15], []), ([9, 16], []), ([9], []), ([9, 18], []), ([9, 17, 19], []), ([9, 20], [])], by kernel_rfl, ⟨fun S hS => aG rfl (aV rfl (aT (aA rfl) (aJ hS rfl) rD)),
      fun S hS => aG rfl (aV rfl (aY (aA rfl) (aJ hS rfl) (i := 3) rfl rfl xL)),
      fun S hS => aG rfl (aV rfl (aC (v := .d (.lit (.int .i64 r_10_90))) (aA rfl) (aJ hS rfl) rfl)),
      fun S hS => aG rfl (aV rfl (qJ (m := 2) (f := 1) (aA rfl) (aJ hS rfl) rfl rfl (aJ hS rfl) yA.of h97)),
      fun S hS => aG rfl (aV rfl (rL (m := 2) (f := 1) (aA rfl) (aJ hS rfl) rfl rfl h97 dB)),
      fun S hS => aG rfl (aV rfl (aC (v := .d (.lit (.int .i64 ((atv_8_81.fdiv (2 ^ (min (IntKind.u64.wrap (w64 (r_10_90 + 1))).toNat 64))))))) (aA rfl) (aJ hS rfl) rfl)),
      fun S hS => aG rfl (aV rfl (rK (f := 1) (g := aO) (aA rfl) (aJ hS rfl) rfl h97 (aJ hS rfl) cC.of h99)),
      fun S hS => aG rfl (aV rfl (wB (f := 1) (g := aO) (aA rfl) (aJ hS rfl) rfl h97 h99 rfl bK)),
      fun S hS => aG rfl (aV rfl (bM (aA rfl) (aJ hS rfl) rfl rfl)),
      fun S hS => aG rfl (aV rfl (aC (v := .d (.lit (.bool ((!decide (x98 = (-2))))))) (aA rfl) (aJ hS rfl) rfl)),
      fun S hS => aG rfl (bA rfl rfl (aA rfl) (aQ hS rfl) c102 (aT (aA rfl) (aJ hS rfl) rD)),
      fun S hS => aG rfl (bA rfl rfl (aA rfl) (aQ hS rfl) c102 (aY (aA rfl) (aJ hS rfl) (i := 3) rfl rfl xL)),
      fun S hS => aG rfl (bA rfl rfl (aA rfl) (aQ hS rfl) c102 (aC (v := .d (.lit (.int .i64 r_10_90))) (aA rfl) (aJ hS rfl) rfl)),
      fun S hS => aG rfl (bA rfl rfl (aA rfl) (aQ hS rfl) c102 (qJ (m := 2) (f := 1) (aA rfl) (aJ hS rfl) rfl rfl (aJ hS rfl) yA.of h104)),
      fun S hS => aG rfl (bA rfl rfl (aA rfl) (aQ hS rfl) c102 (rL (m := 2) (f := 1) (aA rfl) (aJ hS rfl) rfl rfl h104 dB)),
      fun S hS => aG rfl (bA rfl rfl (aA rfl) (aQ hS rfl) c102 (aC (v := .d (.lit (.int .i64 ((atv_8_81.fdiv (2 ^ (min (IntKind.u64.wrap (w64 (r_10_90 + 1))).toNat 64))))))) (aA rfl) (aJ hS rfl) rfl)),
      fun S hS => aG rfl (bA rfl rfl (aA rfl) (aQ hS rfl) c102 (rK (f := 1) (g := aO) (aA rfl) (aJ hS rfl) rfl h104 (aJ hS rfl) cC.of h106)),
      fun S hS => aG rfl (bA rfl rfl (aA rfl) (aQ hS rfl) c102 (wB (f := 1) (g := aO) (aA rfl) (aJ hS rfl) rfl h104 h106 rfl bK)),
      fun S hS => aG rfl (bA rfl rfl (aA rfl) (aQ hS rfl) c102 (aT (aA rfl) (aJ hS rfl) mG)),
      fun S hS => aG rfl (bA rfl rfl (aA rfl) (aQ hS rfl) c102 (aY (aA rfl) (aJ hS rfl) (i := 4) rfl rfl bK)),
      fun S hS => aG rfl (bA rfl rfl (aA rfl) (aQ hS rfl) c102 (bM (aA rfl) (aJ hS rfl) (aJ hS rfl) rfl)),
      fun S hS => aG rfl (aV rfl (bJ (v := .d (.lit (.bool ((!decide (x105 = x64.Player)))))) (aA rfl) (aJ hS rfl) c102 (aJ hS rfl) rfl)), trivial⟩⟩
            · exact cZ (aU rfl (bD ⟨rfl, rfl, rfl, rfl, rfl, rfl, rfl, rfl, rfl, trivial⟩))
           ·have h101 := aZ c102 h101
            have h101 := Option.some.inj h101
            subst h101
            refine ⟨[(169, 0, .bp b6 0 1), (170, 1, .d (.lit w9)), (171, 2, .d (.lit (.int .i64 r_10_90))), (172, 3, .ep w9 1 r_10_90.toNat 0), (173, 4, .d (.lit (pL vs91 r_10_90))), (174, 5, .d (.lit (.int .i64 ((atv_8_81.fdiv (2 ^ (min (IntKind.u64.wrap (w64 (r_10_90 + 1))).toNat 64))))))), (175, 6, .ep (pL vs91 r_10_90) 1 (atv_8_81.fdiv (2 ^ (min (IntKind.u64.wrap (w64 (r_10_90 + 1))).toNat 64))).toNat 0), (176, 7, .d (.lit (.int .i64 x98))), (177, 8, .d (.lit (.bool ((!decide (x98 = (-2))))))), (178, 9, .d (.lit (.bool ((!decide (x98 = (-2))))))), (179, 10, .tup []), (180, 11, .tup []), (181, 12, .tup []), (182, 13, .tup []), (183, 14, .tup []), (184, 15, .tup []), (185, 16, .tup []), (186, 17, .tup []), (187, 18, .tup []), (188, 19, .tup []), (189, 20, .tup []), (190, 21, .d (.lit (.bool false)))], ?_, ?_⟩
            · exact ⟨by kernel_rfl, by kernel_rfl, by kernel_rfl, by kernel_rfl, by kernel_rfl, [([], []), ([0], []), ([], []), ([1, 2], []), ([3], []), ([], []), ([4, 5], []), ([6], []), ([7], []), ([8], []), ([9], []), ([9, 10], []), ([9], []), ([9, 11, 12], []), ([9, 13], []), ([9], []), ([9, 14, 15], []), ([9, 16], []), ([9], []), ([9, 18], []), ([9, 17, 19], []), ([9, 20], [])], by kernel_rfl, ⟨fun S hS => aG rfl (aV rfl (aT (aA rfl) (aJ hS rfl) rD)),
      fun S hS => aG rfl (aV rfl (aY (aA rfl) (aJ hS rfl) (i := 3) rfl rfl xL)),
      fun S hS => aG rfl (aV rfl (aC (v := .d (.lit (.int .i64 r_10_90))) (aA rfl) (aJ hS rfl) rfl)),
      fun S hS => aG rfl (aV rfl (qJ (m := 2) (f := 1) (aA rfl) (aJ hS rfl) rfl rfl (aJ hS rfl) yA.of h97)),
      fun S hS => aG rfl (aV rfl (rL (m := 2) (f := 1) (aA rfl) (aJ hS rfl) rfl rfl h97 dB)),
      fun S hS => aG rfl (aV rfl (aC (v := .d (.lit (.int .i64 ((atv_8_81.fdiv (2 ^ (min (IntKind.u64.wrap (w64 (r_10_90 + 1))).toNat 64))))))) (aA rfl) (aJ hS rfl) rfl)),
      fun S hS => aG rfl (aV rfl (rK (f := 1) (g := aO) (aA rfl) (aJ hS rfl) rfl h97 (aJ hS rfl) cC.of h99)),
      fun S hS => aG rfl (aV rfl (wB (f := 1) (g := aO) (aA rfl) (aJ hS rfl) rfl h97 h99 rfl bK)),
      fun S hS => aG rfl (aV rfl (bM (aA rfl) (aJ hS rfl) rfl rfl)),
      fun S hS => aG rfl (aV rfl (aC (v := .d (.lit (.bool ((!decide (x98 = (-2))))))) (aA rfl) (aJ hS rfl) rfl)),
      fun S hS => aG rfl (bG rfl rfl (aA rfl) rfl (aA rfl) (aQ hS rfl) c102),
      fun S hS => aG rfl (bG rfl rfl (aA rfl) rfl (aA rfl) (aQ hS rfl) c102),
      fun S hS => aG rfl (bG rfl rfl (aA rfl) rfl (aA rfl) (aQ hS rfl) c102),
      fun S hS => aG rfl (bG rfl rfl (aA rfl) rfl (aA rfl) (aQ hS rfl) c102),
      fun S hS => aG rfl (bG rfl rfl (aA rfl) rfl (aA rfl) (aQ hS rfl) c102),
      fun S hS => aG rfl (bG rfl rfl (aA rfl) rfl (aA rfl) (aQ hS rfl) c102),
      fun S hS => aG rfl (bG rfl rfl (aA rfl) rfl (aA rfl) (aQ hS rfl) c102),
      fun S hS => aG rfl (bG rfl rfl (aA rfl) rfl (aA rfl) (aQ hS rfl) c102),
      fun S hS => aG rfl (bG rfl rfl (aA rfl) rfl (aA rfl) (aQ hS rfl) c102),
      fun S hS => aG rfl (bG rfl rfl (aA rfl) rfl (aA rfl) (aQ hS rfl) c102),
      fun S hS => aG rfl (bG rfl rfl (aA rfl) rfl (aA rfl) (aQ hS rfl) c102),
      fun S hS => aG rfl (aV rfl (bL (v := .d (.lit (.bool false))) (aA rfl) (aJ hS rfl) c102 rfl rfl)), trivial⟩⟩
            · exact cZ (aU rfl (bD ⟨rfl, rfl, rfl, rfl, rfl, rfl, rfl, rfl, rfl, trivial⟩))
          ·refine aF ?_
           refine bY rfl (fun c107 => ?_) (fun c107 => ?_)
           ·have h := aX c107 h
            refine aH ?_
            refine aD ?_
            refine tr1 rfl (eZ (aA rfl) xT (zs := [.sl 1 ((([] : List Int)).map aO), .sl 1 ((([] : List (List Int))).map lJ)]) rfl rfl rfl rfl (es := [.sl 1 ((([] : List Int)).map aO), .sl 1 ((([] : List (List Int))).map lJ)]) rfl) ?_
            refine tr1 rfl (cM (i := 0) rfl rfl rfl rfl rfl Try.sizeOf89 rfl (aA rfl) (Nat.le_of_ble_eq_true rfl) (ds' := (cN (aR.mk ([] : List Int) ([] : List (List Int))))) rfl) ?_
            refine tr1 rfl (aK (v := .d (.lit (.bool false))) (aA rfl) rfl rfl) ?_
            refine aF ?_
            have h := Option.some.inj h
            subst h
            exact bV ⟨rfl, _, [.box b2 0 (cN (aR.mk ([] : List Int) ([] : List (List Int)))), .fam 3 1 vs91 (d_10_90.map fun r => r.map aO), .arr w9 22 1 (vs91.map fun v => [.lit v]), .box b6 0 [.sl 1 (d_0_7_2.map aO), .lit w9], .box b66 0 (aI x64)], .two (.cell 4 89 rfl (i := 0) rfl uM (es := (cN (aR.mk ([] : List Int) ([] : List (List Int))))) rfl rfl) (.tmp 5 (v := .d (.lit (.bool false))) rfl), .refl _, .same _⟩
           ·have h := aZ c107 h
            refine bX ?_
            obtain ⟨x108, h109, h⟩ := bind_some h
            refine dZ mix 8 [4, 6, 8, 13, 14, 15, 18, 20] [(196, .d (.lit (pL vs91 r_10_90))), (197, .d (.lit (.int .i64 ((atv_8_81.fdiv (2 ^ (min (IntKind.u64.wrap (w64 (r_10_90 + 1))).toNat 64))))))), (199, .d (.lit (.int .i64 x64.Player)))] ?_ ?_
            ·refine ⟨[(192, 0, .bp b6 0 1), (193, 1, .d (.lit w9)), (194, 2, .d (.lit (.int .i64 r_10_90))), (195, 3, .ep w9 1 r_10_90.toNat 0), (196, 4, .d (.lit (pL vs91 r_10_90))), (197, 5, .d (.lit (.int .i64 ((atv_8_81.fdiv (2 ^ (min (IntKind.u64.wrap (w64 (r_10_90 + 1))).toNat 64))))))), (198, 6, .bp b66 0 3), (199, 7, .d (.lit (.int .i64 x64.Player)))], ?_, ?_⟩
             · exact ⟨by kernel_rfl, by kernel_rfl, by kernel_rfl, by kernel_rfl, by kernel_rfl, [([], []), ([0], []), ([], []), ([1, 2], []), ([3], []), ([], []), ([], []), ([6], [])], by kernel_rfl, ⟨fun S hS => aG rfl (aV rfl (aT (aA rfl) (aJ hS rfl) rD)),
      fun S hS => aG rfl (aV rfl (aY (aA rfl) (aJ hS rfl) (i := 3) rfl rfl xL)),
      fun S hS => aG rfl (aV rfl (aC (v := .d (.lit (.int .i64 r_10_90))) (aA rfl) (aJ hS rfl) rfl)),
      fun S hS => aG rfl (aV rfl (qJ (m := 2) (f := 1) (aA rfl) (aJ hS rfl) rfl rfl (aJ hS rfl) yA.of h109)),
      fun S hS => aG rfl (aV rfl (rL (m := 2) (f := 1) (aA rfl) (aJ hS rfl) rfl rfl h109 dB)),
      fun S hS => aG rfl (aV rfl (aC (v := .d (.lit (.int .i64 ((atv_8_81.fdiv (2 ^ (min (IntKind.u64.wrap (w64 (r_10_90 + 1))).toNat 64))))))) (aA rfl) (aJ hS rfl) rfl)),
      fun S hS => aG rfl (aV rfl (aT (aA rfl) (aJ hS rfl) mG)),
      fun S hS => aG rfl (aV rfl (aY (aA rfl) (aJ hS rfl) (i := 4) rfl rfl bK)), trivial⟩⟩
             · exact cZ (aU rfl (aU rfl (aU rfl (bD ⟨rfl, rfl, rfl, rfl, rfl, rfl, rfl, rfl, trivial⟩))))
            ·obtain ⟨x110, h111, h⟩ := bind_some h
             refine tr1 rfl (rK (f := 1) (g := aO) (aA rfl) rfl rfl h109 rfl cC.of h111) ?_
             refine tr1 rfl (aFg (f := 1) (g := aO) rfl rfl h109 h111 rfl rfl rfl Try.sizeOf3 rfl (aA rfl) (Nat.le_of_ble_eq_true rfl) (a' := x64.Player) rfl (c' := (d_10_90.set r_10_90.toNat (x108.set (atv_8_81.fdiv (2 ^ (min (IntKind.u64.wrap (w64 (r_10_90 + 1))).toNat 64))).toNat x64.Player))) rfl) ?_
             refine fF ?_
             refine aD ?_
             refine tr1 rfl (aC (v := .d (.lit (.int .i64 r_10_90))) (aA rfl) rfl rfl) ?_
             refine tr1 rfl (bR (aA rfl) rfl rfl rfl) ?_
             refine tr1 rfl (aK (v := .d (.lit (.int .i64 ((w64 (r_10_90 + 1)))))) (aA rfl) rfl rfl) ?_
             refine aF ?_
             exact ⟨(w64 (r_10_90 + 1), o4_10_90, (d_10_90.set r_10_90.toNat (x108.set (atv_8_81.fdiv (2 ^ (min (IntKind.u64.wrap (w64 (r_10_90 + 1))).toNat 64))).toNat x64.Player)), vs91), h, bI [0, 1, 2, 3, 4] rfl rfl (aU rfl (bD ⟨rfl, rfl, rfl, rfl, rfl, rfl, rfl, trivial⟩))⟩
         ·have h := aZ c93 h
          refine dC ?_
          refine .inl ⟨rfl, ?_⟩
          simp only [nQ] at h
          simp only [jE] at h
          refine aD ?_
          refine tr1 rfl (aC (v := .d (.lit (.int .i64 i_4_60))) (aA rfl) rfl rfl) ?_
          refine tr1 rfl (bR (aA rfl) rfl rfl rfl) ?_
          refine tr1 rfl (aK (v := .d (.lit (.int .i64 ((w64 (i_4_60 + 1)))))) (aA rfl) rfl rfl) ?_
          refine aF ?_
          exact ⟨(w64 (i_4_60 + 1), o4_10_90, d_10_90, vs91), h, bI [0, 1, 2, 3] rfl rfl (aU rfl (bD ⟨rfl, rfl, rfl, rfl, trivial⟩))⟩
   ·have h := aZ c63 h
    refine dC ?_
    refine .inl ⟨rfl, ?_⟩
    simp only [oE] at h
    refine aH ?_
    refine aD ?_
    refine tr1 rfl (bN (aA rfl) rfl (i := 3) rfl uM (es := [.sl 1 (d_0_7_2.map aO), .lit w9]) rfl rfl) ?_
    refine tr1 rfl (cM (i := 0) rfl rfl rfl rfl rfl Try.sizeOf89 rfl (aA rfl) (Nat.le_of_ble_eq_true rfl) (ds' := [.sl 1 (d_0_7_2.map aO), .lit w9]) rfl) ?_
    refine tr1 rfl (aK (v := .d (.lit (.bool true))) (aA rfl) rfl rfl) ?_
    refine aF ?_
    have h := Option.some.inj h
    subst h
    exact bV ⟨rfl, _, [.box b2 0 [.sl 1 (d_0_7_2.map aO), .lit w9], .fam 3 1 vs61 (d_4_60.map fun r => r.map aO), .arr w9 22 1 (vs61.map fun v => [.lit v]), .box b6 0 [.sl 1 (d_0_7_2.map aO), .lit w9]], .two (.cell 4 89 rfl (i := 0) rfl uM (es := [.sl 1 (d_0_7_2.map aO), .lit w9]) rfl rfl) (.tmp 5 (v := .d (.lit (.bool true))) rfl), .refl _, sW (.cons (.agg (dvc (.same _) (dvc (aLu 2 1 rfl rfl (h := lJ) (fun _ => rfl)) dvn))) (.cons (.same _) .nil))⟩

theorem wU (t_0 : aP) (l_1 : List aE) {r : Int} (h : eU t_0 l_1 = some r) : Fn Try.prog 29 [.agg (aS t_0), .d (.sl 5 (l_1.map aI))] (.d (.lit (.int .i64 r))) := by
 unfold eU at h
 refine Fn.of_tr Try.func29 rfl (rs := [.tmp 4]) Try.results29 Try.ntmps29 (Nat.le_of_ble_eq_true rfl) ?_
 refine aH ?_
 refine aD ?_
 refine cB rfl (gK (v := .agg (aS t_0)) (aA rfl) rfl rfl rfl) ?_
 rintro _ ⟨b1, rfl⟩
 refine tr1 rfl (aK (v := .d (.lit (.int .i64 0))) (aA rfl) rfl rfl) ?_
 refine aF ?_
 refine aH ?_
 refine aH ?_
 refine aD ?_
 refine tr1 rfl (bN (aA rfl) rfl (i := 0) rfl dE (es := (aS t_0)) rfl rfl) ?_
 obtain ⟨r2, h3, h⟩ := bind_some h
 refine tr1 rfl (cJ (aA rfl) (.func _ _ Try.call53) rfl rfl (BVs.refl _ _) (wJ _ h3) rfl) ?_
 refine tr1 rfl (gZ (aA rfl) rfl) ?_
 refine aF ?_
 refine bY rfl (fun c4 => ?_) (fun c4 => ?_)
 ·have h := aX c4 h
  refine aH ?_
  refine aD ?_
  refine tr1 rfl (aK (v := .d (.lit (.int .i64 70))) (aA rfl) rfl rfl) ?_
  refine aF ?_
  have h := Option.some.inj h
  subst h
  refine cT (cR (cW (l := [4]) ⟨rfl, trivial⟩)) ?_
  exact bV ⟨rfl, _, .one _, rfl, rfl⟩
 ·have h := aZ c4 h
  refine bX ?_
  refine aH ?_
  refine aH ?_
  refine aD ?_
  refine tr1 rfl (aC (v := .d (.sl 5 (l_1.map aI))) (aA rfl) rfl rfl) ?_
  refine tr1 rfl (dM (aA rfl) rfl dH.of) ?_
  refine tr1 rfl (bM (aA rfl) rfl rfl rfl) ?_
  refine aF ?_
  refine bY rfl (fun c5 => ?_) (fun c5 => ?_)
  ·have h := aX c5 h
   refine aH ?_
   refine aD ?_
   refine tr1 rfl (aK (v := .d (.lit (.int .i64 71))) (aA rfl) rfl rfl) ?_
   refine aF ?_
   have h := Option.some.inj h
   subst h
   refine cT (cR (cW (l := [4]) ⟨rfl, trivial⟩)) ?_
   exact bV ⟨rfl, _, .one _, rfl, rfl⟩
  ·have h := aZ c5 h
   refine bX ?_
   refine aH ?_
   refine aH ?_
   refine aD ?_
   refine tr1 rfl (aK (v := .d (.lit (.int .i64 0))) (aA rfl) rfl rfl) ?_
   refine aF ?_
   refine cG ?_
   refine dN [1, 2] (fun (s6 : Int) => [(5, .d (.lit (.int .i64 s6)))]) (fun (s6 : Int) => [.box b1 0 (aS t_0)]) (fun (k : Nat) (s6 : Int) => fS l_1 t_0 k s6) (fun _ => rfl) (0) h (bI [0] rfl rfl (aU rfl (bD ⟨rfl, rfl, trivial⟩))) ?_
   rintro k7 i_0_6 h
   simp only [fS] at h
   refine aH ?_
   refine aH ?_
   refine aD ?_
   refine tr1 rfl (aC (v := .d (.lit (.int .i64 i_0_6))) (aA rfl) rfl rfl) ?_
   refine tr1 rfl (aC (v := .d (.sl 5 (l_1.map aI))) (aA rfl) rfl rfl) ?_
   refine tr1 rfl (dM (aA rfl) rfl dH.of) ?_
   refine tr1 rfl (bM (aA rfl) rfl rfl rfl) ?_
   refine aF ?_
   refine bY rfl (fun c8 => ?_) (fun c8 => ?_)
   ·have h := aX c8 h
    refine bX ?_
    refine aH ?_
    refine cG ?_
    refine aH ?_
    obtain ⟨x9, h10, h⟩ := bind_some h
    refine dZ mix 5 [1, 2, 5] [(20, .agg (aS t_0)), (24, .agg (aI x9))] ?_ ?_
    ·refine ⟨[(20, 0, .agg (aS t_0)), (21, 1, .d (.sl 5 (l_1.map aI))), (22, 2, .d (.lit (.int .i64 i_0_6))), (23, 3, .cp [.lit (.int .i64 x9.Kind), .lit (.int .i64 x9.Round), .lit (.int .i64 x9.Place), .lit (.int .i64 x9.Player), .lit (.int .i64 x9.Old)]), (24, 4, .agg (aI x9))], ?_, ?_⟩
     · exact ⟨by kernel_rfl, by kernel_rfl, by kernel_rfl, by kernel_rfl, by kernel_rfl, [([], []), ([], []), ([], []), ([1, 2], []), ([3], [])], by kernel_rfl, ⟨fun S hS => aG rfl (aV rfl (bN (aA rfl) (aJ hS rfl) (i := 0) rfl dE (es := (aS t_0)) rfl rfl)),
      fun S hS => aG rfl (aV rfl (aC (v := .d (.sl 5 (l_1.map aI))) (aA rfl) (aJ hS rfl) rfl)),
      fun S hS => aG rfl (aV rfl (aC (v := .d (.lit (.int .i64 i_0_6))) (aA rfl) (aJ hS rfl) rfl)),
      fun S hS => aG rfl (aV rfl (bQ (aA rfl) (aJ hS rfl) (aJ hS rfl) dH.of (bZ aI h10))),
      fun S hS => aG rfl (aV rfl (gY (aA rfl) (aJ hS rfl) iK (es := (aI x9)) rfl rfl)), trivial⟩⟩
     · exact cZ (aU rfl (aU rfl (bD ⟨rfl, rfl, rfl, trivial⟩)))
    ·obtain ⟨r11, h12, h⟩ := bind_some h
     refine tr1 rfl (cJ (aA rfl) (.func _ _ Try.call54) rfl rfl (BVs.refl _ _) (wK _ _ h12) rfl) ?_
     refine tr1 rfl (gZ (aA rfl) rfl) ?_
     refine aF ?_
     refine bY rfl (fun c13 => ?_) (fun c13 => ?_)
     ·have h := aX c13 h
      refine aH ?_
      refine aD ?_
      refine tr1 rfl (aK (v := .d (.lit (.int .i64 71))) (aA rfl) rfl rfl) ?_
      refine aF ?_
      have h := Option.some.inj h
      subst h
      refine cT (cR (cW (l := [4]) ⟨rfl, trivial⟩)) ?_
      exact bV ⟨rfl, _, .one _, rfl, rfl⟩
     ·have h := aZ c13 h
      refine fD ?_
      refine aD ?_
      refine tr1 rfl (aC (v := .d (.lit (.int .i64 i_0_6))) (aA rfl) rfl rfl) ?_
      refine tr1 rfl (bR (aA rfl) rfl rfl rfl) ?_
      refine tr1 rfl (aK (v := .d (.lit (.int .i64 ((w64 (i_0_6 + 1)))))) (aA rfl) rfl rfl) ?_
      refine aF ?_
      exact ⟨(w64 (i_0_6 + 1)), h, bI [0] rfl rfl (aU rfl (bD ⟨rfl, rfl, trivial⟩))⟩
   ·have h := aZ c8 h
    refine dC ?_
    refine .inl ⟨rfl, ?_⟩
    simp only [iP] at h
    refine aH ?_
    refine aH ?_
    refine aD ?_
    refine tr1 rfl (bN (aA rfl) rfl (i := 0) rfl dE (es := (aS t_0)) rfl rfl) ?_
    refine tr1 rfl (aC (v := .d (.sl 5 (l_1.map aI))) (aA rfl) rfl rfl) ?_
    obtain ⟨r14, h15, h⟩ := bind_some h
    refine tr1 rfl (eN (aA rfl) (.func _ _ Try.call55) rfl rfl (yG _ _ h15)) ?_
    refine tr1 rfl (aC (v := .tup [.agg (cN r14.1), .d (.lit (.bool r14.2))]) (aA rfl) rfl rfl) ?_
    refine tr1 rfl (bH (aA rfl) rfl rfl) ?_
    refine tr1 rfl (bH (aA rfl) rfl rfl) ?_
    refine cB rfl (eC (zs := [.sl 1 ((([] : List Int)).map aO), .sl 1 ((([] : List (List Int))).map lJ)]) (aA rfl) Try.zeroValue89 rfl rfl) ?_
    rintro _ ⟨b16, rfl⟩
    refine tr1 rfl (cM (i := 1) rfl rfl rfl rfl rfl Try.sizeOf89 rfl (aA rfl) (Nat.le_of_ble_eq_true rfl) (ds' := (cN r14.1)) rfl) ?_
    refine tr1 rfl (aK (v := .d (.lit (.bool r14.2))) (aA rfl) rfl rfl) ?_
    refine aF ?_
    refine aH ?_
    refine aD ?_
    refine tr1 rfl (aC (v := .d (.lit (.bool r14.2))) (aA rfl) rfl rfl) ?_
    refine tr1 rfl (gZ (aA rfl) rfl) ?_
    refine aF ?_
    refine bY rfl (fun c17 => ?_) (fun c17 => ?_)
    ·have h := aX c17 h
     refine aH ?_
     refine aD ?_
     refine tr1 rfl (aK (v := .d (.lit (.int .i64 72))) (aA rfl) rfl rfl) ?_
     refine aF ?_
     have h := Option.some.inj h
     subst h
     refine cT (cR (cW (l := [4]) ⟨rfl, trivial⟩)) ?_
     exact bV ⟨rfl, _, .one _, rfl, rfl⟩
    ·have h := aZ c17 h
     refine bX ?_
     refine aH ?_
     refine aD ?_
     refine tr1 rfl (aK (v := .d (.lit (.int .i64 0))) (aA rfl) rfl rfl) ?_
     refine aF ?_
     have h := Option.some.inj h
     subst h
     refine cT (cR (cW (l := [4]) ⟨rfl, trivial⟩)) ?_
     exact bV ⟨rfl, _, .one _, rfl, rfl⟩

theorem tP (a0 : aP) (a1 : List aE) {r : (List bP) × Int} (h : lY a0 a1 = some r) : Fn Try.prog 30 [.agg (aS a0), .d (.sl 5 (a1.map aI))] ((fun x : (List bP) × Int => .tup [.d (.sl 4 (x.1.map bF)), .d (.lit (.int .i64 x.2))]) r) := tA (enc := fun x : (List bP) × Int => .tup [.d (.sl 4 (x.1.map bF)), .d (.lit (.int .i64 x.2))]) (zN a0 a1 (yD a0 a1 h (fun x => x = r) rfl))

theorem aCf (a0 : aP) (a1 : List aE) (a2 : Int) (a3 : Int) {r : (List Int) × Int} (h : sC a0 a1 a2 a3 = some r) : Fn Try.prog 15 [.agg (aS a0), .d (.sl 5 (a1.map aI)), .d (.lit (.int .i64 a2)), .d (.lit (.int .i64 a3))] ((fun x : (List Int) × Int => .tup [.d (.sl 1 (x.1.map aO)), .d (.lit (.int .i64 x.2))]) r) := tA (enc := fun x : (List Int) × Int => .tup [.d (.sl 1 (x.1.map aO)), .d (.lit (.int .i64 x.2))]) (aCe a0 a1 a2 a3 (zO a0 a1 a2 a3 h (fun x => x = r) rfl))

theorem aAy (a0 : aP) (a1 : List aE) {r : Int × Int} (h : qZ a0 a1 = some r) : Fn Try.prog 34 [.agg (aS a0), .d (.sl 5 (a1.map aI))] ((fun x : Int × Int => .tup [.d (.lit (.int .i64 x.1)), .d (.lit (.int .i64 x.2))]) r) := tA (enc := fun x : Int × Int => .tup [.d (.lit (.int .i64 x.1)), .d (.lit (.int .i64 x.2))]) (aAx a0 a1 (yS a0 a1 h (fun x => x = r) rfl))

theorem yF (a0 : aP) (a1 : List aE) (a2 : Int) {r : dP × Int} (h : oU a0 a1 a2 = some r) : Fn Try.prog 17 [.agg (aS a0), .d (.sl 5 (a1.map aI)), .d (.lit (.int .i64 a2))] ((fun x : dP × Int => .tup [.agg (fN x.1), .d (.lit (.int .i64 x.2))]) r) := tA (enc := fun x : dP × Int => .tup [.agg (fN x.1), .d (.lit (.int .i64 x.2))]) (yE a0 a1 a2 (wI a0 a1 a2 h (fun x => x = r) rfl))

theorem iF {r : Bool} (h : fP = some r) : Fn Try.prog 14 [] (.d (.lit (.bool r))) := by
 unfold fP at h
 refine Fn.of_tr Try.func14 rfl (rs := [.tmp 0]) Try.results14 Try.ntmps14 (Nat.le_of_ble_eq_true rfl) ?_
 refine aH ?_
 refine aD ?_
 refine tr1 rfl (aK (v := .d (.lit (.bool false))) (aA rfl) rfl rfl) ?_
 refine aF ?_
 refine aH ?_
 refine aD ?_
 obtain ⟨r1, h2, h⟩ := bind_some h
 refine tr1 rfl (eN (aA rfl) (.func _ _ Try.call43) rfl rfl (vH h2)) ?_
 refine tr1 rfl (aC (v := .tup [.agg (aS r1.1), .d (.sl 5 (r1.2.map aI))]) (aA rfl) rfl rfl) ?_
 refine tr1 rfl (bH (aA rfl) rfl rfl) ?_
 refine tr1 rfl (bH (aA rfl) rfl rfl) ?_
 refine cB rfl (eC (zs := [.lit (.int .i64 0), .sl 1 ((([] : List Int)).map aO)]) (aA rfl) Try.zeroValue24 rfl rfl) ?_
 rintro _ ⟨b3, rfl⟩
 refine tr1 rfl (cM (i := 0) rfl rfl rfl rfl rfl Try.sizeOf24 rfl (aA rfl) (Nat.le_of_ble_eq_true rfl) (ds' := (aS r1.1)) rfl) ?_
 refine tr1 rfl (aK (v := .d (.sl 5 (r1.2.map aI))) (aA rfl) rfl rfl) ?_
 refine aF ?_
 refine aH ?_
 refine aD ?_
 refine tr1 rfl (bN (aA rfl) rfl (i := 0) rfl dE (es := (aS r1.1)) rfl rfl) ?_
 refine tr1 rfl (aC (v := .d (.sl 5 (r1.2.map aI))) (aA rfl) rfl rfl) ?_
 obtain ⟨r4, h5, h⟩ := bind_some h
 refine tr1 rfl (eN (aA rfl) (.func _ _ Try.call30) rfl rfl (tP _ _ h5)) ?_
 refine tr1 rfl (aC (v := .tup [.d (.sl 4 (r4.1.map bF)), .d (.lit (.int .i64 r4.2))]) (aA rfl) rfl rfl) ?_
 refine tr1 rfl (bH (aA rfl) rfl rfl) ?_
 refine tr1 rfl (bH (aA rfl) rfl rfl) ?_
 refine tr1 rfl (aK (v := .d (.sl 4 (r4.1.map bF))) (aA rfl) rfl rfl) ?_
 refine tr1 rfl (aK (v := .d (.lit (.int .i64 r4.2))) (aA rfl) rfl rfl) ?_
 refine aF ?_
 refine aH ?_
 refine aD ?_
 refine tr1 rfl (bN (aA rfl) rfl (i := 0) rfl dE (es := (aS r1.1)) rfl rfl) ?_
 refine tr1 rfl (aC (v := .d (.sl 5 (r1.2.map aI))) (aA rfl) rfl rfl) ?_
 obtain ⟨r6, h7, h⟩ := bind_some h
 refine tr1 rfl (eN (aA rfl) (.func _ _ Try.call15) rfl rfl (aCf _ _ _ _ h7)) ?_
 refine tr1 rfl (aC (v := .tup [.d (.sl 1 (r6.1.map aO)), .d (.lit (.int .i64 r6.2))]) (aA rfl) rfl rfl) ?_
 refine tr1 rfl (bH (aA rfl) rfl rfl) ?_
 refine tr1 rfl (bH (aA rfl) rfl rfl) ?_
 refine tr1 rfl (aK (v := .d (.sl 1 (r6.1.map aO))) (aA rfl) rfl rfl) ?_
 refine tr1 rfl (aK (v := .d (.lit (.int .i64 r6.2))) (aA rfl) rfl rfl) ?_
 refine aF ?_
 refine aH ?_
 refine aD ?_
 refine tr1 rfl (bN (aA rfl) rfl (i := 0) rfl dE (es := (aS r1.1)) rfl rfl) ?_
 refine tr1 rfl (aC (v := .d (.sl 5 (r1.2.map aI))) (aA rfl) rfl rfl) ?_
 obtain ⟨r8, h9, h⟩ := bind_some h
 refine tr1 rfl (cJ (aA rfl) (.func _ _ Try.call34) rfl rfl (BVs.refl _ _) (aAy _ _ h9) rfl) ?_
 refine tr1 rfl (aC (v := .tup [.d (.lit (.int .i64 r8.1)), .d (.lit (.int .i64 r8.2))]) (aA rfl) rfl rfl) ?_
 refine tr1 rfl (bH (aA rfl) rfl rfl) ?_
 refine tr1 rfl (bH (aA rfl) rfl rfl) ?_
 refine tr1 rfl (aK (v := .d (.lit (.int .i64 r8.1))) (aA rfl) rfl rfl) ?_
 refine tr1 rfl (aK (v := .d (.lit (.int .i64 r8.2))) (aA rfl) rfl rfl) ?_
 refine aF ?_
 refine aH ?_
 refine aD ?_
 refine tr1 rfl (bN (aA rfl) rfl (i := 0) rfl dE (es := (aS r1.1)) rfl rfl) ?_
 refine tr1 rfl (aC (v := .d (.sl 5 (r1.2.map aI))) (aA rfl) rfl rfl) ?_
 obtain ⟨r10, h11, h⟩ := bind_some h
 refine tr1 rfl (eN (aA rfl) (.func _ _ Try.call17) rfl rfl (yF _ _ _ h11)) ?_
 refine tr1 rfl (aC (v := .tup [.agg (fN r10.1), .d (.lit (.int .i64 r10.2))]) (aA rfl) rfl rfl) ?_
 refine tr1 rfl (bH (aA rfl) rfl rfl) ?_
 refine tr1 rfl (bH (aA rfl) rfl rfl) ?_
 refine cB rfl (eC (zs := [.lit (.int .i64 0), .lit (.int .i64 0)]) (aA rfl) Try.zeroValue39 rfl rfl) ?_
 rintro _ ⟨b12, rfl⟩
 refine tr1 rfl (cM (i := 1) rfl rfl rfl rfl rfl Try.sizeOf39 rfl (aA rfl) (Nat.le_of_ble_eq_true rfl) (ds' := (fN r10.1)) rfl) ?_
 refine tr1 rfl (aK (v := .d (.lit (.int .i64 r10.2))) (aA rfl) rfl rfl) ?_
 refine aF ?_
 refine aH ?_
 refine aD ?_
 refine tr1 rfl (aC (v := .d (.lit (.int .i64 r4.2))) (aA rfl) rfl rfl) ?_
 refine tr1 rfl (bM (aA rfl) rfl rfl rfl) ?_
 refine tr1 rfl (aC (v := .d (.lit (.bool ((decide (r4.2 = 0)))))) (aA rfl) rfl rfl) ?_
 obtain ⟨b13, h14, h⟩ := bind_some h
 refine bU 3 [3, 5, 7, 8, 9, 10] 44 b13 ?_ ?_
 ·refine bE (decide (r4.2 = 0)) (fun c45 => ?_) (fun c45 => ?_)
  ·have h14 := aX c45 h14
   refine aL rfl rfl (aA rfl) rfl c45 (aC (v := .d (.lit (.int .i64 r6.2))) (aA rfl) rfl rfl) ?_
   refine aL rfl rfl (aA rfl) rfl c45 (bM (aA rfl) rfl rfl rfl) ?_
   refine tr1 rfl (bJ (v := .d (.lit (.bool ((decide (r6.2 = 0)))))) (aA rfl) rfl c45 rfl rfl) ?_
   have h14 := Option.some.inj h14
   subst h14
   refine aF (aW rfl ⟨rfl, rfl, rfl, rfl, rfl, rfl, trivial⟩ rfl)
  ·have h14 := aZ c45 h14
   refine aN rfl rfl (aA rfl) rfl (aA rfl) rfl c45 ?_
   refine aN rfl rfl (aA rfl) rfl (aA rfl) rfl c45 ?_
   refine tr1 rfl (bL (v := .d (.lit (.bool false))) (aA rfl) rfl c45 rfl rfl) ?_
   have h14 := Option.some.inj h14
   subst h14
   refine aF (aW rfl ⟨rfl, rfl, rfl, rfl, rfl, rfl, trivial⟩ rfl)
 ·refine tr1 rfl (aC (v := .d (.lit (.bool b13))) (aA rfl) rfl rfl) ?_
  obtain ⟨b15, h16, h⟩ := bind_some h
  refine bU 3 [3, 5, 7, 9, 10] 48 b15 ?_ ?_
  ·refine bE (b13) (fun c44 => ?_) (fun c44 => ?_)
   ·have h16 := aX c44 h16
    refine aL rfl rfl (aA rfl) rfl c44 (aC (v := .d (.lit (.int .i64 r8.2))) (aA rfl) rfl rfl) ?_
    refine aL rfl rfl (aA rfl) rfl c44 (bM (aA rfl) rfl rfl rfl) ?_
    refine tr1 rfl (bJ (v := .d (.lit (.bool ((decide (r8.2 = 0)))))) (aA rfl) rfl c44 rfl rfl) ?_
    have h16 := Option.some.inj h16
    subst h16
    refine aF (aW rfl ⟨rfl, rfl, rfl, rfl, rfl, trivial⟩ rfl)
   ·have h16 := aZ c44 h16
    refine aN rfl rfl (aA rfl) rfl (aA rfl) rfl c44 ?_
    refine aN rfl rfl (aA rfl) rfl (aA rfl) rfl c44 ?_
    refine tr1 rfl (bL (v := .d (.lit (.bool false))) (aA rfl) rfl c44 rfl rfl) ?_
    have h16 := Option.some.inj h16
    subst h16
    refine aF (aW rfl ⟨rfl, rfl, rfl, rfl, rfl, trivial⟩ rfl)
  ·refine tr1 rfl (aC (v := .d (.lit (.bool b15))) (aA rfl) rfl rfl) ?_
   obtain ⟨b17, h18, h⟩ := bind_some h
   refine bU 3 [3, 5, 7, 9] 52 b17 ?_ ?_
   ·refine bE (b15) (fun c43 => ?_) (fun c43 => ?_)
    ·have h18 := aX c43 h18
     refine aL rfl rfl (aA rfl) rfl c43 (aC (v := .d (.lit (.int .i64 r10.2))) (aA rfl) rfl rfl) ?_
     refine aL rfl rfl (aA rfl) rfl c43 (bM (aA rfl) rfl rfl rfl) ?_
     refine tr1 rfl (bJ (v := .d (.lit (.bool ((decide (r10.2 = 0)))))) (aA rfl) rfl c43 rfl rfl) ?_
     have h18 := Option.some.inj h18
     subst h18
     refine aF (aW rfl ⟨rfl, rfl, rfl, rfl, trivial⟩ rfl)
    ·have h18 := aZ c43 h18
     refine aN rfl rfl (aA rfl) rfl (aA rfl) rfl c43 ?_
     refine aN rfl rfl (aA rfl) rfl (aA rfl) rfl c43 ?_
     refine tr1 rfl (bL (v := .d (.lit (.bool false))) (aA rfl) rfl c43 rfl rfl) ?_
     have h18 := Option.some.inj h18
     subst h18
     refine aF (aW rfl ⟨rfl, rfl, rfl, rfl, trivial⟩ rfl)
   ·refine tr1 rfl (aC (v := .d (.lit (.bool b17))) (aA rfl) rfl rfl) ?_
    obtain ⟨b19, h20, h⟩ := bind_some h
    refine bU 4 [3, 5, 7, 9] 57 b19 ?_ ?_
    ·refine bE (b17) (fun c42 => ?_) (fun c42 => ?_)
     ·have h20 := aX c42 h20
      refine aL rfl rfl (aA rfl) rfl c42 (aC (v := .d (.sl 4 (r4.1.map bF))) (aA rfl) rfl rfl) ?_
      refine aL rfl rfl (aA rfl) rfl c42 (dM (aA rfl) rfl nW.of) ?_
      refine aL rfl rfl (aA rfl) rfl c42 (bM (aA rfl) rfl rfl rfl) ?_
      refine tr1 rfl (bJ (v := .d (.lit (.bool ((decide ((r4.1.length : Int) = 7)))))) (aA rfl) rfl c42 rfl rfl) ?_
      have h20 := Option.some.inj h20
      subst h20
      refine aF (aW rfl ⟨rfl, rfl, rfl, rfl, trivial⟩ rfl)
     ·have h20 := aZ c42 h20
      refine aN rfl rfl (aA rfl) rfl (aA rfl) rfl c42 ?_
      refine aN rfl rfl (aA rfl) rfl (aA rfl) rfl c42 ?_
      refine aN rfl rfl (aA rfl) rfl (aA rfl) rfl c42 ?_
      refine tr1 rfl (bL (v := .d (.lit (.bool false))) (aA rfl) rfl c42 rfl rfl) ?_
      have h20 := Option.some.inj h20
      subst h20
      refine aF (aW rfl ⟨rfl, rfl, rfl, rfl, trivial⟩ rfl)
    ·refine tr1 rfl (aC (v := .d (.lit (.bool b19))) (aA rfl) rfl rfl) ?_
     obtain ⟨b21, h22, h⟩ := bind_some h
     refine bU 6 [3, 5, 7, 9] 64 b21 ?_ ?_
     ·refine bE (b19) (fun c39 => ?_) (fun c39 => ?_)
      ·have h22 := aX c39 h22
       refine aL rfl rfl (aA rfl) rfl c39 (aC (v := .d (.sl 4 (r4.1.map bF))) (aA rfl) rfl rfl) ?_
       obtain ⟨x40, h41, h22⟩ := bind_some h22
       refine aL rfl rfl (aA rfl) rfl c39 (bQ (aA rfl) rfl rfl nW.of (bZ bF h41)) ?_
       refine aL rfl rfl (aA rfl) rfl c39 (gY (aA rfl) rfl wM (es := (bF x40)) rfl rfl) ?_
       refine aL rfl rfl (aA rfl) rfl c39 (eZ (aA rfl) aEg (zs := [.lit (.int .i64 0), .lit (.int .i64 0), .lit (.int .i64 0), .lit (.int .i64 0)]) rfl rfl rfl rfl (es := [.lit (.int .i64 1), .lit (.int .i64 0), .lit (.int .i64 1), .lit (.int .i64 2)]) rfl) ?_
       refine aL rfl rfl (aA rfl) rfl c39 (xZ (a := x40) (b := (bP.mk 1 0 1 2)) (aA rfl) rfl rfl rfl rfl Try.eqGuardType57 aDe) ?_
       refine tr1 rfl (bJ (v := .d (.lit (.bool ((decide (x40 = (bP.mk 1 0 1 2))))))) (aA rfl) rfl c39 rfl rfl) ?_
       have h22 := Option.some.inj h22
       subst h22
       refine aF (aW rfl ⟨rfl, rfl, rfl, rfl, trivial⟩ rfl)
      ·have h22 := aZ c39 h22
       refine aN rfl rfl (aA rfl) rfl (aA rfl) rfl c39 ?_
       refine aN rfl rfl (aA rfl) rfl (aA rfl) rfl c39 ?_
       refine aN rfl rfl (aA rfl) rfl (aA rfl) rfl c39 ?_
       refine aN rfl rfl (aA rfl) rfl (aA rfl) rfl c39 ?_
       refine aN rfl rfl (aA rfl) rfl (aA rfl) rfl c39 ?_
       refine tr1 rfl (bL (v := .d (.lit (.bool false))) (aA rfl) rfl c39 rfl rfl) ?_
       have h22 := Option.some.inj h22
       subst h22
       refine aF (aW rfl ⟨rfl, rfl, rfl, rfl, trivial⟩ rfl)
     ·refine tr1 rfl (aC (v := .d (.lit (.bool b21))) (aA rfl) rfl rfl) ?_
      obtain ⟨b23, h24, h⟩ := bind_some h
      refine bU 6 [5, 7, 9] 71 b23 ?_ ?_
      ·refine bE (b21) (fun c36 => ?_) (fun c36 => ?_)
       ·have h24 := aX c36 h24
        refine aL rfl rfl (aA rfl) rfl c36 (aC (v := .d (.sl 4 (r4.1.map bF))) (aA rfl) rfl rfl) ?_
        obtain ⟨x37, h38, h24⟩ := bind_some h24
        refine aL rfl rfl (aA rfl) rfl c36 (bQ (aA rfl) rfl rfl nW.of (bZ bF h38)) ?_
        refine aL rfl rfl (aA rfl) rfl c36 (gY (aA rfl) rfl wM (es := (bF x37)) rfl rfl) ?_
        refine aL rfl rfl (aA rfl) rfl c36 (eZ (aA rfl) aEg (zs := [.lit (.int .i64 0), .lit (.int .i64 0), .lit (.int .i64 0), .lit (.int .i64 0)]) rfl rfl rfl rfl (es := [.lit (.int .i64 2), .lit (.int .i64 0), .lit (.int .i64 2), .lit (.int .i64 (-2))]) rfl) ?_
        refine aL rfl rfl (aA rfl) rfl c36 (xZ (a := x37) (b := (bP.mk 2 0 2 (-2))) (aA rfl) rfl rfl rfl rfl Try.eqGuardType57 aDe) ?_
        refine tr1 rfl (bJ (v := .d (.lit (.bool ((decide (x37 = (bP.mk 2 0 2 (-2)))))))) (aA rfl) rfl c36 rfl rfl) ?_
        have h24 := Option.some.inj h24
        subst h24
        refine aF (aW rfl ⟨rfl, rfl, rfl, trivial⟩ rfl)
       ·have h24 := aZ c36 h24
        refine aN rfl rfl (aA rfl) rfl (aA rfl) rfl c36 ?_
        refine aN rfl rfl (aA rfl) rfl (aA rfl) rfl c36 ?_
        refine aN rfl rfl (aA rfl) rfl (aA rfl) rfl c36 ?_
        refine aN rfl rfl (aA rfl) rfl (aA rfl) rfl c36 ?_
        refine aN rfl rfl (aA rfl) rfl (aA rfl) rfl c36 ?_
        refine tr1 rfl (bL (v := .d (.lit (.bool false))) (aA rfl) rfl c36 rfl rfl) ?_
        have h24 := Option.some.inj h24
        subst h24
        refine aF (aW rfl ⟨rfl, rfl, rfl, trivial⟩ rfl)
      ·refine tr1 rfl (aC (v := .d (.lit (.bool b23))) (aA rfl) rfl rfl) ?_
       obtain ⟨b25, h26, h⟩ := bind_some h
       refine bU 4 [7, 9] 76 b25 ?_ ?_
       ·refine bE (b23) (fun c33 => ?_) (fun c33 => ?_)
        ·have h26 := aX c33 h26
         refine aL rfl rfl (aA rfl) rfl c33 (aC (v := .d (.sl 1 (r6.1.map aO))) (aA rfl) rfl rfl) ?_
         refine aL rfl rfl (aA rfl) rfl c33 (eV (aA rfl) cC rfl rfl (rows := ([2, 5, 7, 8]).map aO) rfl (cP (f := aO) fun _ => rfl) rfl (by decide)) ?_
         obtain ⟨r34, h35, h26⟩ := bind_some h26
         refine aL rfl rfl (aA rfl) rfl c33 (cJ (aA rfl) (.func _ _ Try.call23) rfl rfl (BVs.refl _ _) (fW _ _ h35) rfl) ?_
         refine tr1 rfl (bJ (v := .d (.lit (.bool r34))) (aA rfl) rfl c33 rfl rfl) ?_
         have h26 := Option.some.inj h26
         subst h26
         refine aF (aW rfl ⟨rfl, rfl, trivial⟩ rfl)
        ·have h26 := aZ c33 h26
         refine aN rfl rfl (aA rfl) rfl (aA rfl) rfl c33 ?_
         refine aN rfl rfl (aA rfl) rfl (aA rfl) rfl c33 ?_
         refine aN rfl rfl (aA rfl) rfl (aA rfl) rfl c33 ?_
         refine tr1 rfl (bL (v := .d (.lit (.bool false))) (aA rfl) rfl c33 rfl rfl) ?_
         have h26 := Option.some.inj h26
         subst h26
         refine aF (aW rfl ⟨rfl, rfl, trivial⟩ rfl)
       ·refine tr1 rfl (aC (v := .d (.lit (.bool b25))) (aA rfl) rfl rfl) ?_
        obtain ⟨b27, h28, h⟩ := bind_some h
        refine bU 3 [9] 80 b27 ?_ ?_
        ·refine bE (b25) (fun c32 => ?_) (fun c32 => ?_)
         ·have h28 := aX c32 h28
          refine aL rfl rfl (aA rfl) rfl c32 (aC (v := .d (.lit (.int .i64 r8.1))) (aA rfl) rfl rfl) ?_
          refine aL rfl rfl (aA rfl) rfl c32 (bM (aA rfl) rfl rfl rfl) ?_
          refine tr1 rfl (bJ (v := .d (.lit (.bool ((decide (r8.1 = 3)))))) (aA rfl) rfl c32 rfl rfl) ?_
          have h28 := Option.some.inj h28
          subst h28
          refine aF (aW rfl ⟨rfl, trivial⟩ rfl)
         ·have h28 := aZ c32 h28
          refine aN rfl rfl (aA rfl) rfl (aA rfl) rfl c32 ?_
          refine aN rfl rfl (aA rfl) rfl (aA rfl) rfl c32 ?_
          refine tr1 rfl (bL (v := .d (.lit (.bool false))) (aA rfl) rfl c32 rfl rfl) ?_
          have h28 := Option.some.inj h28
          subst h28
          refine aF (aW rfl ⟨rfl, trivial⟩ rfl)
        ·refine tr1 rfl (aC (v := .d (.lit (.bool b27))) (aA rfl) rfl rfl) ?_
         obtain ⟨b29, h30, h⟩ := bind_some h
         refine bU 4 [] 85 b29 ?_ ?_
         ·refine bE (b27) (fun c31 => ?_) (fun c31 => ?_)
          ·have h30 := aX c31 h30
           refine aL rfl rfl (aA rfl) rfl c31 (bN (aA rfl) rfl (i := 1) rfl zL (es := (fN r10.1)) rfl rfl) ?_
           refine aL rfl rfl (aA rfl) rfl c31 (eZ (aA rfl) aAv (zs := [.lit (.int .i64 0), .lit (.int .i64 0)]) rfl rfl rfl rfl (es := [.lit (.int .i64 2), .lit (.int .i64 3)]) rfl) ?_
           refine aL rfl rfl (aA rfl) rfl c31 (xZ (a := r10.1) (b := (dP.mk 2 3)) (aA rfl) rfl rfl rfl rfl Try.eqGuardType39 aLv) ?_
           refine tr1 rfl (bJ (v := .d (.lit (.bool ((decide (r10.1 = (dP.mk 2 3))))))) (aA rfl) rfl c31 rfl rfl) ?_
           have h30 := Option.some.inj h30
           subst h30
           refine aF (aW rfl trivial rfl)
          ·have h30 := aZ c31 h30
           refine aN rfl rfl (aA rfl) rfl (aA rfl) rfl c31 ?_
           refine aN rfl rfl (aA rfl) rfl (aA rfl) rfl c31 ?_
           refine aN rfl rfl (aA rfl) rfl (aA rfl) rfl c31 ?_
           refine tr1 rfl (bL (v := .d (.lit (.bool false))) (aA rfl) rfl c31 rfl rfl) ?_
           have h30 := Option.some.inj h30
           subst h30
           refine aF (aW rfl trivial rfl)
         ·refine tr1 rfl (aK (v := .d (.lit (.bool b29))) (aA rfl) rfl rfl) ?_
          refine aF ?_
          have h := Option.some.inj h
          subst h
          refine cT (cR (cW (l := [0]) ⟨rfl, trivial⟩)) ?_
          exact bV ⟨rfl, _, .one _, rfl, rfl⟩

theorem yT (t_0 : aP) (l_1 : List aE) (round_2 : Int) (place_3 : Int) {Q : (Int × Int) → Prop} (h : mL t_0 l_1 round_2 place_3 Q) : fG Try.prog 20 [.agg (aS t_0), .d (.sl 5 (l_1.map aI)), .d (.lit (.int .i64 round_2)), .d (.lit (.int .i64 place_3))] [] (fun r' o' => ∃ (r : Int × Int), Q r ∧ r' = .tup [.d (.lit (.int .i64 r.1)), .d (.lit (.int .i64 r.2))] ∧ o' = []) := by
 unfold mL at h
 refine gW Try.func20 rfl (rs := [.tmp 8, .tmp 9]) Try.results20 Try.ntmps20 (Nat.le_of_ble_eq_true rfl) ?_
 refine aH ?_
 refine aD ?_
 refine cB rfl (gK (v := .agg (aS t_0)) (aA rfl) rfl rfl rfl) ?_
 rintro _ ⟨b1, rfl⟩
 refine tr1 rfl (aK (v := .d (.lit (.int .i64 0))) (aA rfl) rfl rfl) ?_
 refine tr1 rfl (aK (v := .d (.lit (.int .i64 0))) (aA rfl) rfl rfl) ?_
 refine aF ?_
 refine aH ?_
 refine aD ?_
 refine tr1 rfl (bN (aA rfl) rfl (i := 0) rfl dE (es := (aS t_0)) rfl rfl) ?_
 refine tr1 rfl (aC (v := .d (.sl 5 (l_1.map aI))) (aA rfl) rfl rfl) ?_
 refine tr1 rfl (aC (v := .d (.lit (.int .i64 round_2))) (aA rfl) rfl rfl) ?_
 refine tr1 rfl (aC (v := .d (.lit (.int .i64 place_3))) (aA rfl) rfl rfl) ?_
 refine cB rfl (nN (aA rfl) (.func _ _ Try.call44) rfl rfl (wQ _ _ _ _ h)) ?_
 rintro _ ⟨_, _, ⟨r2, h, rfl, rfl⟩, rfl⟩
 refine tr1 rfl (aC (v := .tup [cQ bB r2.1, .agg (aM r2.2.1), .d (.lit (.int .i64 r2.2.2))]) (aA rfl) rfl rfl) ?_
 refine tr1 rfl (bH (aA rfl) rfl rfl) ?_
 refine tr1 rfl (bH (aA rfl) rfl rfl) ?_
 refine tr1 rfl (bH (aA rfl) rfl rfl) ?_
 refine cB rfl (eC (zs := [.lit (.int .i64 0), .lit (.int .i64 0)]) (aA rfl) Try.zeroValue70 rfl rfl) ?_
 rintro _ ⟨b3, rfl⟩
 refine tr1 rfl (aK (v := cQ bB r2.1) (aA rfl) rfl rfl) ?_
 refine tr1 rfl (cM (i := 1) rfl rfl rfl rfl rfl Try.sizeOf70 rfl (aA rfl) (Nat.le_of_ble_eq_true rfl) (ds' := (aM r2.2.1)) rfl) ?_
 refine tr1 rfl (aK (v := .d (.lit (.int .i64 r2.2.2))) (aA rfl) rfl rfl) ?_
 refine aF ?_
 refine aH ?_
 refine aH ?_
 refine aD ?_
 refine tr1 rfl (aC (v := .d (.lit (.int .i64 r2.2.2))) (aA rfl) rfl rfl) ?_
 refine tr1 rfl (bM (aA rfl) rfl rfl rfl) ?_
 refine aF ?_
 refine bY rfl (fun c4 => ?_) (fun c4 => ?_)
 ·have h := eM c4 h
  refine aH ?_
  refine aD ?_
  refine tr1 rfl (aC (v := .d (.lit (.int .i64 r2.2.2))) (aA rfl) rfl rfl) ?_
  refine tr1 rfl (aK (v := .d (.lit (.int .i64 0))) (aA rfl) rfl rfl) ?_
  refine tr1 rfl (aK (v := .d (.lit (.int .i64 r2.2.2))) (aA rfl) rfl rfl) ?_
  refine aF ?_
  exact bV ⟨rfl, _, [], [.box b1 0 (aS t_0), .box b3 0 (aM r2.2.1)], _, .two (.tmp 8 (v := .d (.lit (.int .i64 0))) rfl) (.tmp 9 (v := .d (.lit (.int .i64 r2.2.2))) rfl), .refl _, .same _, (0, r2.2.2), h, rfl, rfl⟩
 ·have h := eL c4 h
  refine bX ?_
  refine aH ?_
  obtain ⟨x5, h6, h⟩ := dJ h
  refine dZ mix 10 [] [(13, .d (.lit (.int .i64 ((cI r2.2.1 0 x5.won))))), (35, .d (.lit (.bool ((cS r2.2.1 x5.won)))))] ?_ ?_
  ·refine ⟨[(28, 0, cQ bB r2.1), (29, 1, .cp [.lit (.int .i64 x5.Tree.Rounds), .sl 1 (x5.Tree.Slots.map aO), .sl 1 (x5.players.map aO), .mp false (x5.won.map fun p : aB × Int => ((fun a : aB => Value.agg ((aM a).map bO).toArray) p.1, aO p.2))]), (30, 2, .cp [.mp false (x5.won.map fun p : aB × Int => ((fun a : aB => Value.agg ((aM a).map bO).toArray) p.1, aO p.2))]), (31, 3, .d (.mp false (x5.won.map fun p : aB × Int => ((fun a : aB => Value.agg ((aM a).map bO).toArray) p.1, aO p.2)))), (32, 4, .agg (aM r2.2.1)), (33, 5, .tup [.d (.lit (.int .i64 ((cI r2.2.1 0 x5.won)))), .d (.lit (.bool ((cS r2.2.1 x5.won))))]), (27, 6, .tup [.d (.lit (.int .i64 ((cI r2.2.1 0 x5.won)))), .d (.lit (.bool ((cS r2.2.1 x5.won))))]), (34, 7, .d (.lit (.int .i64 ((cI r2.2.1 0 x5.won))))), (35, 8, .d (.lit (.bool ((cS r2.2.1 x5.won))))), (13, 9, .d (.lit (.int .i64 ((cI r2.2.1 0 x5.won)))))], ?_, ?_⟩
   · exact ⟨by kernel_rfl, by kernel_rfl, by kernel_rfl, by kernel_rfl, by kernel_rfl, [([], []), ([0], []), ([1], []), ([2], []), ([], []), ([3, 4], []), ([5], []), ([6], []), ([6], []), ([7], [])], by kernel_rfl, ⟨fun S hS => aG rfl (aV rfl (aC (v := cQ bB r2.1) (aA rfl) (aJ hS rfl) rfl)),
      fun S hS => aG rfl (aV rfl (pA (enc := bB) (aA rfl) (aJ hS rfl) h6)),
      fun S hS => aG rfl (aV rfl (cH (aA rfl) (aJ hS rfl) pN (es := [.mp false (x5.won.map fun p : aB × Int => ((fun a : aB => Value.agg ((aM a).map bO).toArray) p.1, aO p.2))]) rfl)),
      fun S hS => aG rfl (aV rfl (bT (aA rfl) (aJ hS rfl) tH)),
      fun S hS => aG rfl (aV rfl (bN (aA rfl) (aJ hS rfl) (i := 1) rfl jI (es := (aM r2.2.1)) rfl rfl)),
      fun S hS => aG rfl (aV rfl (pF (enc := aO) (agg := false) (l := x5.won) (z := 0) (a := r2.2.1) (aA rfl) rV Try.underlying73 Try.zeroValue3 (fun _ _ => .d (.lit _ rfl)) (aJ hS rfl) rfl rfl (aJ hS rfl) (kO (enc := aM) r2.2.1 rfl))),
      fun S hS => aG rfl (aV rfl (aC (v := .tup [.d (.lit (.int .i64 ((cI r2.2.1 0 x5.won)))), .d (.lit (.bool ((cS r2.2.1 x5.won))))]) (aA rfl) (aJ hS rfl) rfl)),
      fun S hS => aG rfl (aV rfl (bH (aA rfl) (aJ hS rfl) rfl)),
      fun S hS => aG rfl (aV rfl (bH (aA rfl) (aJ hS rfl) rfl)),
      fun S hS => aG rfl (aV rfl (aK (v := .d (.lit (.int .i64 ((cI r2.2.1 0 x5.won))))) (aA rfl) (aJ hS rfl) rfl)), trivial⟩⟩
   · exact cZ (aU rfl (aU rfl (bD trivial)))
  ·refine tr1 rfl (aK (v := .d (.lit (.bool ((cS r2.2.1 x5.won))))) (aA rfl) rfl rfl) ?_
   refine aF ?_
   refine aH ?_
   refine aH ?_
   refine aD ?_
   refine tr1 rfl (aC (v := .d (.lit (.bool ((cS r2.2.1 x5.won))))) (aA rfl) rfl rfl) ?_
   refine tr1 rfl (gZ (aA rfl) rfl) ?_
   refine aF ?_
   refine bY rfl (fun c7 => ?_) (fun c7 => ?_)
   ·have h := eM c7 h
    refine aH ?_
    refine aD ?_
    refine tr1 rfl (aK (v := .d (.lit (.int .i64 0))) (aA rfl) rfl rfl) ?_
    refine tr1 rfl (aK (v := .d (.lit (.int .i64 3))) (aA rfl) rfl rfl) ?_
    refine aF ?_
    exact bV ⟨rfl, _, [], [.box b1 0 (aS t_0), .box b3 0 (aM r2.2.1)], _, .two (.tmp 8 (v := .d (.lit (.int .i64 0))) rfl) (.tmp 9 (v := .d (.lit (.int .i64 3))) rfl), .refl _, .same _, (0, 3), h, rfl, rfl⟩
   ·have h := eL c7 h
    refine bX ?_
    refine aH ?_
    refine aD ?_
    refine tr1 rfl (aC (v := .d (.lit (.int .i64 ((cI r2.2.1 0 x5.won))))) (aA rfl) rfl rfl) ?_
    refine tr1 rfl (aK (v := .d (.lit (.int .i64 ((cI r2.2.1 0 x5.won))))) (aA rfl) rfl rfl) ?_
    refine tr1 rfl (aK (v := .d (.lit (.int .i64 0))) (aA rfl) rfl rfl) ?_
    refine aF ?_
    exact bV ⟨rfl, _, [], [.box b1 0 (aS t_0), .box b3 0 (aM r2.2.1)], _, .two (.tmp 8 (v := .d (.lit (.int .i64 ((cI r2.2.1 0 x5.won))))) rfl) (.tmp 9 (v := .d (.lit (.int .i64 0))) rfl), .refl _, .same _, (cI r2.2.1 0 x5.won, 0), h, rfl, rfl⟩

theorem pG (a0 : aP) (a1 : List aE) (a2 : Int) (a3 : Int) {r : Int × Int} (h : iE a0 a1 a2 a3 = some r) : Fn Try.prog 20 [.agg (aS a0), .d (.sl 5 (a1.map aI)), .d (.lit (.int .i64 a2)), .d (.lit (.int .i64 a3))] ((fun x : Int × Int => .tup [.d (.lit (.int .i64 x.1)), .d (.lit (.int .i64 x.2))]) r) := tA (enc := fun x : Int × Int => .tup [.d (.lit (.int .i64 x.1)), .d (.lit (.int .i64 x.2))]) (yT a0 a1 a2 a3 (wP a0 a1 a2 a3 h (fun x => x = r) rfl))

theorem wT (t_0 : aP) (l_1 : List aE) {r : Bool} (h : kB t_0 l_1 = some r) : Fn Try.prog 12 [.agg (aS t_0), .d (.sl 5 (l_1.map aI))] (.d (.lit (.bool r))) := by
 unfold kB at h
 refine Fn.of_tr Try.func12 rfl (rs := [.tmp 4]) Try.results12 Try.ntmps12 (Nat.le_of_ble_eq_true rfl) ?_
 refine aH ?_
 refine aD ?_
 refine cB rfl (gK (v := .agg (aS t_0)) (aA rfl) rfl rfl rfl) ?_
 rintro _ ⟨b1, rfl⟩
 refine tr1 rfl (aK (v := .d (.lit (.bool false))) (aA rfl) rfl rfl) ?_
 refine aF ?_
 refine aH ?_
 refine aD ?_
 refine tr1 rfl (bN (aA rfl) rfl (i := 0) rfl dE (es := (aS t_0)) rfl rfl) ?_
 refine tr1 rfl (aC (v := .d (.sl 5 (l_1.map aI))) (aA rfl) rfl rfl) ?_
 obtain ⟨r2, h3, h⟩ := bind_some h
 refine tr1 rfl (cJ (aA rfl) (.func _ _ Try.call27) rfl rfl (BVs.refl _ _) (yX _ _ h3) rfl) ?_
 refine tr1 rfl (gZ (aA rfl) rfl) ?_
 refine tr1 rfl (aC (v := .d (.lit (.bool (!r2)))) (aA rfl) rfl rfl) ?_
 obtain ⟨b4, h5, h⟩ := bind_some h
 refine bU 5 [] 14 b4 ?_ ?_
 ·refine bE (!r2) (fun c6 => ?_) (fun c6 => ?_)
  ·have h5 := aX c6 h5
   refine aL rfl rfl (aA rfl) rfl c6 (bN (aA rfl) rfl (i := 0) rfl dE (es := (aS t_0)) rfl rfl) ?_
   refine aL rfl rfl (aA rfl) rfl c6 (aC (v := .d (.sl 5 (l_1.map aI))) (aA rfl) rfl rfl) ?_
   obtain ⟨r7, h8, h5⟩ := bind_some h5
   refine aL rfl rfl (aA rfl) rfl c6 (cJ (aA rfl) (.func _ _ Try.call29) rfl rfl (BVs.refl _ _) (wU _ _ h8) rfl) ?_
   refine aL rfl rfl (aA rfl) rfl c6 (bM (aA rfl) rfl rfl rfl) ?_
   refine tr1 rfl (bJ (v := .d (.lit (.bool ((decide (r7 = 0)))))) (aA rfl) rfl c6 rfl rfl) ?_
   have h5 := Option.some.inj h5
   subst h5
   refine aF (aW rfl trivial rfl)
  ·have h5 := aZ c6 h5
   refine aN rfl rfl (aA rfl) rfl (aA rfl) rfl c6 ?_
   refine aN rfl rfl (aA rfl) rfl (aA rfl) rfl c6 ?_
   refine aN rfl rfl (aA rfl) rfl (aA rfl) rfl c6 ?_
   refine aN rfl rfl (aA rfl) rfl (aA rfl) rfl c6 ?_
   refine tr1 rfl (bL (v := .d (.lit (.bool false))) (aA rfl) rfl c6 rfl rfl) ?_
   have h5 := Option.some.inj h5
   subst h5
   refine aF (aW rfl trivial rfl)
 ·refine tr1 rfl (aK (v := .d (.lit (.bool b4))) (aA rfl) rfl rfl) ?_
  refine aF ?_
  have h := Option.some.inj h
  subst h
  refine cT (cR (cW (l := [4]) ⟨rfl, trivial⟩)) ?_
  exact bV ⟨rfl, _, .one _, rfl, rfl⟩

theorem eI (t_0 : aP) (l_1 : List aE) {r : (List bP) × (List Int) × Bool} (h : dK t_0 l_1 = some r) : Fn Try.prog 21 [.agg (aS t_0), .d (.sl 5 (l_1.map aI))] (.tup [.d (.sl 4 (r.1.map bF)), .d (.sl 1 (r.2.1.map aO)), .d (.lit (.bool r.2.2))]) := by
 unfold dK at h
 refine Fn.of_tr Try.func21 rfl (rs := [.tmp 4, .tmp 5, .tmp 6]) Try.results21 Try.ntmps21 (Nat.le_of_ble_eq_true rfl) ?_
 refine aH ?_
 refine aD ?_
 refine cB rfl (gK (v := .agg (aS t_0)) (aA rfl) rfl rfl rfl) ?_
 rintro _ ⟨b1, rfl⟩
 refine tr1 rfl (qK 4 (aA rfl)) ?_
 refine tr1 rfl (iO 3 1 (.inl rfl) (aA rfl)) ?_
 refine tr1 rfl (aK (v := .d (.lit (.bool false))) (aA rfl) rfl rfl) ?_
 refine aF ?_
 refine aH ?_
 refine aD ?_
 refine tr1 rfl (bN (aA rfl) rfl (i := 0) rfl dE (es := (aS t_0)) rfl rfl) ?_
 refine tr1 rfl (aC (v := .d (.sl 5 (l_1.map aI))) (aA rfl) rfl rfl) ?_
 obtain ⟨r3, h4, h⟩ := bind_some h
 refine tr1 rfl (eN (aA rfl) (.func _ _ Try.call30) rfl rfl (tP _ _ h4)) ?_
 refine tr1 rfl (aC (v := .tup [.d (.sl 4 (r3.1.map bF)), .d (.lit (.int .i64 r3.2))]) (aA rfl) rfl rfl) ?_
 refine tr1 rfl (bH (aA rfl) rfl rfl) ?_
 refine tr1 rfl (bH (aA rfl) rfl rfl) ?_
 refine tr1 rfl (aK (v := .d (.sl 4 (r3.1.map bF))) (aA rfl) rfl rfl) ?_
 refine tr1 rfl (aK (v := .d (.lit (.int .i64 r3.2))) (aA rfl) rfl rfl) ?_
 refine aF ?_
 refine aH ?_
 refine aH ?_
 refine aD ?_
 refine tr1 rfl (aC (v := .d (.lit (.int .i64 r3.2))) (aA rfl) rfl rfl) ?_
 refine tr1 rfl (bM (aA rfl) rfl rfl rfl) ?_
 refine tr1 rfl (aC (v := .d (.lit (.bool ((!decide (r3.2 = 0)))))) (aA rfl) rfl rfl) ?_
 obtain ⟨b5, h6, h⟩ := bind_some h
 refine bU 8 [1, 2, 4, 5] 27 b5 ?_ ?_
 ·refine bE (!decide (r3.2 = 0)) (fun c28 => ?_) (fun c28 => ?_)
  ·have h6 := aX c28 h6
   refine aN rfl rfl (aA rfl) rfl (aA rfl) rfl c28 ?_
   refine aN rfl rfl (aA rfl) rfl (aA rfl) rfl c28 ?_
   refine aN rfl rfl (aA rfl) rfl (aA rfl) rfl c28 ?_
   refine aN rfl rfl (aA rfl) rfl (aA rfl) rfl c28 ?_
   refine aN rfl rfl (aA rfl) rfl (aA rfl) rfl c28 ?_
   refine aN rfl rfl (aA rfl) rfl (aA rfl) rfl c28 ?_
   refine aN rfl rfl (aA rfl) rfl (aA rfl) rfl c28 ?_
   refine tr1 rfl (bJ (v := .d (.lit (.bool true))) (aA rfl) rfl c28 rfl rfl) ?_
   have h6 := Option.some.inj h6
   subst h6
   refine aF (aW rfl ⟨rfl, rfl, rfl, rfl, trivial⟩ rfl)
  ·have h6 := aZ c28 h6
   refine aL rfl rfl (aA rfl) rfl c28 (aC (v := .d (.sl 4 (r3.1.map bF))) (aA rfl) rfl rfl) ?_
   refine aL rfl rfl (aA rfl) rfl c28 (dM (aA rfl) rfl nW.of) ?_
   refine aL rfl rfl (aA rfl) rfl c28 (aT (aA rfl) rfl dL) ?_
   refine aL rfl rfl (aA rfl) rfl c28 (aY (aA rfl) rfl (i := 0) rfl rfl dB) ?_
   refine aL rfl rfl (aA rfl) rfl c28 (dM (aA rfl) rfl cC.of) ?_
   refine aL rfl rfl (aA rfl) rfl c28 (bR (aA rfl) rfl rfl rfl) ?_
   refine aL rfl rfl (aA rfl) rfl c28 (bM (aA rfl) rfl rfl rfl) ?_
   refine tr1 rfl (bL (v := .d (.lit (.bool ((!decide ((r3.1.length : Int) = (w64 ((t_0.Slots.length : Int) - 1)))))))) (aA rfl) rfl c28 rfl rfl) ?_
   have h6 := Option.some.inj h6
   subst h6
   refine aF (aW rfl ⟨rfl, rfl, rfl, rfl, trivial⟩ rfl)
 ·refine aF ?_
  refine bY rfl (fun c7 => ?_) (fun c7 => ?_)
  ·have h := aX c7 h
   refine aH ?_
   refine aD ?_
   refine tr1 rfl (qK 4 (aA rfl)) ?_
   refine tr1 rfl (iO 3 1 (.inl rfl) (aA rfl)) ?_
   refine tr1 rfl (aK (v := .d (.lit (.bool false))) (aA rfl) rfl rfl) ?_
   refine aF ?_
   have h := Option.some.inj h
   subst h
   refine cT (cR (eF (k := 6) (v := .d (.lit (.bool false))) (.same _) (eF (k := 5) (v := .d (.sl 1 ((([] : List Int)).map aO))) (.d (fM 2 rfl (cP (f := aO) fun _ => rfl))) (eF (k := 4) (v := .d (.sl 4 ((([] : List bP)).map bF))) (.same _) (uN))))) ?_
   exact bV ⟨rfl, _, .three _ _ _, rfl, rfl⟩
  ·have h := aZ c7 h
   refine bX ?_
   refine aH ?_
   refine aH ?_
   refine aD ?_
   refine tr1 rfl (aK (v := .d (.lit (.int .i64 0))) (aA rfl) rfl rfl) ?_
   refine aF ?_
   refine cG ?_
   refine dN [1, 2] (fun (s9 : (List bP) × Int × (List Int) × Value) => [(4, .d (.sl 4 (s9.1.map bF))), (5, .d (.lit s9.2.2.2)), (8, .d (.lit (.int .i64 s9.2.1)))]) (fun (s9 : (List bP) × Int × (List Int) × Value) => [.box b1 0 (aS t_0), .arr s9.2.2.2 3 1 (s9.2.2.1.map aO)]) (fun (k : Nat) (s9 : (List bP) × Int × (List Int) × Value) => fV l_1 t_0 k s9.1 s9.2.1 s9.2.2.1) (fun _ => rfl) (r3.1, 0, ([] : List Int), (.slice none 0 0)) h (bI [0, 1] rfl rfl (aU rfl (aU rfl (aU rfl (bD ⟨rfl, rfl, trivial⟩))))) ?_
   rintro k11 ⟨bouts_0_9, i_0_9, winners_0_9, w10⟩ h
   simp only [fV] at h
   refine aH ?_
   refine aH ?_
   refine aD ?_
   refine tr1 rfl (aC (v := .d (.lit (.int .i64 i_0_9))) (aA rfl) rfl rfl) ?_
   refine tr1 rfl (aC (v := .d (.sl 4 (bouts_0_9.map bF))) (aA rfl) rfl rfl) ?_
   refine tr1 rfl (dM (aA rfl) rfl nW.of) ?_
   refine tr1 rfl (bM (aA rfl) rfl rfl rfl) ?_
   refine aF ?_
   refine bY rfl (fun c12 => ?_) (fun c12 => ?_)
   ·have h := aX c12 h
    refine bX ?_
    refine aH ?_
    refine cG ?_
    refine aH ?_
    obtain ⟨x13, h14, h⟩ := bind_some h
    obtain ⟨x15, h16, h⟩ := bind_some h
    obtain ⟨r17, h18, h⟩ := bind_some h
    refine dZ mix 17 [1, 2, 4, 5, 8] [(9, .d (.lit (.int .i64 r17.1))), (49, .d (.lit (.int .i64 r17.2)))] ?_ ?_
    ·refine ⟨[(35, 0, .agg (aS t_0)), (36, 1, .d (.sl 5 (l_1.map aI))), (37, 2, .d (.sl 4 (bouts_0_9.map bF))), (38, 3, .d (.lit (.int .i64 i_0_9))), (39, 4, .cp [.lit (.int .i64 x13.Round), .lit (.int .i64 x13.Place), .lit (.int .i64 x13.One), .lit (.int .i64 x13.Two)]), (40, 5, .cp [.lit (.int .i64 x13.Round)]), (41, 6, .d (.lit (.int .i64 x13.Round))), (42, 7, .d (.sl 4 (bouts_0_9.map bF))), (43, 8, .d (.lit (.int .i64 i_0_9))), (44, 9, .cp [.lit (.int .i64 x15.Round), .lit (.int .i64 x15.Place), .lit (.int .i64 x15.One), .lit (.int .i64 x15.Two)]), (45, 10, .cp [.lit (.int .i64 x15.Place)]), (46, 11, .d (.lit (.int .i64 x15.Place))), (47, 12, .tup [.d (.lit (.int .i64 r17.1)), .d (.lit (.int .i64 r17.2))]), (34, 13, .tup [.d (.lit (.int .i64 r17.1)), .d (.lit (.int .i64 r17.2))]), (48, 14, .d (.lit (.int .i64 r17.1))), (49, 15, .d (.lit (.int .i64 r17.2))), (9, 16, .d (.lit (.int .i64 r17.1)))], ?_, ?_⟩
     · exact ⟨by kernel_rfl, by kernel_rfl, by kernel_rfl, by kernel_rfl, by kernel_rfl, [([], []), ([], []), ([], []), ([], []), ([2, 3], []), ([4], []), ([5], []), ([], []), ([], []), ([7, 8], []), ([9], []), ([10], []), ([0, 1, 6, 11], []), ([12], []), ([13], []), ([13], []), ([14], [])], by kernel_rfl, ⟨fun S hS => aG rfl (aV rfl (bN (aA rfl) (aJ hS rfl) (i := 0) rfl dE (es := (aS t_0)) rfl rfl)),
      fun S hS => aG rfl (aV rfl (aC (v := .d (.sl 5 (l_1.map aI))) (aA rfl) (aJ hS rfl) rfl)),
      fun S hS => aG rfl (aV rfl (aC (v := .d (.sl 4 (bouts_0_9.map bF))) (aA rfl) (aJ hS rfl) rfl)),
      fun S hS => aG rfl (aV rfl (aC (v := .d (.lit (.int .i64 i_0_9))) (aA rfl) (aJ hS rfl) rfl)),
      fun S hS => aG rfl (aV rfl (bQ (aA rfl) (aJ hS rfl) (aJ hS rfl) nW.of (bZ bF h14))),
      fun S hS => aG rfl (aV rfl (cH (aA rfl) (aJ hS rfl) aJk (es := [.lit (.int .i64 x13.Round)]) rfl)),
      fun S hS => aG rfl (aV rfl (bT (aA rfl) (aJ hS rfl) bK)),
      fun S hS => aG rfl (aV rfl (aC (v := .d (.sl 4 (bouts_0_9.map bF))) (aA rfl) (aJ hS rfl) rfl)),
      fun S hS => aG rfl (aV rfl (aC (v := .d (.lit (.int .i64 i_0_9))) (aA rfl) (aJ hS rfl) rfl)),
      fun S hS => aG rfl (aV rfl (bQ (aA rfl) (aJ hS rfl) (aJ hS rfl) nW.of (bZ bF h16))),
      fun S hS => aG rfl (aV rfl (cH (aA rfl) (aJ hS rfl) aJl (es := [.lit (.int .i64 x15.Place)]) rfl)),
      fun S hS => aG rfl (aV rfl (bT (aA rfl) (aJ hS rfl) bK)),
      fun S hS => aG rfl (aV rfl (cJ (aA rfl) (.func _ _ Try.call20) (ev2 (aJ hS rfl) (ev2 (aJ hS rfl) (ev2 (aJ hS rfl) (ev2 (aJ hS rfl) evn)))) rfl (BVs.refl _ _) (pG _ _ _ _ h18) rfl)),
      fun S hS => aG rfl (aV rfl (aC (v := .tup [.d (.lit (.int .i64 r17.1)), .d (.lit (.int .i64 r17.2))]) (aA rfl) (aJ hS rfl) rfl)),
      fun S hS => aG rfl (aV rfl (bH (aA rfl) (aJ hS rfl) rfl)),
      fun S hS => aG rfl (aV rfl (bH (aA rfl) (aJ hS rfl) rfl)),
      fun S hS => aG rfl (aV rfl (aK (v := .d (.lit (.int .i64 r17.1))) (aA rfl) (aJ hS rfl) rfl)), trivial⟩⟩
     · exact cZ (aU rfl (aU rfl (bD ⟨rfl, rfl, rfl, rfl, rfl, trivial⟩)))
    ·refine tr1 rfl (aK (v := .d (.lit (.int .i64 r17.2))) (aA rfl) rfl rfl) ?_
     refine aF ?_
     refine aH ?_
     refine aH ?_
     refine aD ?_
     refine tr1 rfl (aC (v := .d (.lit (.int .i64 r17.2))) (aA rfl) rfl rfl) ?_
     refine tr1 rfl (bM (aA rfl) rfl rfl rfl) ?_
     refine aF ?_
     refine bY rfl (fun c19 => ?_) (fun c19 => ?_)
     ·have h := aX c19 h
      refine aD ?_
      refine tr1 rfl (aK (v := .d (.lit (.int .i64 (-2)))) (aA rfl) rfl rfl) ?_
      refine aF ?_
      refine aD ?_
      refine tr1 rfl (aC (v := .d (.lit w10)) (aA rfl) rfl rfl) ?_
      refine tr1 rfl (aC (v := .d (.lit (.int .i64 (-2)))) (aA rfl) rfl rfl) ?_
      refine tr1 rfl (eV (aA rfl) cC rfl rfl (rows := ([(-2)]).map aO) rfl (cP (f := aO) fun _ => rfl) rfl (by decide)) ?_
      obtain ⟨x20, h21, h⟩ := bind_some h
      refine cB rfl (eO (i := 1) (aA rfl) cC rfl rfl rfl (fun _ => rfl) h21 rfl) ?_
      rintro _ ⟨v22, rfl⟩
      refine tr1 rfl (aK (v := .d (.lit v22)) (aA rfl) rfl rfl) ?_
      refine fF ?_
      refine aD ?_
      refine tr1 rfl (aC (v := .d (.lit (.int .i64 i_0_9))) (aA rfl) rfl rfl) ?_
      refine tr1 rfl (bR (aA rfl) rfl rfl rfl) ?_
      refine tr1 rfl (aK (v := .d (.lit (.int .i64 ((w64 (i_0_9 + 1)))))) (aA rfl) rfl rfl) ?_
      refine aF ?_
      exact ⟨(bouts_0_9, w64 (i_0_9 + 1), x20, v22), h, bI [0, 1] rfl rfl (aU rfl (aU rfl (aU rfl (bD ⟨rfl, rfl, trivial⟩))))⟩
     ·have h := aZ c19 h
      refine aH ?_
      refine aD ?_
      refine tr1 rfl (aC (v := .d (.lit (.int .i64 r17.2))) (aA rfl) rfl rfl) ?_
      refine tr1 rfl (bM (aA rfl) rfl rfl rfl) ?_
      refine aF ?_
      refine bY rfl (fun c23 => ?_) (fun c23 => ?_)
      ·have h := aX c23 h
       refine aH ?_
       refine aD ?_
       refine tr1 rfl (qK 4 (aA rfl)) ?_
       refine tr1 rfl (iO 3 1 (.inl rfl) (aA rfl)) ?_
       refine tr1 rfl (aK (v := .d (.lit (.bool false))) (aA rfl) rfl rfl) ?_
       refine aF ?_
       have h := Option.some.inj h
       subst h
       refine cT (cR (eF (k := 6) (v := .d (.lit (.bool false))) (.same _) (eF (k := 5) (v := .d (.sl 1 ((([] : List Int)).map aO))) (.d (fM 2 rfl (cP (f := aO) fun _ => rfl))) (eF (k := 4) (v := .d (.sl 4 ((([] : List bP)).map bF))) (.same _) (uN))))) ?_
       exact bV ⟨rfl, _, .three _ _ _, rfl, rfl⟩
      ·have h := aZ c23 h
       refine bX ?_
       refine aD ?_
       refine tr1 rfl (aC (v := .d (.lit w10)) (aA rfl) rfl rfl) ?_
       refine tr1 rfl (aC (v := .d (.lit (.int .i64 r17.1))) (aA rfl) rfl rfl) ?_
       refine tr1 rfl (eV (aA rfl) cC rfl rfl (rows := ([r17.1]).map aO) rfl (cP (f := aO) fun _ => rfl) rfl (by decide)) ?_
       obtain ⟨x25, h26, h⟩ := bind_some h
       refine cB rfl (eO (i := 1) (aA rfl) cC rfl rfl rfl (fun _ => rfl) h26 rfl) ?_
       rintro _ ⟨v27, rfl⟩
       refine tr1 rfl (aK (v := .d (.lit v27)) (aA rfl) rfl rfl) ?_
       refine fF ?_
       refine aD ?_
       refine tr1 rfl (aC (v := .d (.lit (.int .i64 i_0_9))) (aA rfl) rfl rfl) ?_
       refine tr1 rfl (bR (aA rfl) rfl rfl rfl) ?_
       refine tr1 rfl (aK (v := .d (.lit (.int .i64 ((w64 (i_0_9 + 1)))))) (aA rfl) rfl rfl) ?_
       refine aF ?_
       exact ⟨(bouts_0_9, w64 (i_0_9 + 1), x25, v27), h, bI [0, 1] rfl rfl (aU rfl (aU rfl (aU rfl (bD ⟨rfl, rfl, trivial⟩))))⟩
   ·have h := aZ c12 h
    refine dC ?_
    refine .inl ⟨rfl, ?_⟩
    simp only [oV] at h
    refine aH ?_
    refine aD ?_
    refine tr1 rfl (aC (v := .d (.sl 4 (bouts_0_9.map bF))) (aA rfl) rfl rfl) ?_
    refine tr1 rfl (aC (v := .d (.lit w10)) (aA rfl) rfl rfl) ?_
    refine tr1 rfl (aK (v := .d (.sl 4 (bouts_0_9.map bF))) (aA rfl) rfl rfl) ?_
    refine tr1 rfl (aK (v := .d (.lit w10)) (aA rfl) rfl rfl) ?_
    refine tr1 rfl (aK (v := .d (.lit (.bool true))) (aA rfl) rfl rfl) ?_
    refine aF ?_
    have h := Option.some.inj h
    subst h
    refine cT (cR (eF (k := 6) (v := .d (.lit (.bool true))) (.same _) (eF (k := 5) (v := .d (.sl 1 (winners_0_9.map aO))) (.d (fM 1 rfl (cP (f := aO) fun _ => rfl))) (eF (k := 4) (v := .d (.sl 4 (bouts_0_9.map bF))) (.same _) (uN))))) ?_
    exact bV ⟨rfl, _, .three _ _ _, rfl, rfl⟩

theorem gM (a_0 : List bP) (b_1 : List bP) {r : Bool} (h : dT a_0 b_1 = some r) : Fn Try.prog 22 [.d (.sl 4 (a_0.map bF)), .d (.sl 4 (b_1.map bF))] (.d (.lit (.bool r))) := by
 unfold dT at h
 refine Fn.of_tr Try.func22 rfl (rs := [.tmp 4]) Try.results22 Try.ntmps22 (Nat.le_of_ble_eq_true rfl) ?_
 refine aH ?_
 refine aD ?_
 refine tr1 rfl (aK (v := .d (.lit (.bool false))) (aA rfl) rfl rfl) ?_
 refine aF ?_
 refine aH ?_
 refine aH ?_
 refine aD ?_
 refine tr1 rfl (aC (v := .d (.sl 4 (a_0.map bF))) (aA rfl) rfl rfl) ?_
 refine tr1 rfl (dM (aA rfl) rfl nW.of) ?_
 refine tr1 rfl (aC (v := .d (.sl 4 (b_1.map bF))) (aA rfl) rfl rfl) ?_
 refine tr1 rfl (dM (aA rfl) rfl nW.of) ?_
 refine tr1 rfl (bM (aA rfl) rfl rfl rfl) ?_
 refine aF ?_
 refine bY rfl (fun c1 => ?_) (fun c1 => ?_)
 ·have h := aX c1 h
  refine aH ?_
  refine aD ?_
  refine tr1 rfl (aK (v := .d (.lit (.bool false))) (aA rfl) rfl rfl) ?_
  refine aF ?_
  have h := Option.some.inj h
  subst h
  exact bV ⟨rfl, _, .one _, rfl, rfl⟩
 ·have h := aZ c1 h
  refine bX ?_
  refine aH ?_
  refine aH ?_
  refine aD ?_
  refine tr1 rfl (aK (v := .d (.lit (.int .i64 0))) (aA rfl) rfl rfl) ?_
  refine aF ?_
  refine cG ?_
  refine dN [0, 1] (fun (s2 : Int) => [(5, .d (.lit (.int .i64 s2)))]) (fun (s2 : Int) => []) (fun (k : Nat) (s2 : Int) => fC a_0 b_1 k s2) (fun _ => rfl) (0) h (bI [] rfl rfl (aU rfl (bD ⟨rfl, rfl, trivial⟩))) ?_
  rintro k3 i_0_2 h
  simp only [fC] at h
  refine aH ?_
  refine aH ?_
  refine aD ?_
  refine tr1 rfl (aC (v := .d (.lit (.int .i64 i_0_2))) (aA rfl) rfl rfl) ?_
  refine tr1 rfl (aC (v := .d (.sl 4 (a_0.map bF))) (aA rfl) rfl rfl) ?_
  refine tr1 rfl (dM (aA rfl) rfl nW.of) ?_
  refine tr1 rfl (bM (aA rfl) rfl rfl rfl) ?_
  refine aF ?_
  refine bY rfl (fun c4 => ?_) (fun c4 => ?_)
  ·have h := aX c4 h
   refine bX ?_
   refine aH ?_
   refine cG ?_
   refine aH ?_
   obtain ⟨x5, h6, h⟩ := bind_some h
   obtain ⟨x7, h8, h⟩ := bind_some h
   refine dZ mix 8 [0, 1, 5] [(20, .agg (bF x5)), (24, .agg (bF x7))] ?_ ?_
   ·refine ⟨[(17, 0, .d (.sl 4 (a_0.map bF))), (18, 1, .d (.lit (.int .i64 i_0_2))), (19, 2, .cp [.lit (.int .i64 x5.Round), .lit (.int .i64 x5.Place), .lit (.int .i64 x5.One), .lit (.int .i64 x5.Two)]), (20, 3, .agg (bF x5)), (21, 4, .d (.sl 4 (b_1.map bF))), (22, 5, .d (.lit (.int .i64 i_0_2))), (23, 6, .cp [.lit (.int .i64 x7.Round), .lit (.int .i64 x7.Place), .lit (.int .i64 x7.One), .lit (.int .i64 x7.Two)]), (24, 7, .agg (bF x7))], ?_, ?_⟩
    · exact ⟨by kernel_rfl, by kernel_rfl, by kernel_rfl, by kernel_rfl, by kernel_rfl, [([], []), ([], []), ([0, 1], []), ([2], []), ([], []), ([], []), ([4, 5], []), ([6], [])], by kernel_rfl, ⟨fun S hS => aG rfl (aV rfl (aC (v := .d (.sl 4 (a_0.map bF))) (aA rfl) (aJ hS rfl) rfl)),
      fun S hS => aG rfl (aV rfl (aC (v := .d (.lit (.int .i64 i_0_2))) (aA rfl) (aJ hS rfl) rfl)),
      fun S hS => aG rfl (aV rfl (bQ (aA rfl) (aJ hS rfl) (aJ hS rfl) nW.of (bZ bF h6))),
      fun S hS => aG rfl (aV rfl (gY (aA rfl) (aJ hS rfl) wM (es := (bF x5)) rfl rfl)),
      fun S hS => aG rfl (aV rfl (aC (v := .d (.sl 4 (b_1.map bF))) (aA rfl) (aJ hS rfl) rfl)),
      fun S hS => aG rfl (aV rfl (aC (v := .d (.lit (.int .i64 i_0_2))) (aA rfl) (aJ hS rfl) rfl)),
      fun S hS => aG rfl (aV rfl (bQ (aA rfl) (aJ hS rfl) (aJ hS rfl) nW.of (bZ bF h8))),
      fun S hS => aG rfl (aV rfl (gY (aA rfl) (aJ hS rfl) wM (es := (bF x7)) rfl rfl)), trivial⟩⟩
    · exact cZ (aU rfl (aU rfl (bD ⟨rfl, rfl, rfl, trivial⟩)))
   ·refine tr1 rfl (aCk (a := x5) (b := x7) (aA rfl) rfl rfl rfl rfl Try.eqGuardType57 aDe) ?_
    refine aF ?_
    refine bY rfl (fun c9 => ?_) (fun c9 => ?_)
    ·have h := aX c9 h
     refine aH ?_
     refine aD ?_
     refine tr1 rfl (aK (v := .d (.lit (.bool false))) (aA rfl) rfl rfl) ?_
     refine aF ?_
     have h := Option.some.inj h
     subst h
     exact bV ⟨rfl, _, .one _, rfl, rfl⟩
    ·have h := aZ c9 h
     refine fD ?_
     refine aD ?_
     refine tr1 rfl (aC (v := .d (.lit (.int .i64 i_0_2))) (aA rfl) rfl rfl) ?_
     refine tr1 rfl (bR (aA rfl) rfl rfl rfl) ?_
     refine tr1 rfl (aK (v := .d (.lit (.int .i64 ((w64 (i_0_2 + 1)))))) (aA rfl) rfl rfl) ?_
     refine aF ?_
     exact ⟨(w64 (i_0_2 + 1)), h, bI [] rfl rfl (aU rfl (bD ⟨rfl, rfl, trivial⟩))⟩
  ·have h := aZ c4 h
   refine dC ?_
   refine .inl ⟨rfl, ?_⟩
   simp only [lV] at h
   refine aH ?_
   refine aD ?_
   refine tr1 rfl (aK (v := .d (.lit (.bool true))) (aA rfl) rfl rfl) ?_
   refine aF ?_
   have h := Option.some.inj h
   subst h
   exact bV ⟨rfl, _, .one _, rfl, rfl⟩

theorem sL (t_0 : aP) (l_1 : List aE) (x_2 : eQ) {r : Bool} (h : jV t_0 l_1 x_2 = some r) : Fn Try.prog 5 [.agg (aS t_0), .d (.sl 5 (l_1.map aI)), .agg (dY x_2)] (.d (.lit (.bool r))) := by
 unfold jV at h
 refine Fn.of_tr Try.func5 rfl (rs := [.tmp 6]) Try.results5 Try.ntmps5 (Nat.le_of_ble_eq_true rfl) ?_
 refine aH ?_
 refine aD ?_
 refine cB rfl (gK (v := .agg (aS t_0)) (aA rfl) rfl rfl rfl) ?_
 rintro _ ⟨b1, rfl⟩
 refine cB rfl (gK (v := .agg (dY x_2)) (aA rfl) rfl rfl rfl) ?_
 rintro _ ⟨b2, rfl⟩
 refine tr1 rfl (aK (v := .d (.lit (.bool false))) (aA rfl) rfl rfl) ?_
 refine aF ?_
 refine aH ?_
 refine aH ?_
 refine aD ?_
 refine tr1 rfl (bN (aA rfl) rfl (i := 0) rfl dE (es := (aS t_0)) rfl rfl) ?_
 refine tr1 rfl (aC (v := .d (.sl 5 (l_1.map aI))) (aA rfl) rfl rfl) ?_
 obtain ⟨r3, h4, h⟩ := bind_some h
 refine tr1 rfl (cJ (aA rfl) (.func _ _ Try.call12) rfl rfl (BVs.refl _ _) (wT _ _ h4) rfl) ?_
 refine tr1 rfl (gZ (aA rfl) rfl) ?_
 refine tr1 rfl (aC (v := .d (.lit (.bool (!r3)))) (aA rfl) rfl rfl) ?_
 obtain ⟨b5, h6, h⟩ := bind_some h
 refine bU 4 [1, 3, 5] 28 b5 ?_ ?_
 ·refine bE (!r3) (fun c247 => ?_) (fun c247 => ?_)
  ·have h6 := aX c247 h6
   refine aN rfl rfl (aA rfl) rfl (aA rfl) rfl c247 ?_
   refine aN rfl rfl (aA rfl) rfl (aA rfl) rfl c247 ?_
   refine aN rfl rfl (aA rfl) rfl (aA rfl) rfl c247 ?_
   refine tr1 rfl (bJ (v := .d (.lit (.bool true))) (aA rfl) rfl c247 rfl rfl) ?_
   have h6 := Option.some.inj h6
   subst h6
   refine aF (aW rfl ⟨rfl, rfl, rfl, trivial⟩ rfl)
  ·have h6 := aZ c247 h6
   refine aL rfl rfl (aA rfl) rfl c247 (aC (v := .d (.sl 5 (l_1.map aI))) (aA rfl) rfl rfl) ?_
   refine aL rfl rfl (aA rfl) rfl c247 (dM (aA rfl) rfl dH.of) ?_
   refine aL rfl rfl (aA rfl) rfl c247 (bM (aA rfl) rfl rfl rfl) ?_
   refine tr1 rfl (bL (v := .d (.lit (.bool ((decide (58 < (l_1.length : Int))))))) (aA rfl) rfl c247 rfl rfl) ?_
   have h6 := Option.some.inj h6
   subst h6
   refine aF (aW rfl ⟨rfl, rfl, rfl, trivial⟩ rfl)
 ·refine tr1 rfl (aC (v := .d (.lit (.bool b5))) (aA rfl) rfl rfl) ?_
  obtain ⟨b7, h8, h⟩ := bind_some h
  refine bU 4 [1, 3, 5] 33 b7 ?_ ?_
  ·refine bE (b5) (fun c246 => ?_) (fun c246 => ?_)
   ·have h8 := aX c246 h8
    refine aN rfl rfl (aA rfl) rfl (aA rfl) rfl c246 ?_
    refine aN rfl rfl (aA rfl) rfl (aA rfl) rfl c246 ?_
    refine aN rfl rfl (aA rfl) rfl (aA rfl) rfl c246 ?_
    refine tr1 rfl (bJ (v := .d (.lit (.bool true))) (aA rfl) rfl c246 rfl rfl) ?_
    have h8 := Option.some.inj h8
    subst h8
    refine aF (aW rfl ⟨rfl, rfl, rfl, trivial⟩ rfl)
   ·have h8 := aZ c246 h8
    refine aL rfl rfl (aA rfl) rfl c246 (aT (aA rfl) rfl aDi) ?_
    refine aL rfl rfl (aA rfl) rfl c246 (aY (aA rfl) rfl (i := 1) rfl rfl bK) ?_
    refine aL rfl rfl (aA rfl) rfl c246 (bM (aA rfl) rfl rfl rfl) ?_
    refine tr1 rfl (bL (v := .d (.lit (.bool ((decide (x_2.A < 0)))))) (aA rfl) rfl c246 rfl rfl) ?_
    have h8 := Option.some.inj h8
    subst h8
    refine aF (aW rfl ⟨rfl, rfl, rfl, trivial⟩ rfl)
  ·refine aF ?_
   refine bY rfl (fun c9 => ?_) (fun c9 => ?_)
   ·have h := aX c9 h
    refine aH ?_
    refine aD ?_
    obtain ⟨r10, h11, h⟩ := bind_some h
    refine tr1 rfl (cJ (aA rfl) (.func _ _ Try.call14) rfl rfl (BVs.refl _ _) (iF h11) rfl) ?_
    refine tr1 rfl (aK (v := .d (.lit (.bool r10))) (aA rfl) rfl rfl) ?_
    refine aF ?_
    have h := Option.some.inj h
    subst h
    refine cT (cR (cW (l := [6]) ⟨rfl, trivial⟩)) ?_
    exact bV ⟨rfl, _, .one _, rfl, rfl⟩
   ·have h := aZ c9 h
    refine bX ?_
    refine aH ?_
    refine aD ?_
    refine tr1 rfl (iO 32 5 (.inl rfl) (aA rfl)) ?_
    refine aF ?_
    refine aH ?_
    refine aH ?_
    refine aD ?_
    refine tr1 rfl (aC (v := .d (.sl 5 (l_1.map aI))) (aA rfl) rfl rfl) ?_
    refine tr1 rfl (dM (aA rfl) rfl dH.of) ?_
    refine tr1 rfl (bR (aA rfl) rfl rfl rfl) ?_
    refine tr1 rfl (aK (v := .d (.lit (.int .i64 ((w64 ((l_1.length : Int) - 1)))))) (aA rfl) rfl rfl) ?_
    refine aF ?_
    refine cG ?_
    refine dN [1, 3, 5] (fun (s13 : Int × (List aE) × Value) => [(7, .d (.lit s13.2.2)), (8, .d (.lit (.int .i64 s13.1)))]) (fun (s13 : Int × (List aE) × Value) => [.box b1 0 (aS t_0), .box b2 0 (dY x_2), .arr s13.2.2 32 5 (s13.2.1.map aI)]) (fun (k : Nat) (s13 : Int × (List aE) × Value) => dV l_1 t_0 x_2 k s13.1 s13.2.1) (fun _ => rfl) (w64 ((l_1.length : Int) - 1), ([] : List aE), (.slice none 0 0)) h (bI [0, 1, 2] rfl rfl (aU rfl (aU rfl (bD ⟨rfl, rfl, rfl, trivial⟩)))) ?_
    rintro k15 ⟨i_0_13, moved_0_13, w14⟩ h
    simp only [dV] at h
    refine aH ?_
    refine aH ?_
    refine aD ?_
    refine tr1 rfl (aC (v := .d (.lit (.int .i64 i_0_13))) (aA rfl) rfl rfl) ?_
    refine tr1 rfl (bM (aA rfl) rfl rfl rfl) ?_
    refine aF ?_
    refine bY rfl (fun c16 => ?_) (fun c16 => ?_)
    ·have h := aX c16 h
     refine bX ?_
     refine aH ?_
     refine cG ?_
     refine aD ?_
     refine tr1 rfl (aC (v := .d (.lit w14)) (aA rfl) rfl rfl) ?_
     refine tr1 rfl (aC (v := .d (.sl 5 (l_1.map aI))) (aA rfl) rfl rfl) ?_
     refine tr1 rfl (aC (v := .d (.lit (.int .i64 i_0_13))) (aA rfl) rfl rfl) ?_
     refine tr1 rfl (aT (aA rfl) rfl aDi) ?_
     refine tr1 rfl (aY (aA rfl) rfl (i := 1) rfl rfl bK) ?_
     refine tr1 rfl (aC (v := .d (.sl 5 (l_1.map aI))) (aA rfl) rfl rfl) ?_
     refine tr1 rfl (dM (aA rfl) rfl dH.of) ?_
     obtain ⟨u17, h18, h⟩ := bind_some h
     refine tr1 rfl (aGz (aA rfl) rfl rfl (aKo h18)) ?_
     refine tr1 rfl (bR (aA rfl) rfl rfl rfl) ?_
     refine tr1 rfl (aC (v := .d (.sl 5 (l_1.map aI))) (aA rfl) rfl rfl) ?_
     refine tr1 rfl (dM (aA rfl) rfl dH.of) ?_
     obtain ⟨u19, h20, h⟩ := bind_some h
     refine tr1 rfl (aGz (aA rfl) rfl rfl (aKo h20)) ?_
     obtain ⟨x21, h22, h⟩ := bind_some h
     refine tr1 rfl (bQ (aA rfl) rfl rfl dH.of (bZ aI h22)) ?_
     refine tr1 rfl (gY (aA rfl) rfl iK (es := (aI x21)) rfl rfl) ?_
     refine tr1 rfl (eV (aA rfl) dH rfl rfl (rows := ([x21]).map aI) rfl (cP (f := aI) fun _ => rfl) rfl (by decide)) ?_
     obtain ⟨x23, h24, h⟩ := bind_some h
     refine cB rfl (eO (i := 2) (aA rfl) dH rfl rfl rfl (fun _ => rfl) h24 rfl) ?_
     rintro _ ⟨v25, rfl⟩
     refine tr1 rfl (aK (v := .d (.lit v25)) (aA rfl) rfl rfl) ?_
     refine fF ?_
     refine aD ?_
     refine tr1 rfl (aC (v := .d (.lit (.int .i64 i_0_13))) (aA rfl) rfl rfl) ?_
     refine tr1 rfl (bR (aA rfl) rfl rfl rfl) ?_
     refine tr1 rfl (aK (v := .d (.lit (.int .i64 ((w64 (i_0_13 - 1)))))) (aA rfl) rfl rfl) ?_
     refine aF ?_
     exact ⟨(w64 (i_0_13 - 1), x23, v25), h, bI [0, 1, 2] rfl rfl (aU rfl (aU rfl (bD ⟨rfl, rfl, rfl, trivial⟩)))⟩
    ·have h := aZ c16 h
     refine dC ?_
     refine .inl ⟨rfl, ?_⟩
     simp only [fE] at h
     refine aH ?_
     refine aH ?_
     refine aD ?_
     refine tr1 rfl (aC (v := .d (.sl 5 (l_1.map aI))) (aA rfl) rfl rfl) ?_
     refine tr1 rfl (dM (aA rfl) rfl dH.of) ?_
     refine tr1 rfl (bM (aA rfl) rfl rfl rfl) ?_
     refine aF ?_
     refine bY rfl (fun c26 => ?_) (fun c26 => ?_)
     ·have h := aX c26 h
      refine aD ?_
      refine tr1 rfl (aC (v := .d (.lit w14)) (aA rfl) rfl rfl) ?_
      refine tr1 rfl (aC (v := .d (.sl 5 (l_1.map aI))) (aA rfl) rfl rfl) ?_
      obtain ⟨x27, h28, h⟩ := bind_some h
      refine tr1 rfl (bQ (aA rfl) rfl rfl dH.of (bZ aI h28)) ?_
      refine tr1 rfl (gY (aA rfl) rfl iK (es := (aI x27)) rfl rfl) ?_
      refine tr1 rfl (eV (aA rfl) dH rfl rfl (rows := ([x27]).map aI) rfl (cP (f := aI) fun _ => rfl) rfl (by decide)) ?_
      obtain ⟨x29, h30, h⟩ := bind_some h
      refine cB rfl (eO (i := 2) (aA rfl) dH rfl rfl rfl (fun _ => rfl) h30 rfl) ?_
      rintro _ ⟨v31, rfl⟩
      refine tr1 rfl (aK (v := .d (.lit v31)) (aA rfl) rfl rfl) ?_
      refine aF ?_
      refine aH ?_
      refine aH ?_
      refine aD ?_
      refine tr1 rfl (bN (aA rfl) rfl (i := 0) rfl dE (es := (aS t_0)) rfl rfl) ?_
      refine tr1 rfl (aT (aA rfl) rfl kW) ?_
      refine tr1 rfl (aY (aA rfl) rfl (i := 1) rfl rfl bK) ?_
      refine tr1 rfl (aT (aA rfl) rfl kX) ?_
      refine tr1 rfl (aY (aA rfl) rfl (i := 1) rfl rfl bK) ?_
      obtain ⟨r32, h33, h⟩ := bind_some h
      refine tr1 rfl (cJ (aA rfl) (.func _ _ Try.call13) rfl rfl (BVs.refl _ _) (nA _ _ _ h33) rfl) ?_
      refine aF ?_
      refine bY rfl (fun c34 => ?_) (fun c34 => ?_)
      ·have h := aX c34 h
       refine aH ?_
       refine aD ?_
       refine tr1 rfl (bN (aA rfl) rfl (i := 0) rfl dE (es := (aS t_0)) rfl rfl) ?_
       refine tr1 rfl (aC (v := .d (.sl 5 (l_1.map aI))) (aA rfl) rfl rfl) ?_
       refine tr1 rfl (aT (aA rfl) rfl kW) ?_
       refine tr1 rfl (aY (aA rfl) rfl (i := 1) rfl rfl bK) ?_
       refine tr1 rfl (aT (aA rfl) rfl kX) ?_
       refine tr1 rfl (aY (aA rfl) rfl (i := 1) rfl rfl bK) ?_
       obtain ⟨r35, h36, h⟩ := bind_some h
       refine tr1 rfl (cJ (aA rfl) (.func _ _ Try.call20) rfl rfl (BVs.refl _ _) (pG _ _ _ _ h36) rfl) ?_
       refine tr1 rfl (aC (v := .tup [.d (.lit (.int .i64 r35.1)), .d (.lit (.int .i64 r35.2))]) (aA rfl) rfl rfl) ?_
       refine tr1 rfl (bH (aA rfl) rfl rfl) ?_
       refine tr1 rfl (bH (aA rfl) rfl rfl) ?_
       refine tr1 rfl (aK (v := .d (.lit (.int .i64 r35.1))) (aA rfl) rfl rfl) ?_
       refine tr1 rfl (aK (v := .d (.lit (.int .i64 r35.2))) (aA rfl) rfl rfl) ?_
       refine aF ?_
       refine aH ?_
       refine aD ?_
       refine tr1 rfl (aT (aA rfl) rfl kW) ?_
       refine tr1 rfl (aY (aA rfl) rfl (i := 1) rfl rfl bK) ?_
       refine tr1 rfl (aT (aA rfl) rfl kX) ?_
       refine tr1 rfl (aY (aA rfl) rfl (i := 1) rfl rfl bK) ?_
       refine tr1 rfl (aC (v := .d (.lit (.int .i64 r35.1))) (aA rfl) rfl rfl) ?_
       refine tr1 rfl (aKq (aA rfl) rfl rfl) ?_
       refine tr1 rfl (eZ (aA rfl) uY (zs := [.lit (.int .i64 0), .lit (.int .i64 0), .lit (.int .i64 0), .lit (.int .i64 0), .lit (.int .i64 0)]) rfl rfl rfl rfl (es := [.lit (.int .i64 1), .lit (.int .i64 x_2.Round), .lit (.int .i64 x_2.Place), .lit (.int .i64 ((max 0 r35.1))), .lit (.int .i64 0)]) rfl) ?_
       refine cB rfl (eC (zs := [.lit (.int .i64 0), .lit (.int .i64 0), .lit (.int .i64 0), .lit (.int .i64 0), .lit (.int .i64 0)]) (aA rfl) Try.zeroValue32 rfl rfl) ?_
       rintro _ ⟨b37, rfl⟩
       refine tr1 rfl (cM (i := 3) rfl rfl rfl rfl rfl Try.sizeOf32 rfl (aA rfl) (Nat.le_of_ble_eq_true rfl) (ds' := (aI (aE.mk 1 x_2.Round x_2.Place (max 0 r35.1) 0))) rfl) ?_
       refine aF ?_
       refine aH ?_
       refine aD ?_
       refine tr1 rfl (aC (v := .d (.lit (.int .i64 r35.2))) (aA rfl) rfl rfl) ?_
       refine tr1 rfl (bM (aA rfl) rfl rfl rfl) ?_
       refine tr1 rfl (aC (v := .d (.lit (.bool ((decide (r35.2 = 0)))))) (aA rfl) rfl rfl) ?_
       obtain ⟨b38, h39, h⟩ := bind_some h
       refine bU 25 [1, 3, 5, 7, 11] 117 b38 ?_ ?_
       ·refine bE (decide (r35.2 = 0)) (fun c106 => ?_) (fun c106 => ?_)
        ·have h39 := aX c106 h39
         refine aL rfl rfl (aA rfl) rfl c106 (aT (aA rfl) rfl kW) ?_
         refine aL rfl rfl (aA rfl) rfl c106 (aY (aA rfl) rfl (i := 1) rfl rfl bK) ?_
         refine aL rfl rfl (aA rfl) rfl c106 (bM (aA rfl) rfl rfl rfl) ?_
         refine aL rfl rfl (aA rfl) rfl c106 (aC (v := .d (.lit (.bool ((decide (0 < x_2.Round)))))) (aA rfl) rfl rfl) ?_
         obtain ⟨b107, h108, h39⟩ := bind_some h39
         refine bU 20 [1, 3, 5, 7, 11, 92] 116 b107 ?_ ?_
         ·refine bE (decide (0 < x_2.Round)) (fun c109 => ?_) (fun c109 => ?_)
          ·have h108 := aX c109 h108
           refine aN rfl rfl (aA rfl) rfl (aA rfl) rfl c109 ?_
           refine aN rfl rfl (aA rfl) rfl (aA rfl) rfl c109 ?_
           refine aN rfl rfl (aA rfl) rfl (aA rfl) rfl c109 ?_
           refine aN rfl rfl (aA rfl) rfl (aA rfl) rfl c109 ?_
           refine aN rfl rfl (aA rfl) rfl (aA rfl) rfl c109 ?_
           refine aN rfl rfl (aA rfl) rfl (aA rfl) rfl c109 ?_
           refine aN rfl rfl (aA rfl) rfl (aA rfl) rfl c109 ?_
           refine aN rfl rfl (aA rfl) rfl (aA rfl) rfl c109 ?_
           refine aN rfl rfl (aA rfl) rfl (aA rfl) rfl c109 ?_
           refine bS rfl rfl (aA rfl) rfl (aA rfl) rfl ?_
           refine bS rfl rfl (aA rfl) rfl (aA rfl) rfl ?_
           refine bS rfl rfl (aA rfl) rfl (aA rfl) rfl ?_
           refine bS rfl rfl (aA rfl) rfl (aA rfl) rfl ?_
           refine bS rfl rfl (aA rfl) rfl (aA rfl) rfl ?_
           refine bS rfl rfl (aA rfl) rfl (aA rfl) rfl ?_
           refine bS rfl rfl (aA rfl) rfl (aA rfl) rfl ?_
           refine bS rfl rfl (aA rfl) rfl (aA rfl) rfl ?_
           refine bS rfl rfl (aA rfl) rfl (aA rfl) rfl ?_
           refine aN rfl rfl (aA rfl) rfl (aA rfl) rfl c109 ?_
           refine aL rfl rfl (aA rfl) rfl c106 (bJ (v := .d (.lit (.bool true))) (aA rfl) rfl c109 rfl rfl) ?_
           have h108 := Option.some.inj h108
           subst h108
           refine aF (aW rfl ⟨rfl, rfl, rfl, rfl, rfl, rfl, trivial⟩ rfl)
          ·have h108 := aZ c109 h108
           refine aL rfl rfl (aA rfl) rfl c109 (aT (aA rfl) rfl dL) ?_
           refine aL rfl rfl (aA rfl) rfl c109 (aY (aA rfl) rfl (i := 0) rfl rfl dB) ?_
           refine aL rfl rfl (aA rfl) rfl c109 (aT (aA rfl) rfl kX) ?_
           refine aL rfl rfl (aA rfl) rfl c109 (aY (aA rfl) rfl (i := 1) rfl rfl bK) ?_
           refine aL rfl rfl (aA rfl) rfl c109 (bR (aA rfl) rfl rfl rfl) ?_
           obtain ⟨x110, h111, h108⟩ := bind_some h108
           refine aL rfl rfl (aA rfl) rfl c109 (bQ (aA rfl) rfl rfl cC.of (bZ aO h111)) ?_
           refine aL rfl rfl (aA rfl) rfl c109 (bT (aA rfl) rfl bK) ?_
           refine aL rfl rfl (aA rfl) rfl c109 (bM (aA rfl) rfl rfl rfl) ?_
           refine aL rfl rfl (aA rfl) rfl c109 (aC (v := .d (.lit (.bool ((!decide (x110 = (-1))))))) (aA rfl) rfl rfl) ?_
           obtain ⟨b112, h113, h108⟩ := bind_some h108
           refine bU 10 [1, 3, 5, 7, 11, 92, 96] 115 b112 ?_ ?_
           ·refine bE (!decide (x110 = (-1))) (fun c114 => ?_) (fun c114 => ?_)
            ·have h113 := aX c114 h113
             refine aL rfl rfl (aA rfl) rfl c114 (aT (aA rfl) rfl dL) ?_
             refine aL rfl rfl (aA rfl) rfl c114 (aY (aA rfl) rfl (i := 0) rfl rfl dB) ?_
             refine aL rfl rfl (aA rfl) rfl c114 (aT (aA rfl) rfl kX) ?_
             refine aL rfl rfl (aA rfl) rfl c114 (aY (aA rfl) rfl (i := 1) rfl rfl bK) ?_
             refine aL rfl rfl (aA rfl) rfl c114 (bR (aA rfl) rfl rfl rfl) ?_
             refine aL rfl rfl (aA rfl) rfl c114 (bR (aA rfl) rfl rfl rfl) ?_
             obtain ⟨x115, h116, h113⟩ := bind_some h113
             refine aL rfl rfl (aA rfl) rfl c114 (bQ (aA rfl) rfl rfl cC.of (bZ aO h116)) ?_
             refine aL rfl rfl (aA rfl) rfl c114 (bT (aA rfl) rfl bK) ?_
             refine aL rfl rfl (aA rfl) rfl c114 (bM (aA rfl) rfl rfl rfl) ?_
             refine aL rfl rfl (aA rfl) rfl c109 (bJ (v := .d (.lit (.bool ((!decide (x115 = (-1))))))) (aA rfl) rfl c114 rfl rfl) ?_
             have h113 := Option.some.inj h113
             subst h113
             refine aF (aW rfl ⟨rfl, rfl, rfl, rfl, rfl, rfl, rfl, trivial⟩ rfl)
            ·have h113 := aZ c114 h113
             refine aN rfl rfl (aA rfl) rfl (aA rfl) rfl c114 ?_
             refine aN rfl rfl (aA rfl) rfl (aA rfl) rfl c114 ?_
             refine aN rfl rfl (aA rfl) rfl (aA rfl) rfl c114 ?_
             refine aN rfl rfl (aA rfl) rfl (aA rfl) rfl c114 ?_
             refine aN rfl rfl (aA rfl) rfl (aA rfl) rfl c114 ?_
             refine aN rfl rfl (aA rfl) rfl (aA rfl) rfl c114 ?_
             refine aN rfl rfl (aA rfl) rfl (aA rfl) rfl c114 ?_
             refine aN rfl rfl (aA rfl) rfl (aA rfl) rfl c114 ?_
             refine aN rfl rfl (aA rfl) rfl (aA rfl) rfl c114 ?_
             refine aL rfl rfl (aA rfl) rfl c109 (bL (v := .d (.lit (.bool false))) (aA rfl) rfl c114 rfl rfl) ?_
             have h113 := Option.some.inj h113
             subst h113
             refine aF (aW rfl ⟨rfl, rfl, rfl, rfl, rfl, rfl, rfl, trivial⟩ rfl)
           ·refine aL rfl rfl (aA rfl) rfl c106 (bL (v := .d (.lit (.bool b112))) (aA rfl) rfl c109 rfl rfl) ?_
            have h108 := Option.some.inj h108
            subst h108
            refine aF (aW rfl ⟨rfl, rfl, rfl, rfl, rfl, rfl, trivial⟩ rfl)
         ·refine tr1 rfl (bJ (v := .d (.lit (.bool b107))) (aA rfl) rfl c106 rfl rfl) ?_
          have h39 := Option.some.inj h39
          subst h39
          refine aF (aW rfl ⟨rfl, rfl, rfl, rfl, rfl, trivial⟩ rfl)
        ·have h39 := aZ c106 h39
         refine aN rfl rfl (aA rfl) rfl (aA rfl) rfl c106 ?_
         refine aN rfl rfl (aA rfl) rfl (aA rfl) rfl c106 ?_
         refine aN rfl rfl (aA rfl) rfl (aA rfl) rfl c106 ?_
         refine aN rfl rfl (aA rfl) rfl (aA rfl) rfl c106 ?_
         refine bS rfl rfl (aA rfl) rfl (aA rfl) rfl ?_
         refine bS rfl rfl (aA rfl) rfl (aA rfl) rfl ?_
         refine bS rfl rfl (aA rfl) rfl (aA rfl) rfl ?_
         refine bS rfl rfl (aA rfl) rfl (aA rfl) rfl ?_
         refine bS rfl rfl (aA rfl) rfl (aA rfl) rfl ?_
         refine bS rfl rfl (aA rfl) rfl (aA rfl) rfl ?_
         refine bS rfl rfl (aA rfl) rfl (aA rfl) rfl ?_
         refine bS rfl rfl (aA rfl) rfl (aA rfl) rfl ?_
         refine bS rfl rfl (aA rfl) rfl (aA rfl) rfl ?_
         refine bS rfl rfl (aA rfl) rfl (aA rfl) rfl ?_
         refine bS rfl rfl (aA rfl) rfl (aA rfl) rfl ?_
         refine bS rfl rfl (aA rfl) rfl (aA rfl) rfl ?_
         refine bS rfl rfl (aA rfl) rfl (aA rfl) rfl ?_
         refine bS rfl rfl (aA rfl) rfl (aA rfl) rfl ?_
         refine bS rfl rfl (aA rfl) rfl (aA rfl) rfl ?_
         refine bS rfl rfl (aA rfl) rfl (aA rfl) rfl ?_
         refine bS rfl rfl (aA rfl) rfl (aA rfl) rfl ?_
         refine bS rfl rfl (aA rfl) rfl (aA rfl) rfl ?_
         refine bS rfl rfl (aA rfl) rfl (aA rfl) rfl ?_
         refine aN rfl rfl (aA rfl) rfl (aA rfl) rfl c106 ?_
         refine tr1 rfl (bL (v := .d (.lit (.bool false))) (aA rfl) rfl c106 rfl rfl) ?_
         have h39 := Option.some.inj h39
         subst h39
         refine aF (aW rfl ⟨rfl, rfl, rfl, rfl, rfl, trivial⟩ rfl)
       ·refine tr1 rfl (aK (v := .d (.lit (.bool b38))) (aA rfl) rfl rfl) ?_
        refine aF ?_
        refine aH ?_
        refine aH ?_
        refine aD ?_
        refine tr1 rfl (aK (v := .d (.lit (.int .i64 0))) (aA rfl) rfl rfl) ?_
        refine aF ?_
        refine cG ?_
        refine dN [1, 3, 5, 7, 11] (fun (s40 : Bool × Int) => [(12, .d (.lit (.bool s40.1))), (13, .d (.lit (.int .i64 s40.2)))]) (fun (s40 : Bool × Int) => [.box b1 0 (aS t_0), .box b2 0 (dY x_2), .arr v31 32 5 (x29.map aI), .box b37 0 (aI (aE.mk 1 x_2.Round x_2.Place (max 0 r35.1) 0))]) (fun (k : Nat) (s40 : Bool × Int) => cU l_1 t_0 x_2 x29 (aE.mk 1 x_2.Round x_2.Place (max 0 r35.1) 0) k s40.1 s40.2) (fun _ => rfl) (b38, 0) h (bI [0, 1, 2, 3] rfl rfl (aU rfl (aU rfl (bD ⟨rfl, rfl, rfl, rfl, rfl, trivial⟩)))) ?_
        rintro k41 ⟨free_2_40, i_2_40⟩ h
        simp only [cU] at h
        refine aH ?_
        refine aH ?_
        refine aD ?_
        refine tr1 rfl (aC (v := .d (.lit (.int .i64 i_2_40))) (aA rfl) rfl rfl) ?_
        refine tr1 rfl (aC (v := .d (.sl 5 (l_1.map aI))) (aA rfl) rfl rfl) ?_
        refine tr1 rfl (dM (aA rfl) rfl dH.of) ?_
        refine tr1 rfl (bM (aA rfl) rfl rfl rfl) ?_
        refine aF ?_
        refine bY rfl (fun c42 => ?_) (fun c42 => ?_)
        ·have h := aX c42 h
         refine bX ?_
         refine aH ?_
         refine cG ?_
         obtain ⟨b43, h44, h⟩ := bind_some h
         refine dZ mix 29 [1, 3, 5, 7, 11, 13] [(152, .d (.lit (.bool b43)))] ?_ ?_
         ·refine bE (free_2_40) (fun c45 => ?_) (fun c45 => ?_)
          ·have h44 := aX c45 h44
           obtain ⟨x46, h47, h44⟩ := bind_some h44
           obtain ⟨b48, h49, h44⟩ := bind_some h44
           refine bE (decide (x46.Kind = 5)) (fun c50 => ?_) (fun c50 => ?_)
           ·have h49 := aX c50 h49
            have h49 := Option.some.inj h49
            subst h49
            obtain ⟨b53, h54, h44⟩ := bind_some h44
            have c55 : true = true := rfl
            have h54 := aX c55 h54
            have h54 := Option.some.inj h54
            subst h54
            have h44 := Option.some.inj h44
            subst h44
            refine ⟨[(124, 0, .d (.lit (.bool free_2_40))), (125, 1, .d (.lit (.bool free_2_40))), (126, 2, .d (.sl 5 (l_1.map aI))), (127, 3, .d (.lit (.int .i64 i_2_40))), (128, 4, .cp [.lit (.int .i64 x46.Kind), .lit (.int .i64 x46.Round), .lit (.int .i64 x46.Place), .lit (.int .i64 x46.Player), .lit (.int .i64 x46.Old)]), (129, 5, .cp [.lit (.int .i64 x46.Kind)]), (130, 6, .d (.lit (.int .i64 x46.Kind))), (131, 7, .d (.lit (.bool ((decide (x46.Kind = 5)))))), (132, 8, .d (.lit (.bool ((decide (x46.Kind = 5)))))), (133, 9, .tup []), (134, 10, .tup []), (135, 11, .tup []), (136, 12, .tup []), (137, 13, .tup []), (138, 14, .tup []), (139, 15, .tup []), (140, 16, .tup []), (141, 17, .d (.lit (.bool true))), (142, 18, .d (.lit (.bool (true)))), (143, 19, .tup []), (144, 20, .tup []), (145, 21, .tup []), (146, 22, .tup []), (147, 23, .tup []), (148, 24, .tup []), (149, 25, .tup []), (150, 26, .tup []), (151, 27, .d (.lit (.bool true))), (152, 28, .d (.lit (.bool (true))))], ?_, ?_⟩
            · exact ⟨by kernel_rfl, by kernel_rfl, by kernel_rfl, by kernel_rfl, by kernel_rfl, [([], []), ([0], []), ([1], []), ([1], []), ([1, 2, 3], []), ([1, 4], []), ([1, 5], []), ([1, 6], []), ([1, 7], []), ([8], []), ([8], []), ([8, 9, 10], []), ([8, 11], []), ([8, 12], []), ([8], []), ([8, 14], []), ([8, 13, 15], []), ([1, 8, 16], []), ([1, 17], []), ([18], []), ([18], []), ([18, 19, 20], []), ([18, 21], []), ([18, 22], []), ([18], []), ([18, 24], []), ([18, 23, 25], []), ([1, 18, 26], []), ([1, 27], [])], by kernel_rfl, ⟨fun S hS => aG rfl (aV rfl (aC (v := .d (.lit (.bool free_2_40))) (aA rfl) (aJ hS rfl) rfl)),
      fun S hS => aG rfl (aV rfl (aC (v := .d (.lit (.bool free_2_40))) (aA rfl) (aJ hS rfl) rfl)),
      fun S hS => aG rfl (bA rfl rfl (aA rfl) (aQ hS rfl) c45 (aC (v := .d (.sl 5 (l_1.map aI))) (aA rfl) (aJ hS rfl) rfl)),
      fun S hS => aG rfl (bA rfl rfl (aA rfl) (aQ hS rfl) c45 (aC (v := .d (.lit (.int .i64 i_2_40))) (aA rfl) (aJ hS rfl) rfl)),
      fun S hS => aG rfl (bA rfl rfl (aA rfl) (aQ hS rfl) c45 (bQ (aA rfl) (aJ hS rfl) (aJ hS rfl) dH.of (bZ aI h47))),
      fun S hS => aG rfl (bA rfl rfl (aA rfl) (aQ hS rfl) c45 (cH (aA rfl) (aJ hS rfl) iW (es := [.lit (.int .i64 x46.Kind)]) rfl)),
      fun S hS => aG rfl (bA rfl rfl (aA rfl) (aQ hS rfl) c45 (bT (aA rfl) (aJ hS rfl) bK)),
      fun S hS => aG rfl (bA rfl rfl (aA rfl) (aQ hS rfl) c45 (bM (aA rfl) (aJ hS rfl) rfl rfl)),
      fun S hS => aG rfl (bA rfl rfl (aA rfl) (aQ hS rfl) c45 (aC (v := .d (.lit (.bool ((decide (x46.Kind = 5)))))) (aA rfl) (aJ hS rfl) rfl)),
      fun S hS => aG rfl (bG rfl rfl (aA rfl) rfl (aA rfl) (aQ hS rfl) c50),
      fun S hS => aG rfl (bG rfl rfl (aA rfl) rfl (aA rfl) (aQ hS rfl) c50),
      fun S hS => aG rfl (bG rfl rfl (aA rfl) rfl (aA rfl) (aQ hS rfl) c50),
      fun S hS => aG rfl (bG rfl rfl (aA rfl) rfl (aA rfl) (aQ hS rfl) c50),
      fun S hS => aG rfl (bG rfl rfl (aA rfl) rfl (aA rfl) (aQ hS rfl) c50),
      fun S hS => aG rfl (bG rfl rfl (aA rfl) rfl (aA rfl) (aQ hS rfl) c50),
      fun S hS => aG rfl (bG rfl rfl (aA rfl) rfl (aA rfl) (aQ hS rfl) c50),
      fun S hS => aG rfl (bG rfl rfl (aA rfl) rfl (aA rfl) (aQ hS rfl) c50),
      fun S hS => aG rfl (bA rfl rfl (aA rfl) (aQ hS rfl) c45 (bJ (v := .d (.lit (.bool true))) (aA rfl) (aJ hS rfl) c50 rfl rfl)),
      fun S hS => aG rfl (bA rfl rfl (aA rfl) (aQ hS rfl) c45 (aC (v := .d (.lit (.bool (true)))) (aA rfl) (aJ hS rfl) rfl)),
      fun S hS => aG rfl (bG rfl rfl (aA rfl) rfl (aA rfl) (aQ hS rfl) c55),
      fun S hS => aG rfl (bG rfl rfl (aA rfl) rfl (aA rfl) (aQ hS rfl) c55),
      fun S hS => aG rfl (bG rfl rfl (aA rfl) rfl (aA rfl) (aQ hS rfl) c55),
      fun S hS => aG rfl (bG rfl rfl (aA rfl) rfl (aA rfl) (aQ hS rfl) c55),
      fun S hS => aG rfl (bG rfl rfl (aA rfl) rfl (aA rfl) (aQ hS rfl) c55),
      fun S hS => aG rfl (bG rfl rfl (aA rfl) rfl (aA rfl) (aQ hS rfl) c55),
      fun S hS => aG rfl (bG rfl rfl (aA rfl) rfl (aA rfl) (aQ hS rfl) c55),
      fun S hS => aG rfl (bG rfl rfl (aA rfl) rfl (aA rfl) (aQ hS rfl) c55),
      fun S hS => aG rfl (bA rfl rfl (aA rfl) (aQ hS rfl) c45 (bJ (v := .d (.lit (.bool true))) (aA rfl) (aJ hS rfl) c55 rfl rfl)),
      fun S hS => aG rfl (aV rfl (bJ (v := .d (.lit (.bool (true)))) (aA rfl) (aJ hS rfl) c45 (aJ hS rfl) rfl)), trivial⟩⟩
            · exact cZ (aU rfl (bD ⟨rfl, rfl, rfl, rfl, rfl, rfl, trivial⟩))
           ·have h49 := aZ c50 h49
            obtain ⟨x51, h52, h49⟩ := bind_some h49
            have h49 := Option.some.inj h49
            subst h49
            obtain ⟨b53, h54, h44⟩ := bind_some h44
            refine bE (!decide (x51.Round = x_2.Round)) (fun c55 => ?_) (fun c55 => ?_)
            ·have h54 := aX c55 h54
             have h54 := Option.some.inj h54
             subst h54
             have h44 := Option.some.inj h44
             subst h44
             refine ⟨[(124, 0, .d (.lit (.bool free_2_40))), (125, 1, .d (.lit (.bool free_2_40))), (126, 2, .d (.sl 5 (l_1.map aI))), (127, 3, .d (.lit (.int .i64 i_2_40))), (128, 4, .cp [.lit (.int .i64 x46.Kind), .lit (.int .i64 x46.Round), .lit (.int .i64 x46.Place), .lit (.int .i64 x46.Player), .lit (.int .i64 x46.Old)]), (129, 5, .cp [.lit (.int .i64 x46.Kind)]), (130, 6, .d (.lit (.int .i64 x46.Kind))), (131, 7, .d (.lit (.bool ((decide (x46.Kind = 5)))))), (132, 8, .d (.lit (.bool ((decide (x46.Kind = 5)))))), (133, 9, .d (.sl 5 (l_1.map aI))), (134, 10, .d (.lit (.int .i64 i_2_40))), (135, 11, .cp [.lit (.int .i64 x51.Kind), .lit (.int .i64 x51.Round), .lit (.int .i64 x51.Place), .lit (.int .i64 x51.Player), .lit (.int .i64 x51.Old)]), (136, 12, .cp [.lit (.int .i64 x51.Round)]), (137, 13, .d (.lit (.int .i64 x51.Round))), (138, 14, .bp b2 0 0), (139, 15, .d (.lit (.int .i64 x_2.Round))), (140, 16, .d (.lit (.bool ((!decide (x51.Round = x_2.Round)))))), (141, 17, .d (.lit (.bool ((!decide (x51.Round = x_2.Round)))))), (142, 18, .d (.lit (.bool (!decide (x51.Round = x_2.Round))))), (143, 19, .tup []), (144, 20, .tup []), (145, 21, .tup []), (146, 22, .tup []), (147, 23, .tup []), (148, 24, .tup []), (149, 25, .tup []), (150, 26, .tup []), (151, 27, .d (.lit (.bool true))), (152, 28, .d (.lit (.bool (true))))], ?_, ?_⟩
             · exact ⟨by kernel_rfl, by kernel_rfl, by kernel_rfl, by kernel_rfl, by kernel_rfl, [([], []), ([0], []), ([1], []), ([1], []), ([1, 2, 3], []), ([1, 4], []), ([1, 5], []), ([1, 6], []), ([1, 7], []), ([8], []), ([8], []), ([8, 9, 10], []), ([8, 11], []), ([8, 12], []), ([8], []), ([8, 14], []), ([8, 13, 15], []), ([1, 8, 16], []), ([1, 17], []), ([18], []), ([18], []), ([18, 19, 20], []), ([18, 21], []), ([18, 22], []), ([18], []), ([18, 24], []), ([18, 23, 25], []), ([1, 18, 26], []), ([1, 27], [])], by kernel_rfl, ⟨fun S hS => aG rfl (aV rfl (aC (v := .d (.lit (.bool free_2_40))) (aA rfl) (aJ hS rfl) rfl)),
      fun S hS => aG rfl (aV rfl (aC (v := .d (.lit (.bool free_2_40))) (aA rfl) (aJ hS rfl) rfl)),
      fun S hS => aG rfl (bA rfl rfl (aA rfl) (aQ hS rfl) c45 (aC (v := .d (.sl 5 (l_1.map aI))) (aA rfl) (aJ hS rfl) rfl)),
      fun S hS => aG rfl (bA rfl rfl (aA rfl) (aQ hS rfl) c45 (aC (v := .d (.lit (.int .i64 i_2_40))) (aA rfl) (aJ hS rfl) rfl)),
      fun S hS => aG rfl (bA rfl rfl (aA rfl) (aQ hS rfl) c45 (bQ (aA rfl) (aJ hS rfl) (aJ hS rfl) dH.of (bZ aI h47))),
      fun S hS => aG rfl (bA rfl rfl (aA rfl) (aQ hS rfl) c45 (cH (aA rfl) (aJ hS rfl) iW (es := [.lit (.int .i64 x46.Kind)]) rfl)),
      fun S hS => aG rfl (bA rfl rfl (aA rfl) (aQ hS rfl) c45 (bT (aA rfl) (aJ hS rfl) bK)),
      fun S hS => aG rfl (bA rfl rfl (aA rfl) (aQ hS rfl) c45 (bM (aA rfl) (aJ hS rfl) rfl rfl)),
      fun S hS => aG rfl (bA rfl rfl (aA rfl) (aQ hS rfl) c45 (aC (v := .d (.lit (.bool ((decide (x46.Kind = 5)))))) (aA rfl) (aJ hS rfl) rfl)),
      fun S hS => aG rfl (bA rfl rfl (aA rfl) (aQ hS rfl) c50 (aC (v := .d (.sl 5 (l_1.map aI))) (aA rfl) (aJ hS rfl) rfl)),
      fun S hS => aG rfl (bA rfl rfl (aA rfl) (aQ hS rfl) c50 (aC (v := .d (.lit (.int .i64 i_2_40))) (aA rfl) (aJ hS rfl) rfl)),
      fun S hS => aG rfl (bA rfl rfl (aA rfl) (aQ hS rfl) c50 (bQ (aA rfl) (aJ hS rfl) (aJ hS rfl) dH.of (bZ aI h52))),
      fun S hS => aG rfl (bA rfl rfl (aA rfl) (aQ hS rfl) c50 (cH (aA rfl) (aJ hS rfl) iX (es := [.lit (.int .i64 x51.Round)]) rfl)),
      fun S hS => aG rfl (bA rfl rfl (aA rfl) (aQ hS rfl) c50 (bT (aA rfl) (aJ hS rfl) bK)),
      fun S hS => aG rfl (bA rfl rfl (aA rfl) (aQ hS rfl) c50 (aT (aA rfl) (aJ hS rfl) kW)),
      fun S hS => aG rfl (bA rfl rfl (aA rfl) (aQ hS rfl) c50 (aY (aA rfl) (aJ hS rfl) (i := 1) rfl rfl bK)),
      fun S hS => aG rfl (bA rfl rfl (aA rfl) (aQ hS rfl) c50 (bM (aA rfl) (aJ hS rfl) (aJ hS rfl) rfl)),
      fun S hS => aG rfl (bA rfl rfl (aA rfl) (aQ hS rfl) c45 (bL (v := .d (.lit (.bool ((!decide (x51.Round = x_2.Round)))))) (aA rfl) (aJ hS rfl) c50 (aJ hS rfl) rfl)),
      fun S hS => aG rfl (bA rfl rfl (aA rfl) (aQ hS rfl) c45 (aC (v := .d (.lit (.bool (!decide (x51.Round = x_2.Round))))) (aA rfl) (aJ hS rfl) rfl)),
      fun S hS => aG rfl (bG rfl rfl (aA rfl) rfl (aA rfl) (aQ hS rfl) c55),
      fun S hS => aG rfl (bG rfl rfl (aA rfl) rfl (aA rfl) (aQ hS rfl) c55),
      fun S hS => aG rfl (bG rfl rfl (aA rfl) rfl (aA rfl) (aQ hS rfl) c55),
      fun S hS => aG rfl (bG rfl rfl (aA rfl) rfl (aA rfl) (aQ hS rfl) c55),
      fun S hS => aG rfl (bG rfl rfl (aA rfl) rfl (aA rfl) (aQ hS rfl) c55),
      fun S hS => aG rfl (bG rfl rfl (aA rfl) rfl (aA rfl) (aQ hS rfl) c55),
      fun S hS => aG rfl (bG rfl rfl (aA rfl) rfl (aA rfl) (aQ hS rfl) c55),
      fun S hS => aG rfl (bG rfl rfl (aA rfl) rfl (aA rfl) (aQ hS rfl) c55),
      fun S hS => aG rfl (bA rfl rfl (aA rfl) (aQ hS rfl) c45 (bJ (v := .d (.lit (.bool true))) (aA rfl) (aJ hS rfl) c55 rfl rfl)),
      fun S hS => aG rfl (aV rfl (bJ (v := .d (.lit (.bool (true)))) (aA rfl) (aJ hS rfl) c45 (aJ hS rfl) rfl)), trivial⟩⟩
             · exact cZ (aU rfl (bD ⟨rfl, rfl, rfl, rfl, rfl, rfl, trivial⟩))
            ·have h54 := aZ c55 h54
             obtain ⟨x56, h57, h54⟩ := bind_some h54
             have h54 := Option.some.inj h54
             subst h54
             have h44 := Option.some.inj h44
             subst h44
             refine ⟨[(124, 0, .d (.lit (.bool free_2_40))), (125, 1, .d (.lit (.bool free_2_40))), (126, 2, .d (.sl 5 (l_1.map aI))), (127, 3, .d (.lit (.int .i64 i_2_40))), (128, 4, .cp [.lit (.int .i64 x46.Kind), .lit (.int .i64 x46.Round), .lit (.int .i64 x46.Place), .lit (.int .i64 x46.Player), .lit (.int .i64 x46.Old)]), (129, 5, .cp [.lit (.int .i64 x46.Kind)]), (130, 6, .d (.lit (.int .i64 x46.Kind))), (131, 7, .d (.lit (.bool ((decide (x46.Kind = 5)))))), (132, 8, .d (.lit (.bool ((decide (x46.Kind = 5)))))), (133, 9, .d (.sl 5 (l_1.map aI))), (134, 10, .d (.lit (.int .i64 i_2_40))), (135, 11, .cp [.lit (.int .i64 x51.Kind), .lit (.int .i64 x51.Round), .lit (.int .i64 x51.Place), .lit (.int .i64 x51.Player), .lit (.int .i64 x51.Old)]), (136, 12, .cp [.lit (.int .i64 x51.Round)]), (137, 13, .d (.lit (.int .i64 x51.Round))), (138, 14, .bp b2 0 0), (139, 15, .d (.lit (.int .i64 x_2.Round))), (140, 16, .d (.lit (.bool ((!decide (x51.Round = x_2.Round)))))), (141, 17, .d (.lit (.bool ((!decide (x51.Round = x_2.Round)))))), (142, 18, .d (.lit (.bool (!decide (x51.Round = x_2.Round))))), (143, 19, .d (.sl 5 (l_1.map aI))), (144, 20, .d (.lit (.int .i64 i_2_40))), (145, 21, .cp [.lit (.int .i64 x56.Kind), .lit (.int .i64 x56.Round), .lit (.int .i64 x56.Place), .lit (.int .i64 x56.Player), .lit (.int .i64 x56.Old)]), (146, 22, .cp [.lit (.int .i64 x56.Place)]), (147, 23, .d (.lit (.int .i64 x56.Place))), (148, 24, .bp b2 0 1), (149, 25, .d (.lit (.int .i64 x_2.Place))), (150, 26, .d (.lit (.bool ((!decide (x56.Place = x_2.Place)))))), (151, 27, .d (.lit (.bool ((!decide (x56.Place = x_2.Place)))))), (152, 28, .d (.lit (.bool (!decide (x56.Place = x_2.Place)))))], ?_, ?_⟩
             · exact ⟨by kernel_rfl, by kernel_rfl, by kernel_rfl, by kernel_rfl, by kernel_rfl, [([], []), ([0], []), ([1], []), ([1], []), ([1, 2, 3], []), ([1, 4], []), ([1, 5], []), ([1, 6], []), ([1, 7], []), ([8], []), ([8], []), ([8, 9, 10], []), ([8, 11], []), ([8, 12], []), ([8], []), ([8, 14], []), ([8, 13, 15], []), ([1, 8, 16], []), ([1, 17], []), ([18], []), ([18], []), ([18, 19, 20], []), ([18, 21], []), ([18, 22], []), ([18], []), ([18, 24], []), ([18, 23, 25], []), ([1, 18, 26], []), ([1, 27], [])], by kernel_rfl, ⟨fun S hS => aG rfl (aV rfl (aC (v := .d (.lit (.bool free_2_40))) (aA rfl) (aJ hS rfl) rfl)),
      fun S hS => aG rfl (aV rfl (aC (v := .d (.lit (.bool free_2_40))) (aA rfl) (aJ hS rfl) rfl)),
      fun S hS => aG rfl (bA rfl rfl (aA rfl) (aQ hS rfl) c45 (aC (v := .d (.sl 5 (l_1.map aI))) (aA rfl) (aJ hS rfl) rfl)),
      fun S hS => aG rfl (bA rfl rfl (aA rfl) (aQ hS rfl) c45 (aC (v := .d (.lit (.int .i64 i_2_40))) (aA rfl) (aJ hS rfl) rfl)),
      fun S hS => aG rfl (bA rfl rfl (aA rfl) (aQ hS rfl) c45 (bQ (aA rfl) (aJ hS rfl) (aJ hS rfl) dH.of (bZ aI h47))),
      fun S hS => aG rfl (bA rfl rfl (aA rfl) (aQ hS rfl) c45 (cH (aA rfl) (aJ hS rfl) iW (es := [.lit (.int .i64 x46.Kind)]) rfl)),
      fun S hS => aG rfl (bA rfl rfl (aA rfl) (aQ hS rfl) c45 (bT (aA rfl) (aJ hS rfl) bK)),
      fun S hS => aG rfl (bA rfl rfl (aA rfl) (aQ hS rfl) c45 (bM (aA rfl) (aJ hS rfl) rfl rfl)),
      fun S hS => aG rfl (bA rfl rfl (aA rfl) (aQ hS rfl) c45 (aC (v := .d (.lit (.bool ((decide (x46.Kind = 5)))))) (aA rfl) (aJ hS rfl) rfl)),
      fun S hS => aG rfl (bA rfl rfl (aA rfl) (aQ hS rfl) c50 (aC (v := .d (.sl 5 (l_1.map aI))) (aA rfl) (aJ hS rfl) rfl)),
      fun S hS => aG rfl (bA rfl rfl (aA rfl) (aQ hS rfl) c50 (aC (v := .d (.lit (.int .i64 i_2_40))) (aA rfl) (aJ hS rfl) rfl)),
      fun S hS => aG rfl (bA rfl rfl (aA rfl) (aQ hS rfl) c50 (bQ (aA rfl) (aJ hS rfl) (aJ hS rfl) dH.of (bZ aI h52))),
      fun S hS => aG rfl (bA rfl rfl (aA rfl) (aQ hS rfl) c50 (cH (aA rfl) (aJ hS rfl) iX (es := [.lit (.int .i64 x51.Round)]) rfl)),
      fun S hS => aG rfl (bA rfl rfl (aA rfl) (aQ hS rfl) c50 (bT (aA rfl) (aJ hS rfl) bK)),
      fun S hS => aG rfl (bA rfl rfl (aA rfl) (aQ hS rfl) c50 (aT (aA rfl) (aJ hS rfl) kW)),
      fun S hS => aG rfl (bA rfl rfl (aA rfl) (aQ hS rfl) c50 (aY (aA rfl) (aJ hS rfl) (i := 1) rfl rfl bK)),
      fun S hS => aG rfl (bA rfl rfl (aA rfl) (aQ hS rfl) c50 (bM (aA rfl) (aJ hS rfl) (aJ hS rfl) rfl)),
      fun S hS => aG rfl (bA rfl rfl (aA rfl) (aQ hS rfl) c45 (bL (v := .d (.lit (.bool ((!decide (x51.Round = x_2.Round)))))) (aA rfl) (aJ hS rfl) c50 (aJ hS rfl) rfl)),
      fun S hS => aG rfl (bA rfl rfl (aA rfl) (aQ hS rfl) c45 (aC (v := .d (.lit (.bool (!decide (x51.Round = x_2.Round))))) (aA rfl) (aJ hS rfl) rfl)),
      fun S hS => aG rfl (bA rfl rfl (aA rfl) (aQ hS rfl) c55 (aC (v := .d (.sl 5 (l_1.map aI))) (aA rfl) (aJ hS rfl) rfl)),
      fun S hS => aG rfl (bA rfl rfl (aA rfl) (aQ hS rfl) c55 (aC (v := .d (.lit (.int .i64 i_2_40))) (aA rfl) (aJ hS rfl) rfl)),
      fun S hS => aG rfl (bA rfl rfl (aA rfl) (aQ hS rfl) c55 (bQ (aA rfl) (aJ hS rfl) (aJ hS rfl) dH.of (bZ aI h57))),
      fun S hS => aG rfl (bA rfl rfl (aA rfl) (aQ hS rfl) c55 (cH (aA rfl) (aJ hS rfl) iH (es := [.lit (.int .i64 x56.Place)]) rfl)),
      fun S hS => aG rfl (bA rfl rfl (aA rfl) (aQ hS rfl) c55 (bT (aA rfl) (aJ hS rfl) bK)),
      fun S hS => aG rfl (bA rfl rfl (aA rfl) (aQ hS rfl) c55 (aT (aA rfl) (aJ hS rfl) kX)),
      fun S hS => aG rfl (bA rfl rfl (aA rfl) (aQ hS rfl) c55 (aY (aA rfl) (aJ hS rfl) (i := 1) rfl rfl bK)),
      fun S hS => aG rfl (bA rfl rfl (aA rfl) (aQ hS rfl) c55 (bM (aA rfl) (aJ hS rfl) (aJ hS rfl) rfl)),
      fun S hS => aG rfl (bA rfl rfl (aA rfl) (aQ hS rfl) c45 (bL (v := .d (.lit (.bool ((!decide (x56.Place = x_2.Place)))))) (aA rfl) (aJ hS rfl) c55 (aJ hS rfl) rfl)),
      fun S hS => aG rfl (aV rfl (bJ (v := .d (.lit (.bool (!decide (x56.Place = x_2.Place))))) (aA rfl) (aJ hS rfl) c45 (aJ hS rfl) rfl)), trivial⟩⟩
             · exact cZ (aU rfl (bD ⟨rfl, rfl, rfl, rfl, rfl, rfl, trivial⟩))
          ·have h44 := aZ c45 h44
           have h44 := Option.some.inj h44
           subst h44
           refine ⟨[(124, 0, .d (.lit (.bool free_2_40))), (125, 1, .d (.lit (.bool free_2_40))), (126, 2, .tup []), (127, 3, .tup []), (128, 4, .tup []), (129, 5, .tup []), (130, 6, .tup []), (131, 7, .tup []), (132, 8, .tup []), (133, 9, .tup []), (134, 10, .tup []), (135, 11, .tup []), (136, 12, .tup []), (137, 13, .tup []), (138, 14, .tup []), (139, 15, .tup []), (140, 16, .tup []), (141, 17, .tup []), (142, 18, .tup []), (143, 19, .tup []), (144, 20, .tup []), (145, 21, .tup []), (146, 22, .tup []), (147, 23, .tup []), (148, 24, .tup []), (149, 25, .tup []), (150, 26, .tup []), (151, 27, .tup []), (152, 28, .d (.lit (.bool false)))], ?_, ?_⟩
           · exact ⟨by kernel_rfl, by kernel_rfl, by kernel_rfl, by kernel_rfl, by kernel_rfl, [([], []), ([0], []), ([1], []), ([1], []), ([1, 2, 3], []), ([1, 4], []), ([1, 5], []), ([1, 6], []), ([1, 7], []), ([8], []), ([8], []), ([8, 9, 10], []), ([8, 11], []), ([8, 12], []), ([8], []), ([8, 14], []), ([8, 13, 15], []), ([1, 8, 16], []), ([1, 17], []), ([18], []), ([18], []), ([18, 19, 20], []), ([18, 21], []), ([18, 22], []), ([18], []), ([18, 24], []), ([18, 23, 25], []), ([1, 18, 26], []), ([1, 27], [])], by kernel_rfl, ⟨fun S hS => aG rfl (aV rfl (aC (v := .d (.lit (.bool free_2_40))) (aA rfl) (aJ hS rfl) rfl)),
      fun S hS => aG rfl (aV rfl (aC (v := .d (.lit (.bool free_2_40))) (aA rfl) (aJ hS rfl) rfl)),
      fun S hS => aG rfl (bG rfl rfl (aA rfl) rfl (aA rfl) (aQ hS rfl) c45),
      fun S hS => aG rfl (bG rfl rfl (aA rfl) rfl (aA rfl) (aQ hS rfl) c45),
      fun S hS => aG rfl (bG rfl rfl (aA rfl) rfl (aA rfl) (aQ hS rfl) c45),
      fun S hS => aG rfl (bG rfl rfl (aA rfl) rfl (aA rfl) (aQ hS rfl) c45),
      fun S hS => aG rfl (bG rfl rfl (aA rfl) rfl (aA rfl) (aQ hS rfl) c45),
      fun S hS => aG rfl (bG rfl rfl (aA rfl) rfl (aA rfl) (aQ hS rfl) c45),
      fun S hS => aG rfl (bG rfl rfl (aA rfl) rfl (aA rfl) (aQ hS rfl) c45),
      fun S hS => aG rfl (eA rfl rfl (aA rfl) rfl (aA rfl) (aQ hS rfl)),
      fun S hS => aG rfl (eA rfl rfl (aA rfl) rfl (aA rfl) (aQ hS rfl)),
      fun S hS => aG rfl (eA rfl rfl (aA rfl) rfl (aA rfl) (aQ hS rfl)),
      fun S hS => aG rfl (eA rfl rfl (aA rfl) rfl (aA rfl) (aQ hS rfl)),
      fun S hS => aG rfl (eA rfl rfl (aA rfl) rfl (aA rfl) (aQ hS rfl)),
      fun S hS => aG rfl (eA rfl rfl (aA rfl) rfl (aA rfl) (aQ hS rfl)),
      fun S hS => aG rfl (eA rfl rfl (aA rfl) rfl (aA rfl) (aQ hS rfl)),
      fun S hS => aG rfl (eA rfl rfl (aA rfl) rfl (aA rfl) (aQ hS rfl)),
      fun S hS => aG rfl (bG rfl rfl (aA rfl) rfl (aA rfl) (aQ hS rfl) c45),
      fun S hS => aG rfl (bG rfl rfl (aA rfl) rfl (aA rfl) (aQ hS rfl) c45),
      fun S hS => aG rfl (eA rfl rfl (aA rfl) rfl (aA rfl) (aQ hS rfl)),
      fun S hS => aG rfl (eA rfl rfl (aA rfl) rfl (aA rfl) (aQ hS rfl)),
      fun S hS => aG rfl (eA rfl rfl (aA rfl) rfl (aA rfl) (aQ hS rfl)),
      fun S hS => aG rfl (eA rfl rfl (aA rfl) rfl (aA rfl) (aQ hS rfl)),
      fun S hS => aG rfl (eA rfl rfl (aA rfl) rfl (aA rfl) (aQ hS rfl)),
      fun S hS => aG rfl (eA rfl rfl (aA rfl) rfl (aA rfl) (aQ hS rfl)),
      fun S hS => aG rfl (eA rfl rfl (aA rfl) rfl (aA rfl) (aQ hS rfl)),
      fun S hS => aG rfl (eA rfl rfl (aA rfl) rfl (aA rfl) (aQ hS rfl)),
      fun S hS => aG rfl (bG rfl rfl (aA rfl) rfl (aA rfl) (aQ hS rfl) c45),
      fun S hS => aG rfl (aV rfl (bL (v := .d (.lit (.bool false))) (aA rfl) (aJ hS rfl) c45 rfl rfl)), trivial⟩⟩
           · exact cZ (aU rfl (bD ⟨rfl, rfl, rfl, rfl, rfl, rfl, trivial⟩))
         ·refine tr1 rfl (aK (v := .d (.lit (.bool b43))) (aA rfl) rfl rfl) ?_
          refine fF ?_
          refine aD ?_
          refine tr1 rfl (aC (v := .d (.lit (.int .i64 i_2_40))) (aA rfl) rfl rfl) ?_
          refine tr1 rfl (bR (aA rfl) rfl rfl rfl) ?_
          refine tr1 rfl (aK (v := .d (.lit (.int .i64 ((w64 (i_2_40 + 1)))))) (aA rfl) rfl rfl) ?_
          refine aF ?_
          exact ⟨(b43, w64 (i_2_40 + 1)), h, bI [0, 1, 2, 3] rfl rfl (aU rfl (aU rfl (bD ⟨rfl, rfl, rfl, rfl, rfl, trivial⟩)))⟩
        ·have h := aZ c42 h
         refine dC ?_
         refine .inl ⟨rfl, ?_⟩
         simp only [gJ] at h
         refine aH ?_
         refine aD ?_
         refine tr1 rfl (aC (v := .d (.lit (.bool free_2_40))) (aA rfl) rfl rfl) ?_
         refine aF ?_
         refine bY rfl (fun c58 => ?_) (fun c58 => ?_)
         ·have h := aX c58 h
          refine aD ?_
          refine tr1 rfl (aC (v := .d (.lit v31)) (aA rfl) rfl rfl) ?_
          refine tr1 rfl (bN (aA rfl) rfl (i := 3) rfl iK (es := (aI (aE.mk 1 x_2.Round x_2.Place (max 0 r35.1) 0))) rfl rfl) ?_
          refine tr1 rfl (eV (aA rfl) dH rfl rfl (rows := ([(aE.mk 1 x_2.Round x_2.Place (max 0 r35.1) 0)]).map aI) rfl (cP (f := aI) fun _ => rfl) rfl (by decide)) ?_
          obtain ⟨x59, h60, h⟩ := bind_some h
          refine cB rfl (eO (i := 2) (aA rfl) dH rfl rfl rfl (fun _ => rfl) h60 rfl) ?_
          rintro _ ⟨v61, rfl⟩
          refine tr1 rfl (aK (v := .d (.lit v61)) (aA rfl) rfl rfl) ?_
          refine aF ?_
          refine aH ?_
          refine aD ?_
          refine tr1 rfl (bN (aA rfl) rfl (i := 0) rfl dE (es := (aS t_0)) rfl rfl) ?_
          refine tr1 rfl (aC (v := .d (.sl 5 (l_1.map aI))) (aA rfl) rfl rfl) ?_
          obtain ⟨r62, h63, h⟩ := bind_some h
          refine tr1 rfl (eN (aA rfl) (.func _ _ Try.call21) rfl rfl (eI _ _ h63)) ?_
          refine tr1 rfl (aC (v := .tup [.d (.sl 4 (r62.1.map bF)), .d (.sl 1 (r62.2.1.map aO)), .d (.lit (.bool r62.2.2))]) (aA rfl) rfl rfl) ?_
          refine tr1 rfl (bH (aA rfl) rfl rfl) ?_
          refine tr1 rfl (bH (aA rfl) rfl rfl) ?_
          refine tr1 rfl (bH (aA rfl) rfl rfl) ?_
          refine tr1 rfl (aK (v := .d (.sl 4 (r62.1.map bF))) (aA rfl) rfl rfl) ?_
          refine tr1 rfl (aK (v := .d (.sl 1 (r62.2.1.map aO))) (aA rfl) rfl rfl) ?_
          refine tr1 rfl (aK (v := .d (.lit (.bool r62.2.2))) (aA rfl) rfl rfl) ?_
          refine aF ?_
          refine aH ?_
          refine aD ?_
          refine tr1 rfl (bN (aA rfl) rfl (i := 0) rfl dE (es := (aS t_0)) rfl rfl) ?_
          refine tr1 rfl (aC (v := .d (.lit v61)) (aA rfl) rfl rfl) ?_
          refine gA (bI [0, 1, 3, 2] rfl rfl (le_refl _)) ?_
          refine gA (sS [.box b1 0 (aS t_0), .box b2 0 (dY x_2), .box b37 0 (aI (aE.mk 1 x_2.Round x_2.Place (max 0 r35.1) 0))] [.arr v61 32 5 (x59.map aI)] rfl (eF (k := 167) (v := .d (.sl 5 (x59.map aI))) (.d (fM 0 rfl (cP (f := aI) fun _ => rfl))) (eF (k := 157) (v := .d (.sl 5 (x59.map aI))) (.d (fM 0 rfl (cP (f := aI) fun _ => rfl))) (eF (k := 154) (v := .any) (.any _) (eF (k := 7) (v := .d (.sl 5 (x59.map aI))) (.d (fM 0 rfl (cP (f := aI) fun _ => rfl))) (qW _ _)))))) ?_
          obtain ⟨r64, h65, h⟩ := bind_some h
          refine tr1 rfl (eN (aA rfl) (.func _ _ Try.call21) rfl rfl (eI _ _ h65)) ?_
          refine tr1 rfl (aC (v := .tup [.d (.sl 4 (r64.1.map bF)), .d (.sl 1 (r64.2.1.map aO)), .d (.lit (.bool r64.2.2))]) (aA rfl) rfl rfl) ?_
          refine tr1 rfl (bH (aA rfl) rfl rfl) ?_
          refine tr1 rfl (bH (aA rfl) rfl rfl) ?_
          refine tr1 rfl (bH (aA rfl) rfl rfl) ?_
          refine tr1 rfl (aK (v := .d (.sl 4 (r64.1.map bF))) (aA rfl) rfl rfl) ?_
          refine tr1 rfl (aK (v := .d (.sl 1 (r64.2.1.map aO))) (aA rfl) rfl rfl) ?_
          refine tr1 rfl (aK (v := .d (.lit (.bool r64.2.2))) (aA rfl) rfl rfl) ?_
          refine aF ?_
          refine aH ?_
          refine aD ?_
          refine tr1 rfl (aC (v := .d (.lit (.bool r62.2.2))) (aA rfl) rfl rfl) ?_
          refine tr1 rfl (aC (v := .d (.lit (.bool r62.2.2))) (aA rfl) rfl rfl) ?_
          obtain ⟨b66, h67, h⟩ := bind_some h
          refine bU 2 [14, 15, 17, 18] 175 b66 ?_ ?_
          ·refine bE (r62.2.2) (fun c83 => ?_) (fun c83 => ?_)
           ·have h67 := aX c83 h67
            refine aL rfl rfl (aA rfl) rfl c83 (aC (v := .d (.lit (.bool r64.2.2))) (aA rfl) rfl rfl) ?_
            refine tr1 rfl (bJ (v := .d (.lit (.bool r64.2.2))) (aA rfl) rfl c83 rfl rfl) ?_
            have h67 := Option.some.inj h67
            subst h67
            refine aF (aW rfl ⟨rfl, rfl, rfl, rfl, trivial⟩ rfl)
           ·have h67 := aZ c83 h67
            refine aN rfl rfl (aA rfl) rfl (aA rfl) rfl c83 ?_
            refine tr1 rfl (bL (v := .d (.lit (.bool false))) (aA rfl) rfl c83 rfl rfl) ?_
            have h67 := Option.some.inj h67
            subst h67
            refine aF (aW rfl ⟨rfl, rfl, rfl, rfl, trivial⟩ rfl)
          ·refine tr1 rfl (aC (v := .d (.lit (.bool b66))) (aA rfl) rfl rfl) ?_
           obtain ⟨b68, h69, h⟩ := bind_some h
           refine bU 4 [15, 18] 180 b68 ?_ ?_
           ·refine bE (b66) (fun c80 => ?_) (fun c80 => ?_)
            ·have h69 := aX c80 h69
             refine aL rfl rfl (aA rfl) rfl c80 (aC (v := .d (.sl 4 (r62.1.map bF))) (aA rfl) rfl rfl) ?_
             refine aL rfl rfl (aA rfl) rfl c80 (aC (v := .d (.sl 4 (r64.1.map bF))) (aA rfl) rfl rfl) ?_
             obtain ⟨r81, h82, h69⟩ := bind_some h69
             refine aL rfl rfl (aA rfl) rfl c80 (cJ (aA rfl) (.func _ _ Try.call22) rfl rfl (BVs.refl _ _) (gM _ _ h82) rfl) ?_
             refine tr1 rfl (bJ (v := .d (.lit (.bool r81))) (aA rfl) rfl c80 rfl rfl) ?_
             have h69 := Option.some.inj h69
             subst h69
             refine aF (aW rfl ⟨rfl, rfl, trivial⟩ rfl)
            ·have h69 := aZ c80 h69
             refine aN rfl rfl (aA rfl) rfl (aA rfl) rfl c80 ?_
             refine aN rfl rfl (aA rfl) rfl (aA rfl) rfl c80 ?_
             refine aN rfl rfl (aA rfl) rfl (aA rfl) rfl c80 ?_
             refine tr1 rfl (bL (v := .d (.lit (.bool false))) (aA rfl) rfl c80 rfl rfl) ?_
             have h69 := Option.some.inj h69
             subst h69
             refine aF (aW rfl ⟨rfl, rfl, trivial⟩ rfl)
           ·refine tr1 rfl (aC (v := .d (.lit (.bool b68))) (aA rfl) rfl rfl) ?_
            obtain ⟨b70, h71, h⟩ := bind_some h
            refine bU 4 [] 185 b70 ?_ ?_
            ·refine bE (b68) (fun c77 => ?_) (fun c77 => ?_)
             ·have h71 := aX c77 h71
              refine aL rfl rfl (aA rfl) rfl c77 (aC (v := .d (.sl 1 (r62.2.1.map aO))) (aA rfl) rfl rfl) ?_
              refine aL rfl rfl (aA rfl) rfl c77 (aC (v := .d (.sl 1 (r64.2.1.map aO))) (aA rfl) rfl rfl) ?_
              obtain ⟨r78, h79, h71⟩ := bind_some h71
              refine aL rfl rfl (aA rfl) rfl c77 (cJ (aA rfl) (.func _ _ Try.call23) rfl rfl (BVs.refl _ _) (fW _ _ h79) rfl) ?_
              refine tr1 rfl (bJ (v := .d (.lit (.bool r78))) (aA rfl) rfl c77 rfl rfl) ?_
              have h71 := Option.some.inj h71
              subst h71
              refine aF (aW rfl trivial rfl)
             ·have h71 := aZ c77 h71
              refine aN rfl rfl (aA rfl) rfl (aA rfl) rfl c77 ?_
              refine aN rfl rfl (aA rfl) rfl (aA rfl) rfl c77 ?_
              refine aN rfl rfl (aA rfl) rfl (aA rfl) rfl c77 ?_
              refine tr1 rfl (bL (v := .d (.lit (.bool false))) (aA rfl) rfl c77 rfl rfl) ?_
              have h71 := Option.some.inj h71
              subst h71
              refine aF (aW rfl trivial rfl)
            ·refine tr1 rfl (aC (v := .d (.lit (.bool b70))) (aA rfl) rfl rfl) ?_
             obtain ⟨b72, h73, h⟩ := bind_some h
             refine bU 2 [] 188 b72 ?_ ?_
             ·refine bE (b70) (fun c74 => ?_) (fun c74 => ?_)
              ·have h73 := aX c74 h73
               obtain ⟨r75, h76, h73⟩ := bind_some h73
               refine aL rfl rfl (aA rfl) rfl c74 (cJ (aA rfl) (.func _ _ Try.call14) rfl rfl (BVs.refl _ _) (iF h76) rfl) ?_
               refine tr1 rfl (bJ (v := .d (.lit (.bool r75))) (aA rfl) rfl c74 rfl rfl) ?_
               have h73 := Option.some.inj h73
               subst h73
               refine aF (aW rfl trivial rfl)
              ·have h73 := aZ c74 h73
               refine aN rfl rfl (aA rfl) rfl (aA rfl) rfl c74 ?_
               refine tr1 rfl (bL (v := .d (.lit (.bool false))) (aA rfl) rfl c74 rfl rfl) ?_
               have h73 := Option.some.inj h73
               subst h73
               refine aF (aW rfl trivial rfl)
             ·refine tr1 rfl (aK (v := .d (.lit (.bool b72))) (aA rfl) rfl rfl) ?_
              refine aF ?_
              have h := Option.some.inj h
              subst h
              refine cT (cR (cW (l := [6]) ⟨rfl, trivial⟩)) ?_
              exact bV ⟨rfl, _, .one _, rfl, rfl⟩
         ·have h := aZ c58 h
          refine bX ?_
          refine aH ?_
          refine aD ?_
          refine tr1 rfl (bN (aA rfl) rfl (i := 0) rfl dE (es := (aS t_0)) rfl rfl) ?_
          refine tr1 rfl (aC (v := .d (.sl 5 (l_1.map aI))) (aA rfl) rfl rfl) ?_
          obtain ⟨r84, h85, h⟩ := bind_some h
          refine tr1 rfl (eN (aA rfl) (.func _ _ Try.call21) rfl rfl (eI _ _ h85)) ?_
          refine tr1 rfl (aC (v := .tup [.d (.sl 4 (r84.1.map bF)), .d (.sl 1 (r84.2.1.map aO)), .d (.lit (.bool r84.2.2))]) (aA rfl) rfl rfl) ?_
          refine tr1 rfl (bH (aA rfl) rfl rfl) ?_
          refine tr1 rfl (bH (aA rfl) rfl rfl) ?_
          refine tr1 rfl (bH (aA rfl) rfl rfl) ?_
          refine tr1 rfl (aK (v := .d (.sl 4 (r84.1.map bF))) (aA rfl) rfl rfl) ?_
          refine tr1 rfl (aK (v := .d (.sl 1 (r84.2.1.map aO))) (aA rfl) rfl rfl) ?_
          refine tr1 rfl (aK (v := .d (.lit (.bool r84.2.2))) (aA rfl) rfl rfl) ?_
          refine aF ?_
          refine aH ?_
          refine aD ?_
          refine tr1 rfl (bN (aA rfl) rfl (i := 0) rfl dE (es := (aS t_0)) rfl rfl) ?_
          refine tr1 rfl (aC (v := .d (.lit v31)) (aA rfl) rfl rfl) ?_
          refine gA (bI [0, 1, 3, 2] rfl rfl (le_refl _)) ?_
          refine gA (sS [.box b1 0 (aS t_0), .box b2 0 (dY x_2), .box b37 0 (aI (aE.mk 1 x_2.Round x_2.Place (max 0 r35.1) 0))] [.arr v31 32 5 (x29.map aI)] rfl (eF (k := 167) (v := .d (.sl 5 (x29.map aI))) (.d (fM 0 rfl (cP (f := aI) fun _ => rfl))) (eF (k := 7) (v := .d (.sl 5 (x29.map aI))) (.d (fM 0 rfl (cP (f := aI) fun _ => rfl))) (qW _ _)))) ?_
          obtain ⟨r86, h87, h⟩ := bind_some h
          refine tr1 rfl (eN (aA rfl) (.func _ _ Try.call21) rfl rfl (eI _ _ h87)) ?_
          refine tr1 rfl (aC (v := .tup [.d (.sl 4 (r86.1.map bF)), .d (.sl 1 (r86.2.1.map aO)), .d (.lit (.bool r86.2.2))]) (aA rfl) rfl rfl) ?_
          refine tr1 rfl (bH (aA rfl) rfl rfl) ?_
          refine tr1 rfl (bH (aA rfl) rfl rfl) ?_
          refine tr1 rfl (bH (aA rfl) rfl rfl) ?_
          refine tr1 rfl (aK (v := .d (.sl 4 (r86.1.map bF))) (aA rfl) rfl rfl) ?_
          refine tr1 rfl (aK (v := .d (.sl 1 (r86.2.1.map aO))) (aA rfl) rfl rfl) ?_
          refine tr1 rfl (aK (v := .d (.lit (.bool r86.2.2))) (aA rfl) rfl rfl) ?_
          refine aF ?_
          refine aH ?_
          refine aD ?_
          refine tr1 rfl (aC (v := .d (.lit (.bool r84.2.2))) (aA rfl) rfl rfl) ?_
          refine tr1 rfl (aC (v := .d (.lit (.bool r84.2.2))) (aA rfl) rfl rfl) ?_
          obtain ⟨b88, h89, h⟩ := bind_some h
          refine bU 2 [14, 15, 17, 18] 175 b88 ?_ ?_
          ·refine bE (r84.2.2) (fun c105 => ?_) (fun c105 => ?_)
           ·have h89 := aX c105 h89
            refine aL rfl rfl (aA rfl) rfl c105 (aC (v := .d (.lit (.bool r86.2.2))) (aA rfl) rfl rfl) ?_
            refine tr1 rfl (bJ (v := .d (.lit (.bool r86.2.2))) (aA rfl) rfl c105 rfl rfl) ?_
            have h89 := Option.some.inj h89
            subst h89
            refine aF (aW rfl ⟨rfl, rfl, rfl, rfl, trivial⟩ rfl)
           ·have h89 := aZ c105 h89
            refine aN rfl rfl (aA rfl) rfl (aA rfl) rfl c105 ?_
            refine tr1 rfl (bL (v := .d (.lit (.bool false))) (aA rfl) rfl c105 rfl rfl) ?_
            have h89 := Option.some.inj h89
            subst h89
            refine aF (aW rfl ⟨rfl, rfl, rfl, rfl, trivial⟩ rfl)
          ·refine tr1 rfl (aC (v := .d (.lit (.bool b88))) (aA rfl) rfl rfl) ?_
           obtain ⟨b90, h91, h⟩ := bind_some h
           refine bU 4 [15, 18] 180 b90 ?_ ?_
           ·refine bE (b88) (fun c102 => ?_) (fun c102 => ?_)
            ·have h91 := aX c102 h91
             refine aL rfl rfl (aA rfl) rfl c102 (aC (v := .d (.sl 4 (r84.1.map bF))) (aA rfl) rfl rfl) ?_
             refine aL rfl rfl (aA rfl) rfl c102 (aC (v := .d (.sl 4 (r86.1.map bF))) (aA rfl) rfl rfl) ?_
             obtain ⟨r103, h104, h91⟩ := bind_some h91
             refine aL rfl rfl (aA rfl) rfl c102 (cJ (aA rfl) (.func _ _ Try.call22) rfl rfl (BVs.refl _ _) (gM _ _ h104) rfl) ?_
             refine tr1 rfl (bJ (v := .d (.lit (.bool r103))) (aA rfl) rfl c102 rfl rfl) ?_
             have h91 := Option.some.inj h91
             subst h91
             refine aF (aW rfl ⟨rfl, rfl, trivial⟩ rfl)
            ·have h91 := aZ c102 h91
             refine aN rfl rfl (aA rfl) rfl (aA rfl) rfl c102 ?_
             refine aN rfl rfl (aA rfl) rfl (aA rfl) rfl c102 ?_
             refine aN rfl rfl (aA rfl) rfl (aA rfl) rfl c102 ?_
             refine tr1 rfl (bL (v := .d (.lit (.bool false))) (aA rfl) rfl c102 rfl rfl) ?_
             have h91 := Option.some.inj h91
             subst h91
             refine aF (aW rfl ⟨rfl, rfl, trivial⟩ rfl)
           ·refine tr1 rfl (aC (v := .d (.lit (.bool b90))) (aA rfl) rfl rfl) ?_
            obtain ⟨b92, h93, h⟩ := bind_some h
            refine bU 4 [] 185 b92 ?_ ?_
            ·refine bE (b90) (fun c99 => ?_) (fun c99 => ?_)
             ·have h93 := aX c99 h93
              refine aL rfl rfl (aA rfl) rfl c99 (aC (v := .d (.sl 1 (r84.2.1.map aO))) (aA rfl) rfl rfl) ?_
              refine aL rfl rfl (aA rfl) rfl c99 (aC (v := .d (.sl 1 (r86.2.1.map aO))) (aA rfl) rfl rfl) ?_
              obtain ⟨r100, h101, h93⟩ := bind_some h93
              refine aL rfl rfl (aA rfl) rfl c99 (cJ (aA rfl) (.func _ _ Try.call23) rfl rfl (BVs.refl _ _) (fW _ _ h101) rfl) ?_
              refine tr1 rfl (bJ (v := .d (.lit (.bool r100))) (aA rfl) rfl c99 rfl rfl) ?_
              have h93 := Option.some.inj h93
              subst h93
              refine aF (aW rfl trivial rfl)
             ·have h93 := aZ c99 h93
              refine aN rfl rfl (aA rfl) rfl (aA rfl) rfl c99 ?_
              refine aN rfl rfl (aA rfl) rfl (aA rfl) rfl c99 ?_
              refine aN rfl rfl (aA rfl) rfl (aA rfl) rfl c99 ?_
              refine tr1 rfl (bL (v := .d (.lit (.bool false))) (aA rfl) rfl c99 rfl rfl) ?_
              have h93 := Option.some.inj h93
              subst h93
              refine aF (aW rfl trivial rfl)
            ·refine tr1 rfl (aC (v := .d (.lit (.bool b92))) (aA rfl) rfl rfl) ?_
             obtain ⟨b94, h95, h⟩ := bind_some h
             refine bU 2 [] 188 b94 ?_ ?_
             ·refine bE (b92) (fun c96 => ?_) (fun c96 => ?_)
              ·have h95 := aX c96 h95
               obtain ⟨r97, h98, h95⟩ := bind_some h95
               refine aL rfl rfl (aA rfl) rfl c96 (cJ (aA rfl) (.func _ _ Try.call14) rfl rfl (BVs.refl _ _) (iF h98) rfl) ?_
               refine tr1 rfl (bJ (v := .d (.lit (.bool r97))) (aA rfl) rfl c96 rfl rfl) ?_
               have h95 := Option.some.inj h95
               subst h95
               refine aF (aW rfl trivial rfl)
              ·have h95 := aZ c96 h95
               refine aN rfl rfl (aA rfl) rfl (aA rfl) rfl c96 ?_
               refine tr1 rfl (bL (v := .d (.lit (.bool false))) (aA rfl) rfl c96 rfl rfl) ?_
               have h95 := Option.some.inj h95
               subst h95
               refine aF (aW rfl trivial rfl)
             ·refine tr1 rfl (aK (v := .d (.lit (.bool b94))) (aA rfl) rfl rfl) ?_
              refine aF ?_
              have h := Option.some.inj h
              subst h
              refine cT (cR (cW (l := [6]) ⟨rfl, trivial⟩)) ?_
              exact bV ⟨rfl, _, .one _, rfl, rfl⟩
      ·have h := aZ c34 h
       refine bX ?_
       refine aH ?_
       refine aD ?_
       refine tr1 rfl (bN (aA rfl) rfl (i := 0) rfl dE (es := (aS t_0)) rfl rfl) ?_
       refine tr1 rfl (aC (v := .d (.sl 5 (l_1.map aI))) (aA rfl) rfl rfl) ?_
       obtain ⟨r117, h118, h⟩ := bind_some h
       refine tr1 rfl (eN (aA rfl) (.func _ _ Try.call21) rfl rfl (eI _ _ h118)) ?_
       refine tr1 rfl (aC (v := .tup [.d (.sl 4 (r117.1.map bF)), .d (.sl 1 (r117.2.1.map aO)), .d (.lit (.bool r117.2.2))]) (aA rfl) rfl rfl) ?_
       refine tr1 rfl (bH (aA rfl) rfl rfl) ?_
       refine tr1 rfl (bH (aA rfl) rfl rfl) ?_
       refine tr1 rfl (bH (aA rfl) rfl rfl) ?_
       refine tr1 rfl (aK (v := .d (.sl 4 (r117.1.map bF))) (aA rfl) rfl rfl) ?_
       refine tr1 rfl (aK (v := .d (.sl 1 (r117.2.1.map aO))) (aA rfl) rfl rfl) ?_
       refine tr1 rfl (aK (v := .d (.lit (.bool r117.2.2))) (aA rfl) rfl rfl) ?_
       refine aF ?_
       refine aH ?_
       refine aD ?_
       refine tr1 rfl (bN (aA rfl) rfl (i := 0) rfl dE (es := (aS t_0)) rfl rfl) ?_
       refine tr1 rfl (aC (v := .d (.lit v31)) (aA rfl) rfl rfl) ?_
       refine gA (sS [.box b1 0 (aS t_0), .box b2 0 (dY x_2)] [.arr v31 32 5 (x29.map aI)] rfl (eF (k := 167) (v := .d (.sl 5 (x29.map aI))) (.d (fM 0 rfl (cP (f := aI) fun _ => rfl))) (eF (k := 66) (v := .d (.sl 5 (x29.map aI))) (.d (fM 0 rfl (cP (f := aI) fun _ => rfl))) (eF (k := 61) (v := .any) (.any _) (eF (k := 7) (v := .d (.sl 5 (x29.map aI))) (.d (fM 0 rfl (cP (f := aI) fun _ => rfl))) (qW _ _)))))) ?_
       obtain ⟨r119, h120, h⟩ := bind_some h
       refine tr1 rfl (eN (aA rfl) (.func _ _ Try.call21) rfl rfl (eI _ _ h120)) ?_
       refine tr1 rfl (aC (v := .tup [.d (.sl 4 (r119.1.map bF)), .d (.sl 1 (r119.2.1.map aO)), .d (.lit (.bool r119.2.2))]) (aA rfl) rfl rfl) ?_
       refine tr1 rfl (bH (aA rfl) rfl rfl) ?_
       refine tr1 rfl (bH (aA rfl) rfl rfl) ?_
       refine tr1 rfl (bH (aA rfl) rfl rfl) ?_
       refine tr1 rfl (aK (v := .d (.sl 4 (r119.1.map bF))) (aA rfl) rfl rfl) ?_
       refine tr1 rfl (aK (v := .d (.sl 1 (r119.2.1.map aO))) (aA rfl) rfl rfl) ?_
       refine tr1 rfl (aK (v := .d (.lit (.bool r119.2.2))) (aA rfl) rfl rfl) ?_
       refine aF ?_
       refine aH ?_
       refine aD ?_
       refine tr1 rfl (aC (v := .d (.lit (.bool r117.2.2))) (aA rfl) rfl rfl) ?_
       refine tr1 rfl (aC (v := .d (.lit (.bool r117.2.2))) (aA rfl) rfl rfl) ?_
       obtain ⟨b121, h122, h⟩ := bind_some h
       refine bU 2 [14, 15, 17, 18] 175 b121 ?_ ?_
       ·refine bE (r117.2.2) (fun c138 => ?_) (fun c138 => ?_)
        ·have h122 := aX c138 h122
         refine aL rfl rfl (aA rfl) rfl c138 (aC (v := .d (.lit (.bool r119.2.2))) (aA rfl) rfl rfl) ?_
         refine tr1 rfl (bJ (v := .d (.lit (.bool r119.2.2))) (aA rfl) rfl c138 rfl rfl) ?_
         have h122 := Option.some.inj h122
         subst h122
         refine aF (aW rfl ⟨rfl, rfl, rfl, rfl, trivial⟩ rfl)
        ·have h122 := aZ c138 h122
         refine aN rfl rfl (aA rfl) rfl (aA rfl) rfl c138 ?_
         refine tr1 rfl (bL (v := .d (.lit (.bool false))) (aA rfl) rfl c138 rfl rfl) ?_
         have h122 := Option.some.inj h122
         subst h122
         refine aF (aW rfl ⟨rfl, rfl, rfl, rfl, trivial⟩ rfl)
       ·refine tr1 rfl (aC (v := .d (.lit (.bool b121))) (aA rfl) rfl rfl) ?_
        obtain ⟨b123, h124, h⟩ := bind_some h
        refine bU 4 [15, 18] 180 b123 ?_ ?_
        ·refine bE (b121) (fun c135 => ?_) (fun c135 => ?_)
         ·have h124 := aX c135 h124
          refine aL rfl rfl (aA rfl) rfl c135 (aC (v := .d (.sl 4 (r117.1.map bF))) (aA rfl) rfl rfl) ?_
          refine aL rfl rfl (aA rfl) rfl c135 (aC (v := .d (.sl 4 (r119.1.map bF))) (aA rfl) rfl rfl) ?_
          obtain ⟨r136, h137, h124⟩ := bind_some h124
          refine aL rfl rfl (aA rfl) rfl c135 (cJ (aA rfl) (.func _ _ Try.call22) rfl rfl (BVs.refl _ _) (gM _ _ h137) rfl) ?_
          refine tr1 rfl (bJ (v := .d (.lit (.bool r136))) (aA rfl) rfl c135 rfl rfl) ?_
          have h124 := Option.some.inj h124
          subst h124
          refine aF (aW rfl ⟨rfl, rfl, trivial⟩ rfl)
         ·have h124 := aZ c135 h124
          refine aN rfl rfl (aA rfl) rfl (aA rfl) rfl c135 ?_
          refine aN rfl rfl (aA rfl) rfl (aA rfl) rfl c135 ?_
          refine aN rfl rfl (aA rfl) rfl (aA rfl) rfl c135 ?_
          refine tr1 rfl (bL (v := .d (.lit (.bool false))) (aA rfl) rfl c135 rfl rfl) ?_
          have h124 := Option.some.inj h124
          subst h124
          refine aF (aW rfl ⟨rfl, rfl, trivial⟩ rfl)
        ·refine tr1 rfl (aC (v := .d (.lit (.bool b123))) (aA rfl) rfl rfl) ?_
         obtain ⟨b125, h126, h⟩ := bind_some h
         refine bU 4 [] 185 b125 ?_ ?_
         ·refine bE (b123) (fun c132 => ?_) (fun c132 => ?_)
          ·have h126 := aX c132 h126
           refine aL rfl rfl (aA rfl) rfl c132 (aC (v := .d (.sl 1 (r117.2.1.map aO))) (aA rfl) rfl rfl) ?_
           refine aL rfl rfl (aA rfl) rfl c132 (aC (v := .d (.sl 1 (r119.2.1.map aO))) (aA rfl) rfl rfl) ?_
           obtain ⟨r133, h134, h126⟩ := bind_some h126
           refine aL rfl rfl (aA rfl) rfl c132 (cJ (aA rfl) (.func _ _ Try.call23) rfl rfl (BVs.refl _ _) (fW _ _ h134) rfl) ?_
           refine tr1 rfl (bJ (v := .d (.lit (.bool r133))) (aA rfl) rfl c132 rfl rfl) ?_
           have h126 := Option.some.inj h126
           subst h126
           refine aF (aW rfl trivial rfl)
          ·have h126 := aZ c132 h126
           refine aN rfl rfl (aA rfl) rfl (aA rfl) rfl c132 ?_
           refine aN rfl rfl (aA rfl) rfl (aA rfl) rfl c132 ?_
           refine aN rfl rfl (aA rfl) rfl (aA rfl) rfl c132 ?_
           refine tr1 rfl (bL (v := .d (.lit (.bool false))) (aA rfl) rfl c132 rfl rfl) ?_
           have h126 := Option.some.inj h126
           subst h126
           refine aF (aW rfl trivial rfl)
         ·refine tr1 rfl (aC (v := .d (.lit (.bool b125))) (aA rfl) rfl rfl) ?_
          obtain ⟨b127, h128, h⟩ := bind_some h
          refine bU 2 [] 188 b127 ?_ ?_
          ·refine bE (b125) (fun c129 => ?_) (fun c129 => ?_)
           ·have h128 := aX c129 h128
            obtain ⟨r130, h131, h128⟩ := bind_some h128
            refine aL rfl rfl (aA rfl) rfl c129 (cJ (aA rfl) (.func _ _ Try.call14) rfl rfl (BVs.refl _ _) (iF h131) rfl) ?_
            refine tr1 rfl (bJ (v := .d (.lit (.bool r130))) (aA rfl) rfl c129 rfl rfl) ?_
            have h128 := Option.some.inj h128
            subst h128
            refine aF (aW rfl trivial rfl)
           ·have h128 := aZ c129 h128
            refine aN rfl rfl (aA rfl) rfl (aA rfl) rfl c129 ?_
            refine tr1 rfl (bL (v := .d (.lit (.bool false))) (aA rfl) rfl c129 rfl rfl) ?_
            have h128 := Option.some.inj h128
            subst h128
            refine aF (aW rfl trivial rfl)
          ·refine tr1 rfl (aK (v := .d (.lit (.bool b127))) (aA rfl) rfl rfl) ?_
           refine aF ?_
           have h := Option.some.inj h
           subst h
           refine cT (cR (cW (l := [6]) ⟨rfl, trivial⟩)) ?_
           exact bV ⟨rfl, _, .one _, rfl, rfl⟩
     ·have h := aZ c26 h
      refine bX ?_
      refine aH ?_
      refine aH ?_
      refine aD ?_
      refine tr1 rfl (bN (aA rfl) rfl (i := 0) rfl dE (es := (aS t_0)) rfl rfl) ?_
      refine tr1 rfl (aT (aA rfl) rfl kW) ?_
      refine tr1 rfl (aY (aA rfl) rfl (i := 1) rfl rfl bK) ?_
      refine tr1 rfl (aT (aA rfl) rfl kX) ?_
      refine tr1 rfl (aY (aA rfl) rfl (i := 1) rfl rfl bK) ?_
      obtain ⟨r139, h140, h⟩ := bind_some h
      refine tr1 rfl (cJ (aA rfl) (.func _ _ Try.call13) rfl rfl (BVs.refl _ _) (nA _ _ _ h140) rfl) ?_
      refine aF ?_
      refine bY rfl (fun c141 => ?_) (fun c141 => ?_)
      ·have h := aX c141 h
       refine aH ?_
       refine aD ?_
       refine tr1 rfl (bN (aA rfl) rfl (i := 0) rfl dE (es := (aS t_0)) rfl rfl) ?_
       refine tr1 rfl (aC (v := .d (.sl 5 (l_1.map aI))) (aA rfl) rfl rfl) ?_
       refine tr1 rfl (aT (aA rfl) rfl kW) ?_
       refine tr1 rfl (aY (aA rfl) rfl (i := 1) rfl rfl bK) ?_
       refine tr1 rfl (aT (aA rfl) rfl kX) ?_
       refine tr1 rfl (aY (aA rfl) rfl (i := 1) rfl rfl bK) ?_
       obtain ⟨r142, h143, h⟩ := bind_some h
       refine tr1 rfl (cJ (aA rfl) (.func _ _ Try.call20) rfl rfl (BVs.refl _ _) (pG _ _ _ _ h143) rfl) ?_
       refine tr1 rfl (aC (v := .tup [.d (.lit (.int .i64 r142.1)), .d (.lit (.int .i64 r142.2))]) (aA rfl) rfl rfl) ?_
       refine tr1 rfl (bH (aA rfl) rfl rfl) ?_
       refine tr1 rfl (bH (aA rfl) rfl rfl) ?_
       refine tr1 rfl (aK (v := .d (.lit (.int .i64 r142.1))) (aA rfl) rfl rfl) ?_
       refine tr1 rfl (aK (v := .d (.lit (.int .i64 r142.2))) (aA rfl) rfl rfl) ?_
       refine aF ?_
       refine aH ?_
       refine aD ?_
       refine tr1 rfl (aT (aA rfl) rfl kW) ?_
       refine tr1 rfl (aY (aA rfl) rfl (i := 1) rfl rfl bK) ?_
       refine tr1 rfl (aT (aA rfl) rfl kX) ?_
       refine tr1 rfl (aY (aA rfl) rfl (i := 1) rfl rfl bK) ?_
       refine tr1 rfl (aC (v := .d (.lit (.int .i64 r142.1))) (aA rfl) rfl rfl) ?_
       refine tr1 rfl (aKq (aA rfl) rfl rfl) ?_
       refine tr1 rfl (eZ (aA rfl) uY (zs := [.lit (.int .i64 0), .lit (.int .i64 0), .lit (.int .i64 0), .lit (.int .i64 0), .lit (.int .i64 0)]) rfl rfl rfl rfl (es := [.lit (.int .i64 1), .lit (.int .i64 x_2.Round), .lit (.int .i64 x_2.Place), .lit (.int .i64 ((max 0 r142.1))), .lit (.int .i64 0)]) rfl) ?_
       refine cB rfl (eC (zs := [.lit (.int .i64 0), .lit (.int .i64 0), .lit (.int .i64 0), .lit (.int .i64 0), .lit (.int .i64 0)]) (aA rfl) Try.zeroValue32 rfl rfl) ?_
       rintro _ ⟨b144, rfl⟩
       refine tr1 rfl (cM (i := 3) rfl rfl rfl rfl rfl Try.sizeOf32 rfl (aA rfl) (Nat.le_of_ble_eq_true rfl) (ds' := (aI (aE.mk 1 x_2.Round x_2.Place (max 0 r142.1) 0))) rfl) ?_
       refine aF ?_
       refine aH ?_
       refine aD ?_
       refine tr1 rfl (aC (v := .d (.lit (.int .i64 r142.2))) (aA rfl) rfl rfl) ?_
       refine tr1 rfl (bM (aA rfl) rfl rfl rfl) ?_
       refine tr1 rfl (aC (v := .d (.lit (.bool ((decide (r142.2 = 0)))))) (aA rfl) rfl rfl) ?_
       obtain ⟨b145, h146, h⟩ := bind_some h
       refine bU 25 [1, 3, 5, 7, 11] 117 b145 ?_ ?_
       ·refine bE (decide (r142.2 = 0)) (fun c213 => ?_) (fun c213 => ?_)
        ·have h146 := aX c213 h146
         refine aL rfl rfl (aA rfl) rfl c213 (aT (aA rfl) rfl kW) ?_
         refine aL rfl rfl (aA rfl) rfl c213 (aY (aA rfl) rfl (i := 1) rfl rfl bK) ?_
         refine aL rfl rfl (aA rfl) rfl c213 (bM (aA rfl) rfl rfl rfl) ?_
         refine aL rfl rfl (aA rfl) rfl c213 (aC (v := .d (.lit (.bool ((decide (0 < x_2.Round)))))) (aA rfl) rfl rfl) ?_
         obtain ⟨b214, h215, h146⟩ := bind_some h146
         refine bU 20 [1, 3, 5, 7, 11, 92] 116 b214 ?_ ?_
         ·refine bE (decide (0 < x_2.Round)) (fun c216 => ?_) (fun c216 => ?_)
          ·have h215 := aX c216 h215
           refine aN rfl rfl (aA rfl) rfl (aA rfl) rfl c216 ?_
           refine aN rfl rfl (aA rfl) rfl (aA rfl) rfl c216 ?_
           refine aN rfl rfl (aA rfl) rfl (aA rfl) rfl c216 ?_
           refine aN rfl rfl (aA rfl) rfl (aA rfl) rfl c216 ?_
           refine aN rfl rfl (aA rfl) rfl (aA rfl) rfl c216 ?_
           refine aN rfl rfl (aA rfl) rfl (aA rfl) rfl c216 ?_
           refine aN rfl rfl (aA rfl) rfl (aA rfl) rfl c216 ?_
           refine aN rfl rfl (aA rfl) rfl (aA rfl) rfl c216 ?_
           refine aN rfl rfl (aA rfl) rfl (aA rfl) rfl c216 ?_
           refine bS rfl rfl (aA rfl) rfl (aA rfl) rfl ?_
           refine bS rfl rfl (aA rfl) rfl (aA rfl) rfl ?_
           refine bS rfl rfl (aA rfl) rfl (aA rfl) rfl ?_
           refine bS rfl rfl (aA rfl) rfl (aA rfl) rfl ?_
           refine bS rfl rfl (aA rfl) rfl (aA rfl) rfl ?_
           refine bS rfl rfl (aA rfl) rfl (aA rfl) rfl ?_
           refine bS rfl rfl (aA rfl) rfl (aA rfl) rfl ?_
           refine bS rfl rfl (aA rfl) rfl (aA rfl) rfl ?_
           refine bS rfl rfl (aA rfl) rfl (aA rfl) rfl ?_
           refine aN rfl rfl (aA rfl) rfl (aA rfl) rfl c216 ?_
           refine aL rfl rfl (aA rfl) rfl c213 (bJ (v := .d (.lit (.bool true))) (aA rfl) rfl c216 rfl rfl) ?_
           have h215 := Option.some.inj h215
           subst h215
           refine aF (aW rfl ⟨rfl, rfl, rfl, rfl, rfl, rfl, trivial⟩ rfl)
          ·have h215 := aZ c216 h215
           refine aL rfl rfl (aA rfl) rfl c216 (aT (aA rfl) rfl dL) ?_
           refine aL rfl rfl (aA rfl) rfl c216 (aY (aA rfl) rfl (i := 0) rfl rfl dB) ?_
           refine aL rfl rfl (aA rfl) rfl c216 (aT (aA rfl) rfl kX) ?_
           refine aL rfl rfl (aA rfl) rfl c216 (aY (aA rfl) rfl (i := 1) rfl rfl bK) ?_
           refine aL rfl rfl (aA rfl) rfl c216 (bR (aA rfl) rfl rfl rfl) ?_
           obtain ⟨x217, h218, h215⟩ := bind_some h215
           refine aL rfl rfl (aA rfl) rfl c216 (bQ (aA rfl) rfl rfl cC.of (bZ aO h218)) ?_
           refine aL rfl rfl (aA rfl) rfl c216 (bT (aA rfl) rfl bK) ?_
           refine aL rfl rfl (aA rfl) rfl c216 (bM (aA rfl) rfl rfl rfl) ?_
           refine aL rfl rfl (aA rfl) rfl c216 (aC (v := .d (.lit (.bool ((!decide (x217 = (-1))))))) (aA rfl) rfl rfl) ?_
           obtain ⟨b219, h220, h215⟩ := bind_some h215
           refine bU 10 [1, 3, 5, 7, 11, 92, 96] 115 b219 ?_ ?_
           ·refine bE (!decide (x217 = (-1))) (fun c221 => ?_) (fun c221 => ?_)
            ·have h220 := aX c221 h220
             refine aL rfl rfl (aA rfl) rfl c221 (aT (aA rfl) rfl dL) ?_
             refine aL rfl rfl (aA rfl) rfl c221 (aY (aA rfl) rfl (i := 0) rfl rfl dB) ?_
             refine aL rfl rfl (aA rfl) rfl c221 (aT (aA rfl) rfl kX) ?_
             refine aL rfl rfl (aA rfl) rfl c221 (aY (aA rfl) rfl (i := 1) rfl rfl bK) ?_
             refine aL rfl rfl (aA rfl) rfl c221 (bR (aA rfl) rfl rfl rfl) ?_
             refine aL rfl rfl (aA rfl) rfl c221 (bR (aA rfl) rfl rfl rfl) ?_
             obtain ⟨x222, h223, h220⟩ := bind_some h220
             refine aL rfl rfl (aA rfl) rfl c221 (bQ (aA rfl) rfl rfl cC.of (bZ aO h223)) ?_
             refine aL rfl rfl (aA rfl) rfl c221 (bT (aA rfl) rfl bK) ?_
             refine aL rfl rfl (aA rfl) rfl c221 (bM (aA rfl) rfl rfl rfl) ?_
             refine aL rfl rfl (aA rfl) rfl c216 (bJ (v := .d (.lit (.bool ((!decide (x222 = (-1))))))) (aA rfl) rfl c221 rfl rfl) ?_
             have h220 := Option.some.inj h220
             subst h220
             refine aF (aW rfl ⟨rfl, rfl, rfl, rfl, rfl, rfl, rfl, trivial⟩ rfl)
            ·have h220 := aZ c221 h220
             refine aN rfl rfl (aA rfl) rfl (aA rfl) rfl c221 ?_
             refine aN rfl rfl (aA rfl) rfl (aA rfl) rfl c221 ?_
             refine aN rfl rfl (aA rfl) rfl (aA rfl) rfl c221 ?_
             refine aN rfl rfl (aA rfl) rfl (aA rfl) rfl c221 ?_
             refine aN rfl rfl (aA rfl) rfl (aA rfl) rfl c221 ?_
             refine aN rfl rfl (aA rfl) rfl (aA rfl) rfl c221 ?_
             refine aN rfl rfl (aA rfl) rfl (aA rfl) rfl c221 ?_
             refine aN rfl rfl (aA rfl) rfl (aA rfl) rfl c221 ?_
             refine aN rfl rfl (aA rfl) rfl (aA rfl) rfl c221 ?_
             refine aL rfl rfl (aA rfl) rfl c216 (bL (v := .d (.lit (.bool false))) (aA rfl) rfl c221 rfl rfl) ?_
             have h220 := Option.some.inj h220
             subst h220
             refine aF (aW rfl ⟨rfl, rfl, rfl, rfl, rfl, rfl, rfl, trivial⟩ rfl)
           ·refine aL rfl rfl (aA rfl) rfl c213 (bL (v := .d (.lit (.bool b219))) (aA rfl) rfl c216 rfl rfl) ?_
            have h215 := Option.some.inj h215
            subst h215
            refine aF (aW rfl ⟨rfl, rfl, rfl, rfl, rfl, rfl, trivial⟩ rfl)
         ·refine tr1 rfl (bJ (v := .d (.lit (.bool b214))) (aA rfl) rfl c213 rfl rfl) ?_
          have h146 := Option.some.inj h146
          subst h146
          refine aF (aW rfl ⟨rfl, rfl, rfl, rfl, rfl, trivial⟩ rfl)
        ·have h146 := aZ c213 h146
         refine aN rfl rfl (aA rfl) rfl (aA rfl) rfl c213 ?_
         refine aN rfl rfl (aA rfl) rfl (aA rfl) rfl c213 ?_
         refine aN rfl rfl (aA rfl) rfl (aA rfl) rfl c213 ?_
         refine aN rfl rfl (aA rfl) rfl (aA rfl) rfl c213 ?_
         refine bS rfl rfl (aA rfl) rfl (aA rfl) rfl ?_
         refine bS rfl rfl (aA rfl) rfl (aA rfl) rfl ?_
         refine bS rfl rfl (aA rfl) rfl (aA rfl) rfl ?_
         refine bS rfl rfl (aA rfl) rfl (aA rfl) rfl ?_
         refine bS rfl rfl (aA rfl) rfl (aA rfl) rfl ?_
         refine bS rfl rfl (aA rfl) rfl (aA rfl) rfl ?_
         refine bS rfl rfl (aA rfl) rfl (aA rfl) rfl ?_
         refine bS rfl rfl (aA rfl) rfl (aA rfl) rfl ?_
         refine bS rfl rfl (aA rfl) rfl (aA rfl) rfl ?_
         refine bS rfl rfl (aA rfl) rfl (aA rfl) rfl ?_
         refine bS rfl rfl (aA rfl) rfl (aA rfl) rfl ?_
         refine bS rfl rfl (aA rfl) rfl (aA rfl) rfl ?_
         refine bS rfl rfl (aA rfl) rfl (aA rfl) rfl ?_
         refine bS rfl rfl (aA rfl) rfl (aA rfl) rfl ?_
         refine bS rfl rfl (aA rfl) rfl (aA rfl) rfl ?_
         refine bS rfl rfl (aA rfl) rfl (aA rfl) rfl ?_
         refine bS rfl rfl (aA rfl) rfl (aA rfl) rfl ?_
         refine bS rfl rfl (aA rfl) rfl (aA rfl) rfl ?_
         refine bS rfl rfl (aA rfl) rfl (aA rfl) rfl ?_
         refine aN rfl rfl (aA rfl) rfl (aA rfl) rfl c213 ?_
         refine tr1 rfl (bL (v := .d (.lit (.bool false))) (aA rfl) rfl c213 rfl rfl) ?_
         have h146 := Option.some.inj h146
         subst h146
         refine aF (aW rfl ⟨rfl, rfl, rfl, rfl, rfl, trivial⟩ rfl)
       ·refine tr1 rfl (aK (v := .d (.lit (.bool b145))) (aA rfl) rfl rfl) ?_
        refine aF ?_
        refine aH ?_
        refine aH ?_
        refine aD ?_
        refine tr1 rfl (aK (v := .d (.lit (.int .i64 0))) (aA rfl) rfl rfl) ?_
        refine aF ?_
        refine cG ?_
        refine dN [1, 3, 5, 7, 11] (fun (s147 : Bool × Int) => [(12, .d (.lit (.bool s147.1))), (13, .d (.lit (.int .i64 s147.2)))]) (fun (s147 : Bool × Int) => [.box b1 0 (aS t_0), .box b2 0 (dY x_2), .arr w14 32 5 (moved_0_13.map aI), .box b144 0 (aI (aE.mk 1 x_2.Round x_2.Place (max 0 r142.1) 0))]) (fun (k : Nat) (s147 : Bool × Int) => cU l_1 t_0 x_2 moved_0_13 (aE.mk 1 x_2.Round x_2.Place (max 0 r142.1) 0) k s147.1 s147.2) (fun _ => rfl) (b145, 0) h (bI [0, 1, 2, 3] rfl rfl (aU rfl (aU rfl (bD ⟨rfl, rfl, rfl, rfl, rfl, trivial⟩)))) ?_
        rintro k148 ⟨free_2_147, i_2_147⟩ h
        simp only [cU] at h
        refine aH ?_
        refine aH ?_
        refine aD ?_
        refine tr1 rfl (aC (v := .d (.lit (.int .i64 i_2_147))) (aA rfl) rfl rfl) ?_
        refine tr1 rfl (aC (v := .d (.sl 5 (l_1.map aI))) (aA rfl) rfl rfl) ?_
        refine tr1 rfl (dM (aA rfl) rfl dH.of) ?_
        refine tr1 rfl (bM (aA rfl) rfl rfl rfl) ?_
        refine aF ?_
        refine bY rfl (fun c149 => ?_) (fun c149 => ?_)
        ·have h := aX c149 h
         refine bX ?_
         refine aH ?_
         refine cG ?_
         obtain ⟨b150, h151, h⟩ := bind_some h
         refine dZ mix 29 [1, 3, 5, 7, 11, 13] [(152, .d (.lit (.bool b150)))] ?_ ?_
         ·refine bE (free_2_147) (fun c152 => ?_) (fun c152 => ?_)
          ·have h151 := aX c152 h151
           obtain ⟨x153, h154, h151⟩ := bind_some h151
           obtain ⟨b155, h156, h151⟩ := bind_some h151
           refine bE (decide (x153.Kind = 5)) (fun c157 => ?_) (fun c157 => ?_)
           ·have h156 := aX c157 h156
            have h156 := Option.some.inj h156
            subst h156
            obtain ⟨b160, h161, h151⟩ := bind_some h151
            have c162 : true = true := rfl
            have h161 := aX c162 h161
            have h161 := Option.some.inj h161
            subst h161
            have h151 := Option.some.inj h151
            subst h151
            refine ⟨[(124, 0, .d (.lit (.bool free_2_147))), (125, 1, .d (.lit (.bool free_2_147))), (126, 2, .d (.sl 5 (l_1.map aI))), (127, 3, .d (.lit (.int .i64 i_2_147))), (128, 4, .cp [.lit (.int .i64 x153.Kind), .lit (.int .i64 x153.Round), .lit (.int .i64 x153.Place), .lit (.int .i64 x153.Player), .lit (.int .i64 x153.Old)]), (129, 5, .cp [.lit (.int .i64 x153.Kind)]), (130, 6, .d (.lit (.int .i64 x153.Kind))), (131, 7, .d (.lit (.bool ((decide (x153.Kind = 5)))))), (132, 8, .d (.lit (.bool ((decide (x153.Kind = 5)))))), (133, 9, .tup []), (134, 10, .tup []), (135, 11, .tup []), (136, 12, .tup []), (137, 13, .tup []), (138, 14, .tup []), (139, 15, .tup []), (140, 16, .tup []), (141, 17, .d (.lit (.bool true))), (142, 18, .d (.lit (.bool (true)))), (143, 19, .tup []), (144, 20, .tup []), (145, 21, .tup []), (146, 22, .tup []), (147, 23, .tup []), (148, 24, .tup []), (149, 25, .tup []), (150, 26, .tup []), (151, 27, .d (.lit (.bool true))), (152, 28, .d (.lit (.bool (true))))], ?_, ?_⟩
            · exact ⟨by kernel_rfl, by kernel_rfl, by kernel_rfl, by kernel_rfl, by kernel_rfl, [([], []), ([0], []), ([1], []), ([1], []), ([1, 2, 3], []), ([1, 4], []), ([1, 5], []), ([1, 6], []), ([1, 7], []), ([8], []), ([8], []), ([8, 9, 10], []), ([8, 11], []), ([8, 12], []), ([8], []), ([8, 14], []), ([8, 13, 15], []), ([1, 8, 16], []), ([1, 17], []), ([18], []), ([18], []), ([18, 19, 20], []), ([18, 21], []), ([18, 22], []), ([18], []), ([18, 24], []), ([18, 23, 25], []), ([1, 18, 26], []), ([1, 27], [])], by kernel_rfl, ⟨fun S hS => aG rfl (aV rfl (aC (v := .d (.lit (.bool free_2_147))) (aA rfl) (aJ hS rfl) rfl)),
      fun S hS => aG rfl (aV rfl (aC (v := .d (.lit (.bool free_2_147))) (aA rfl) (aJ hS rfl) rfl)),
      fun S hS => aG rfl (bA rfl rfl (aA rfl) (aQ hS rfl) c152 (aC (v := .d (.sl 5 (l_1.map aI))) (aA rfl) (aJ hS rfl) rfl)),
      fun S hS => aG rfl (bA rfl rfl (aA rfl) (aQ hS rfl) c152 (aC (v := .d (.lit (.int .i64 i_2_147))) (aA rfl) (aJ hS rfl) rfl)),
      fun S hS => aG rfl (bA rfl rfl (aA rfl) (aQ hS rfl) c152 (bQ (aA rfl) (aJ hS rfl) (aJ hS rfl) dH.of (bZ aI h154))),
      fun S hS => aG rfl (bA rfl rfl (aA rfl) (aQ hS rfl) c152 (cH (aA rfl) (aJ hS rfl) iW (es := [.lit (.int .i64 x153.Kind)]) rfl)),
      fun S hS => aG rfl (bA rfl rfl (aA rfl) (aQ hS rfl) c152 (bT (aA rfl) (aJ hS rfl) bK)),
      fun S hS => aG rfl (bA rfl rfl (aA rfl) (aQ hS rfl) c152 (bM (aA rfl) (aJ hS rfl) rfl rfl)),
      fun S hS => aG rfl (bA rfl rfl (aA rfl) (aQ hS rfl) c152 (aC (v := .d (.lit (.bool ((decide (x153.Kind = 5)))))) (aA rfl) (aJ hS rfl) rfl)),
      fun S hS => aG rfl (bG rfl rfl (aA rfl) rfl (aA rfl) (aQ hS rfl) c157),
      fun S hS => aG rfl (bG rfl rfl (aA rfl) rfl (aA rfl) (aQ hS rfl) c157),
      fun S hS => aG rfl (bG rfl rfl (aA rfl) rfl (aA rfl) (aQ hS rfl) c157),
      fun S hS => aG rfl (bG rfl rfl (aA rfl) rfl (aA rfl) (aQ hS rfl) c157),
      fun S hS => aG rfl (bG rfl rfl (aA rfl) rfl (aA rfl) (aQ hS rfl) c157),
      fun S hS => aG rfl (bG rfl rfl (aA rfl) rfl (aA rfl) (aQ hS rfl) c157),
      fun S hS => aG rfl (bG rfl rfl (aA rfl) rfl (aA rfl) (aQ hS rfl) c157),
      fun S hS => aG rfl (bG rfl rfl (aA rfl) rfl (aA rfl) (aQ hS rfl) c157),
      fun S hS => aG rfl (bA rfl rfl (aA rfl) (aQ hS rfl) c152 (bJ (v := .d (.lit (.bool true))) (aA rfl) (aJ hS rfl) c157 rfl rfl)),
      fun S hS => aG rfl (bA rfl rfl (aA rfl) (aQ hS rfl) c152 (aC (v := .d (.lit (.bool (true)))) (aA rfl) (aJ hS rfl) rfl)),
      fun S hS => aG rfl (bG rfl rfl (aA rfl) rfl (aA rfl) (aQ hS rfl) c162),
      fun S hS => aG rfl (bG rfl rfl (aA rfl) rfl (aA rfl) (aQ hS rfl) c162),
      fun S hS => aG rfl (bG rfl rfl (aA rfl) rfl (aA rfl) (aQ hS rfl) c162),
      fun S hS => aG rfl (bG rfl rfl (aA rfl) rfl (aA rfl) (aQ hS rfl) c162),
      fun S hS => aG rfl (bG rfl rfl (aA rfl) rfl (aA rfl) (aQ hS rfl) c162),
      fun S hS => aG rfl (bG rfl rfl (aA rfl) rfl (aA rfl) (aQ hS rfl) c162),
      fun S hS => aG rfl (bG rfl rfl (aA rfl) rfl (aA rfl) (aQ hS rfl) c162),
      fun S hS => aG rfl (bG rfl rfl (aA rfl) rfl (aA rfl) (aQ hS rfl) c162),
      fun S hS => aG rfl (bA rfl rfl (aA rfl) (aQ hS rfl) c152 (bJ (v := .d (.lit (.bool true))) (aA rfl) (aJ hS rfl) c162 rfl rfl)),
      fun S hS => aG rfl (aV rfl (bJ (v := .d (.lit (.bool (true)))) (aA rfl) (aJ hS rfl) c152 (aJ hS rfl) rfl)), trivial⟩⟩
            · exact cZ (aU rfl (bD ⟨rfl, rfl, rfl, rfl, rfl, rfl, trivial⟩))
           ·have h156 := aZ c157 h156
            obtain ⟨x158, h159, h156⟩ := bind_some h156
            have h156 := Option.some.inj h156
            subst h156
            obtain ⟨b160, h161, h151⟩ := bind_some h151
            refine bE (!decide (x158.Round = x_2.Round)) (fun c162 => ?_) (fun c162 => ?_)
            ·have h161 := aX c162 h161
             have h161 := Option.some.inj h161
             subst h161
             have h151 := Option.some.inj h151
             subst h151
             refine ⟨[(124, 0, .d (.lit (.bool free_2_147))), (125, 1, .d (.lit (.bool free_2_147))), (126, 2, .d (.sl 5 (l_1.map aI))), (127, 3, .d (.lit (.int .i64 i_2_147))), (128, 4, .cp [.lit (.int .i64 x153.Kind), .lit (.int .i64 x153.Round), .lit (.int .i64 x153.Place), .lit (.int .i64 x153.Player), .lit (.int .i64 x153.Old)]), (129, 5, .cp [.lit (.int .i64 x153.Kind)]), (130, 6, .d (.lit (.int .i64 x153.Kind))), (131, 7, .d (.lit (.bool ((decide (x153.Kind = 5)))))), (132, 8, .d (.lit (.bool ((decide (x153.Kind = 5)))))), (133, 9, .d (.sl 5 (l_1.map aI))), (134, 10, .d (.lit (.int .i64 i_2_147))), (135, 11, .cp [.lit (.int .i64 x158.Kind), .lit (.int .i64 x158.Round), .lit (.int .i64 x158.Place), .lit (.int .i64 x158.Player), .lit (.int .i64 x158.Old)]), (136, 12, .cp [.lit (.int .i64 x158.Round)]), (137, 13, .d (.lit (.int .i64 x158.Round))), (138, 14, .bp b2 0 0), (139, 15, .d (.lit (.int .i64 x_2.Round))), (140, 16, .d (.lit (.bool ((!decide (x158.Round = x_2.Round)))))), (141, 17, .d (.lit (.bool ((!decide (x158.Round = x_2.Round)))))), (142, 18, .d (.lit (.bool (!decide (x158.Round = x_2.Round))))), (143, 19, .tup []), (144, 20, .tup []), (145, 21, .tup []), (146, 22, .tup []), (147, 23, .tup []), (148, 24, .tup []), (149, 25, .tup []), (150, 26, .tup []), (151, 27, .d (.lit (.bool true))), (152, 28, .d (.lit (.bool (true))))], ?_, ?_⟩
             · exact ⟨by kernel_rfl, by kernel_rfl, by kernel_rfl, by kernel_rfl, by kernel_rfl, [([], []), ([0], []), ([1], []), ([1], []), ([1, 2, 3], []), ([1, 4], []), ([1, 5], []), ([1, 6], []), ([1, 7], []), ([8], []), ([8], []), ([8, 9, 10], []), ([8, 11], []), ([8, 12], []), ([8], []), ([8, 14], []), ([8, 13, 15], []), ([1, 8, 16], []), ([1, 17], []), ([18], []), ([18], []), ([18, 19, 20], []), ([18, 21], []), ([18, 22], []), ([18], []), ([18, 24], []), ([18, 23, 25], []), ([1, 18, 26], []), ([1, 27], [])], by kernel_rfl, ⟨fun S hS => aG rfl (aV rfl (aC (v := .d (.lit (.bool free_2_147))) (aA rfl) (aJ hS rfl) rfl)),
      fun S hS => aG rfl (aV rfl (aC (v := .d (.lit (.bool free_2_147))) (aA rfl) (aJ hS rfl) rfl)),
      fun S hS => aG rfl (bA rfl rfl (aA rfl) (aQ hS rfl) c152 (aC (v := .d (.sl 5 (l_1.map aI))) (aA rfl) (aJ hS rfl) rfl)),
      fun S hS => aG rfl (bA rfl rfl (aA rfl) (aQ hS rfl) c152 (aC (v := .d (.lit (.int .i64 i_2_147))) (aA rfl) (aJ hS rfl) rfl)),
      fun S hS => aG rfl (bA rfl rfl (aA rfl) (aQ hS rfl) c152 (bQ (aA rfl) (aJ hS rfl) (aJ hS rfl) dH.of (bZ aI h154))),
      fun S hS => aG rfl (bA rfl rfl (aA rfl) (aQ hS rfl) c152 (cH (aA rfl) (aJ hS rfl) iW (es := [.lit (.int .i64 x153.Kind)]) rfl)),
      fun S hS => aG rfl (bA rfl rfl (aA rfl) (aQ hS rfl) c152 (bT (aA rfl) (aJ hS rfl) bK)),
      fun S hS => aG rfl (bA rfl rfl (aA rfl) (aQ hS rfl) c152 (bM (aA rfl) (aJ hS rfl) rfl rfl)),
      fun S hS => aG rfl (bA rfl rfl (aA rfl) (aQ hS rfl) c152 (aC (v := .d (.lit (.bool ((decide (x153.Kind = 5)))))) (aA rfl) (aJ hS rfl) rfl)),
      fun S hS => aG rfl (bA rfl rfl (aA rfl) (aQ hS rfl) c157 (aC (v := .d (.sl 5 (l_1.map aI))) (aA rfl) (aJ hS rfl) rfl)),
      fun S hS => aG rfl (bA rfl rfl (aA rfl) (aQ hS rfl) c157 (aC (v := .d (.lit (.int .i64 i_2_147))) (aA rfl) (aJ hS rfl) rfl)),
      fun S hS => aG rfl (bA rfl rfl (aA rfl) (aQ hS rfl) c157 (bQ (aA rfl) (aJ hS rfl) (aJ hS rfl) dH.of (bZ aI h159))),
      fun S hS => aG rfl (bA rfl rfl (aA rfl) (aQ hS rfl) c157 (cH (aA rfl) (aJ hS rfl) iX (es := [.lit (.int .i64 x158.Round)]) rfl)),
      fun S hS => aG rfl (bA rfl rfl (aA rfl) (aQ hS rfl) c157 (bT (aA rfl) (aJ hS rfl) bK)),
      fun S hS => aG rfl (bA rfl rfl (aA rfl) (aQ hS rfl) c157 (aT (aA rfl) (aJ hS rfl) kW)),
      fun S hS => aG rfl (bA rfl rfl (aA rfl) (aQ hS rfl) c157 (aY (aA rfl) (aJ hS rfl) (i := 1) rfl rfl bK)),
      fun S hS => aG rfl (bA rfl rfl (aA rfl) (aQ hS rfl) c157 (bM (aA rfl) (aJ hS rfl) (aJ hS rfl) rfl)),
      fun S hS => aG rfl (bA rfl rfl (aA rfl) (aQ hS rfl) c152 (bL (v := .d (.lit (.bool ((!decide (x158.Round = x_2.Round)))))) (aA rfl) (aJ hS rfl) c157 (aJ hS rfl) rfl)),
      fun S hS => aG rfl (bA rfl rfl (aA rfl) (aQ hS rfl) c152 (aC (v := .d (.lit (.bool (!decide (x158.Round = x_2.Round))))) (aA rfl) (aJ hS rfl) rfl)),
      fun S hS => aG rfl (bG rfl rfl (aA rfl) rfl (aA rfl) (aQ hS rfl) c162),
      fun S hS => aG rfl (bG rfl rfl (aA rfl) rfl (aA rfl) (aQ hS rfl) c162),
      fun S hS => aG rfl (bG rfl rfl (aA rfl) rfl (aA rfl) (aQ hS rfl) c162),
      fun S hS => aG rfl (bG rfl rfl (aA rfl) rfl (aA rfl) (aQ hS rfl) c162),
      fun S hS => aG rfl (bG rfl rfl (aA rfl) rfl (aA rfl) (aQ hS rfl) c162),
      fun S hS => aG rfl (bG rfl rfl (aA rfl) rfl (aA rfl) (aQ hS rfl) c162),
      fun S hS => aG rfl (bG rfl rfl (aA rfl) rfl (aA rfl) (aQ hS rfl) c162),
      fun S hS => aG rfl (bG rfl rfl (aA rfl) rfl (aA rfl) (aQ hS rfl) c162),
      fun S hS => aG rfl (bA rfl rfl (aA rfl) (aQ hS rfl) c152 (bJ (v := .d (.lit (.bool true))) (aA rfl) (aJ hS rfl) c162 rfl rfl)),
      fun S hS => aG rfl (aV rfl (bJ (v := .d (.lit (.bool (true)))) (aA rfl) (aJ hS rfl) c152 (aJ hS rfl) rfl)), trivial⟩⟩
             · exact cZ (aU rfl (bD ⟨rfl, rfl, rfl, rfl, rfl, rfl, trivial⟩))
            ·have h161 := aZ c162 h161
             obtain ⟨x163, h164, h161⟩ := bind_some h161
             have h161 := Option.some.inj h161
             subst h161
             have h151 := Option.some.inj h151
             subst h151
             refine ⟨[(124, 0, .d (.lit (.bool free_2_147))), (125, 1, .d (.lit (.bool free_2_147))), (126, 2, .d (.sl 5 (l_1.map aI))), (127, 3, .d (.lit (.int .i64 i_2_147))), (128, 4, .cp [.lit (.int .i64 x153.Kind), .lit (.int .i64 x153.Round), .lit (.int .i64 x153.Place), .lit (.int .i64 x153.Player), .lit (.int .i64 x153.Old)]), (129, 5, .cp [.lit (.int .i64 x153.Kind)]), (130, 6, .d (.lit (.int .i64 x153.Kind))), (131, 7, .d (.lit (.bool ((decide (x153.Kind = 5)))))), (132, 8, .d (.lit (.bool ((decide (x153.Kind = 5)))))), (133, 9, .d (.sl 5 (l_1.map aI))), (134, 10, .d (.lit (.int .i64 i_2_147))), (135, 11, .cp [.lit (.int .i64 x158.Kind), .lit (.int .i64 x158.Round), .lit (.int .i64 x158.Place), .lit (.int .i64 x158.Player), .lit (.int .i64 x158.Old)]), (136, 12, .cp [.lit (.int .i64 x158.Round)]), (137, 13, .d (.lit (.int .i64 x158.Round))), (138, 14, .bp b2 0 0), (139, 15, .d (.lit (.int .i64 x_2.Round))), (140, 16, .d (.lit (.bool ((!decide (x158.Round = x_2.Round)))))), (141, 17, .d (.lit (.bool ((!decide (x158.Round = x_2.Round)))))), (142, 18, .d (.lit (.bool (!decide (x158.Round = x_2.Round))))), (143, 19, .d (.sl 5 (l_1.map aI))), (144, 20, .d (.lit (.int .i64 i_2_147))), (145, 21, .cp [.lit (.int .i64 x163.Kind), .lit (.int .i64 x163.Round), .lit (.int .i64 x163.Place), .lit (.int .i64 x163.Player), .lit (.int .i64 x163.Old)]), (146, 22, .cp [.lit (.int .i64 x163.Place)]), (147, 23, .d (.lit (.int .i64 x163.Place))), (148, 24, .bp b2 0 1), (149, 25, .d (.lit (.int .i64 x_2.Place))), (150, 26, .d (.lit (.bool ((!decide (x163.Place = x_2.Place)))))), (151, 27, .d (.lit (.bool ((!decide (x163.Place = x_2.Place)))))), (152, 28, .d (.lit (.bool (!decide (x163.Place = x_2.Place)))))], ?_, ?_⟩
             · exact ⟨by kernel_rfl, by kernel_rfl, by kernel_rfl, by kernel_rfl, by kernel_rfl, [([], []), ([0], []), ([1], []), ([1], []), ([1, 2, 3], []), ([1, 4], []), ([1, 5], []), ([1, 6], []), ([1, 7], []), ([8], []), ([8], []), ([8, 9, 10], []), ([8, 11], []), ([8, 12], []), ([8], []), ([8, 14], []), ([8, 13, 15], []), ([1, 8, 16], []), ([1, 17], []), ([18], []), ([18], []), ([18, 19, 20], []), ([18, 21], []), ([18, 22], []), ([18], []), ([18, 24], []), ([18, 23, 25], []), ([1, 18, 26], []), ([1, 27], [])], by kernel_rfl, ⟨fun S hS => aG rfl (aV rfl (aC (v := .d (.lit (.bool free_2_147))) (aA rfl) (aJ hS rfl) rfl)),
      fun S hS => aG rfl (aV rfl (aC (v := .d (.lit (.bool free_2_147))) (aA rfl) (aJ hS rfl) rfl)),
      fun S hS => aG rfl (bA rfl rfl (aA rfl) (aQ hS rfl) c152 (aC (v := .d (.sl 5 (l_1.map aI))) (aA rfl) (aJ hS rfl) rfl)),
      fun S hS => aG rfl (bA rfl rfl (aA rfl) (aQ hS rfl) c152 (aC (v := .d (.lit (.int .i64 i_2_147))) (aA rfl) (aJ hS rfl) rfl)),
      fun S hS => aG rfl (bA rfl rfl (aA rfl) (aQ hS rfl) c152 (bQ (aA rfl) (aJ hS rfl) (aJ hS rfl) dH.of (bZ aI h154))),
      fun S hS => aG rfl (bA rfl rfl (aA rfl) (aQ hS rfl) c152 (cH (aA rfl) (aJ hS rfl) iW (es := [.lit (.int .i64 x153.Kind)]) rfl)),
      fun S hS => aG rfl (bA rfl rfl (aA rfl) (aQ hS rfl) c152 (bT (aA rfl) (aJ hS rfl) bK)),
      fun S hS => aG rfl (bA rfl rfl (aA rfl) (aQ hS rfl) c152 (bM (aA rfl) (aJ hS rfl) rfl rfl)),
      fun S hS => aG rfl (bA rfl rfl (aA rfl) (aQ hS rfl) c152 (aC (v := .d (.lit (.bool ((decide (x153.Kind = 5)))))) (aA rfl) (aJ hS rfl) rfl)),
      fun S hS => aG rfl (bA rfl rfl (aA rfl) (aQ hS rfl) c157 (aC (v := .d (.sl 5 (l_1.map aI))) (aA rfl) (aJ hS rfl) rfl)),
      fun S hS => aG rfl (bA rfl rfl (aA rfl) (aQ hS rfl) c157 (aC (v := .d (.lit (.int .i64 i_2_147))) (aA rfl) (aJ hS rfl) rfl)),
      fun S hS => aG rfl (bA rfl rfl (aA rfl) (aQ hS rfl) c157 (bQ (aA rfl) (aJ hS rfl) (aJ hS rfl) dH.of (bZ aI h159))),
      fun S hS => aG rfl (bA rfl rfl (aA rfl) (aQ hS rfl) c157 (cH (aA rfl) (aJ hS rfl) iX (es := [.lit (.int .i64 x158.Round)]) rfl)),
      fun S hS => aG rfl (bA rfl rfl (aA rfl) (aQ hS rfl) c157 (bT (aA rfl) (aJ hS rfl) bK)),
      fun S hS => aG rfl (bA rfl rfl (aA rfl) (aQ hS rfl) c157 (aT (aA rfl) (aJ hS rfl) kW)),
      fun S hS => aG rfl (bA rfl rfl (aA rfl) (aQ hS rfl) c157 (aY (aA rfl) (aJ hS rfl) (i := 1) rfl rfl bK)),
      fun S hS => aG rfl (bA rfl rfl (aA rfl) (aQ hS rfl) c157 (bM (aA rfl) (aJ hS rfl) (aJ hS rfl) rfl)),
      fun S hS => aG rfl (bA rfl rfl (aA rfl) (aQ hS rfl) c152 (bL (v := .d (.lit (.bool ((!decide (x158.Round = x_2.Round)))))) (aA rfl) (aJ hS rfl) c157 (aJ hS rfl) rfl)),
      fun S hS => aG rfl (bA rfl rfl (aA rfl) (aQ hS rfl) c152 (aC (v := .d (.lit (.bool (!decide (x158.Round = x_2.Round))))) (aA rfl) (aJ hS rfl) rfl)),
      fun S hS => aG rfl (bA rfl rfl (aA rfl) (aQ hS rfl) c162 (aC (v := .d (.sl 5 (l_1.map aI))) (aA rfl) (aJ hS rfl) rfl)),
      fun S hS => aG rfl (bA rfl rfl (aA rfl) (aQ hS rfl) c162 (aC (v := .d (.lit (.int .i64 i_2_147))) (aA rfl) (aJ hS rfl) rfl)),
      fun S hS => aG rfl (bA rfl rfl (aA rfl) (aQ hS rfl) c162 (bQ (aA rfl) (aJ hS rfl) (aJ hS rfl) dH.of (bZ aI h164))),
      fun S hS => aG rfl (bA rfl rfl (aA rfl) (aQ hS rfl) c162 (cH (aA rfl) (aJ hS rfl) iH (es := [.lit (.int .i64 x163.Place)]) rfl)),
      fun S hS => aG rfl (bA rfl rfl (aA rfl) (aQ hS rfl) c162 (bT (aA rfl) (aJ hS rfl) bK)),
      fun S hS => aG rfl (bA rfl rfl (aA rfl) (aQ hS rfl) c162 (aT (aA rfl) (aJ hS rfl) kX)),
      fun S hS => aG rfl (bA rfl rfl (aA rfl) (aQ hS rfl) c162 (aY (aA rfl) (aJ hS rfl) (i := 1) rfl rfl bK)),
      fun S hS => aG rfl (bA rfl rfl (aA rfl) (aQ hS rfl) c162 (bM (aA rfl) (aJ hS rfl) (aJ hS rfl) rfl)),
      fun S hS => aG rfl (bA rfl rfl (aA rfl) (aQ hS rfl) c152 (bL (v := .d (.lit (.bool ((!decide (x163.Place = x_2.Place)))))) (aA rfl) (aJ hS rfl) c162 (aJ hS rfl) rfl)),
      fun S hS => aG rfl (aV rfl (bJ (v := .d (.lit (.bool (!decide (x163.Place = x_2.Place))))) (aA rfl) (aJ hS rfl) c152 (aJ hS rfl) rfl)), trivial⟩⟩
             · exact cZ (aU rfl (bD ⟨rfl, rfl, rfl, rfl, rfl, rfl, trivial⟩))
          ·have h151 := aZ c152 h151
           have h151 := Option.some.inj h151
           subst h151
           refine ⟨[(124, 0, .d (.lit (.bool free_2_147))), (125, 1, .d (.lit (.bool free_2_147))), (126, 2, .tup []), (127, 3, .tup []), (128, 4, .tup []), (129, 5, .tup []), (130, 6, .tup []), (131, 7, .tup []), (132, 8, .tup []), (133, 9, .tup []), (134, 10, .tup []), (135, 11, .tup []), (136, 12, .tup []), (137, 13, .tup []), (138, 14, .tup []), (139, 15, .tup []), (140, 16, .tup []), (141, 17, .tup []), (142, 18, .tup []), (143, 19, .tup []), (144, 20, .tup []), (145, 21, .tup []), (146, 22, .tup []), (147, 23, .tup []), (148, 24, .tup []), (149, 25, .tup []), (150, 26, .tup []), (151, 27, .tup []), (152, 28, .d (.lit (.bool false)))], ?_, ?_⟩
           · exact ⟨by kernel_rfl, by kernel_rfl, by kernel_rfl, by kernel_rfl, by kernel_rfl, [([], []), ([0], []), ([1], []), ([1], []), ([1, 2, 3], []), ([1, 4], []), ([1, 5], []), ([1, 6], []), ([1, 7], []), ([8], []), ([8], []), ([8, 9, 10], []), ([8, 11], []), ([8, 12], []), ([8], []), ([8, 14], []), ([8, 13, 15], []), ([1, 8, 16], []), ([1, 17], []), ([18], []), ([18], []), ([18, 19, 20], []), ([18, 21], []), ([18, 22], []), ([18], []), ([18, 24], []), ([18, 23, 25], []), ([1, 18, 26], []), ([1, 27], [])], by kernel_rfl, ⟨fun S hS => aG rfl (aV rfl (aC (v := .d (.lit (.bool free_2_147))) (aA rfl) (aJ hS rfl) rfl)),
      fun S hS => aG rfl (aV rfl (aC (v := .d (.lit (.bool free_2_147))) (aA rfl) (aJ hS rfl) rfl)),
      fun S hS => aG rfl (bG rfl rfl (aA rfl) rfl (aA rfl) (aQ hS rfl) c152),
      fun S hS => aG rfl (bG rfl rfl (aA rfl) rfl (aA rfl) (aQ hS rfl) c152),
      fun S hS => aG rfl (bG rfl rfl (aA rfl) rfl (aA rfl) (aQ hS rfl) c152),
      fun S hS => aG rfl (bG rfl rfl (aA rfl) rfl (aA rfl) (aQ hS rfl) c152),
      fun S hS => aG rfl (bG rfl rfl (aA rfl) rfl (aA rfl) (aQ hS rfl) c152),
      fun S hS => aG rfl (bG rfl rfl (aA rfl) rfl (aA rfl) (aQ hS rfl) c152),
      fun S hS => aG rfl (bG rfl rfl (aA rfl) rfl (aA rfl) (aQ hS rfl) c152),
      fun S hS => aG rfl (eA rfl rfl (aA rfl) rfl (aA rfl) (aQ hS rfl)),
      fun S hS => aG rfl (eA rfl rfl (aA rfl) rfl (aA rfl) (aQ hS rfl)),
      fun S hS => aG rfl (eA rfl rfl (aA rfl) rfl (aA rfl) (aQ hS rfl)),
      fun S hS => aG rfl (eA rfl rfl (aA rfl) rfl (aA rfl) (aQ hS rfl)),
      fun S hS => aG rfl (eA rfl rfl (aA rfl) rfl (aA rfl) (aQ hS rfl)),
      fun S hS => aG rfl (eA rfl rfl (aA rfl) rfl (aA rfl) (aQ hS rfl)),
      fun S hS => aG rfl (eA rfl rfl (aA rfl) rfl (aA rfl) (aQ hS rfl)),
      fun S hS => aG rfl (eA rfl rfl (aA rfl) rfl (aA rfl) (aQ hS rfl)),
      fun S hS => aG rfl (bG rfl rfl (aA rfl) rfl (aA rfl) (aQ hS rfl) c152),
      fun S hS => aG rfl (bG rfl rfl (aA rfl) rfl (aA rfl) (aQ hS rfl) c152),
      fun S hS => aG rfl (eA rfl rfl (aA rfl) rfl (aA rfl) (aQ hS rfl)),
      fun S hS => aG rfl (eA rfl rfl (aA rfl) rfl (aA rfl) (aQ hS rfl)),
      fun S hS => aG rfl (eA rfl rfl (aA rfl) rfl (aA rfl) (aQ hS rfl)),
      fun S hS => aG rfl (eA rfl rfl (aA rfl) rfl (aA rfl) (aQ hS rfl)),
      fun S hS => aG rfl (eA rfl rfl (aA rfl) rfl (aA rfl) (aQ hS rfl)),
      fun S hS => aG rfl (eA rfl rfl (aA rfl) rfl (aA rfl) (aQ hS rfl)),
      fun S hS => aG rfl (eA rfl rfl (aA rfl) rfl (aA rfl) (aQ hS rfl)),
      fun S hS => aG rfl (eA rfl rfl (aA rfl) rfl (aA rfl) (aQ hS rfl)),
      fun S hS => aG rfl (bG rfl rfl (aA rfl) rfl (aA rfl) (aQ hS rfl) c152),
      fun S hS => aG rfl (aV rfl (bL (v := .d (.lit (.bool false))) (aA rfl) (aJ hS rfl) c152 rfl rfl)), trivial⟩⟩
           · exact cZ (aU rfl (bD ⟨rfl, rfl, rfl, rfl, rfl, rfl, trivial⟩))
         ·refine tr1 rfl (aK (v := .d (.lit (.bool b150))) (aA rfl) rfl rfl) ?_
          refine fF ?_
          refine aD ?_
          refine tr1 rfl (aC (v := .d (.lit (.int .i64 i_2_147))) (aA rfl) rfl rfl) ?_
          refine tr1 rfl (bR (aA rfl) rfl rfl rfl) ?_
          refine tr1 rfl (aK (v := .d (.lit (.int .i64 ((w64 (i_2_147 + 1)))))) (aA rfl) rfl rfl) ?_
          refine aF ?_
          exact ⟨(b150, w64 (i_2_147 + 1)), h, bI [0, 1, 2, 3] rfl rfl (aU rfl (aU rfl (bD ⟨rfl, rfl, rfl, rfl, rfl, trivial⟩)))⟩
        ·have h := aZ c149 h
         refine dC ?_
         refine .inl ⟨rfl, ?_⟩
         simp only [gJ] at h
         refine aH ?_
         refine aD ?_
         refine tr1 rfl (aC (v := .d (.lit (.bool free_2_147))) (aA rfl) rfl rfl) ?_
         refine aF ?_
         refine bY rfl (fun c165 => ?_) (fun c165 => ?_)
         ·have h := aX c165 h
          refine aD ?_
          refine tr1 rfl (aC (v := .d (.lit w14)) (aA rfl) rfl rfl) ?_
          refine tr1 rfl (bN (aA rfl) rfl (i := 3) rfl iK (es := (aI (aE.mk 1 x_2.Round x_2.Place (max 0 r142.1) 0))) rfl rfl) ?_
          refine tr1 rfl (eV (aA rfl) dH rfl rfl (rows := ([(aE.mk 1 x_2.Round x_2.Place (max 0 r142.1) 0)]).map aI) rfl (cP (f := aI) fun _ => rfl) rfl (by decide)) ?_
          obtain ⟨x166, h167, h⟩ := bind_some h
          refine cB rfl (eO (i := 2) (aA rfl) dH rfl rfl rfl (fun _ => rfl) h167 rfl) ?_
          rintro _ ⟨v168, rfl⟩
          refine tr1 rfl (aK (v := .d (.lit v168)) (aA rfl) rfl rfl) ?_
          refine aF ?_
          refine aH ?_
          refine aD ?_
          refine tr1 rfl (bN (aA rfl) rfl (i := 0) rfl dE (es := (aS t_0)) rfl rfl) ?_
          refine tr1 rfl (aC (v := .d (.sl 5 (l_1.map aI))) (aA rfl) rfl rfl) ?_
          obtain ⟨r169, h170, h⟩ := bind_some h
          refine tr1 rfl (eN (aA rfl) (.func _ _ Try.call21) rfl rfl (eI _ _ h170)) ?_
          refine tr1 rfl (aC (v := .tup [.d (.sl 4 (r169.1.map bF)), .d (.sl 1 (r169.2.1.map aO)), .d (.lit (.bool r169.2.2))]) (aA rfl) rfl rfl) ?_
          refine tr1 rfl (bH (aA rfl) rfl rfl) ?_
          refine tr1 rfl (bH (aA rfl) rfl rfl) ?_
          refine tr1 rfl (bH (aA rfl) rfl rfl) ?_
          refine tr1 rfl (aK (v := .d (.sl 4 (r169.1.map bF))) (aA rfl) rfl rfl) ?_
          refine tr1 rfl (aK (v := .d (.sl 1 (r169.2.1.map aO))) (aA rfl) rfl rfl) ?_
          refine tr1 rfl (aK (v := .d (.lit (.bool r169.2.2))) (aA rfl) rfl rfl) ?_
          refine aF ?_
          refine aH ?_
          refine aD ?_
          refine tr1 rfl (bN (aA rfl) rfl (i := 0) rfl dE (es := (aS t_0)) rfl rfl) ?_
          refine tr1 rfl (aC (v := .d (.lit v168)) (aA rfl) rfl rfl) ?_
          refine gA (bI [0, 1, 3, 2] rfl rfl (le_refl _)) ?_
          refine gA (sS [.box b1 0 (aS t_0), .box b2 0 (dY x_2), .box b144 0 (aI (aE.mk 1 x_2.Round x_2.Place (max 0 r142.1) 0))] [.arr v168 32 5 (x166.map aI)] rfl (eF (k := 167) (v := .d (.sl 5 (x166.map aI))) (.d (fM 0 rfl (cP (f := aI) fun _ => rfl))) (eF (k := 157) (v := .d (.sl 5 (x166.map aI))) (.d (fM 0 rfl (cP (f := aI) fun _ => rfl))) (eF (k := 154) (v := .any) (.any _) (eF (k := 7) (v := .d (.sl 5 (x166.map aI))) (.d (fM 0 rfl (cP (f := aI) fun _ => rfl))) (qW _ _)))))) ?_
          obtain ⟨r171, h172, h⟩ := bind_some h
          refine tr1 rfl (eN (aA rfl) (.func _ _ Try.call21) rfl rfl (eI _ _ h172)) ?_
          refine tr1 rfl (aC (v := .tup [.d (.sl 4 (r171.1.map bF)), .d (.sl 1 (r171.2.1.map aO)), .d (.lit (.bool r171.2.2))]) (aA rfl) rfl rfl) ?_
          refine tr1 rfl (bH (aA rfl) rfl rfl) ?_
          refine tr1 rfl (bH (aA rfl) rfl rfl) ?_
          refine tr1 rfl (bH (aA rfl) rfl rfl) ?_
          refine tr1 rfl (aK (v := .d (.sl 4 (r171.1.map bF))) (aA rfl) rfl rfl) ?_
          refine tr1 rfl (aK (v := .d (.sl 1 (r171.2.1.map aO))) (aA rfl) rfl rfl) ?_
          refine tr1 rfl (aK (v := .d (.lit (.bool r171.2.2))) (aA rfl) rfl rfl) ?_
          refine aF ?_
          refine aH ?_
          refine aD ?_
          refine tr1 rfl (aC (v := .d (.lit (.bool r169.2.2))) (aA rfl) rfl rfl) ?_
          refine tr1 rfl (aC (v := .d (.lit (.bool r169.2.2))) (aA rfl) rfl rfl) ?_
          obtain ⟨b173, h174, h⟩ := bind_some h
          refine bU 2 [14, 15, 17, 18] 175 b173 ?_ ?_
          ·refine bE (r169.2.2) (fun c190 => ?_) (fun c190 => ?_)
           ·have h174 := aX c190 h174
            refine aL rfl rfl (aA rfl) rfl c190 (aC (v := .d (.lit (.bool r171.2.2))) (aA rfl) rfl rfl) ?_
            refine tr1 rfl (bJ (v := .d (.lit (.bool r171.2.2))) (aA rfl) rfl c190 rfl rfl) ?_
            have h174 := Option.some.inj h174
            subst h174
            refine aF (aW rfl ⟨rfl, rfl, rfl, rfl, trivial⟩ rfl)
           ·have h174 := aZ c190 h174
            refine aN rfl rfl (aA rfl) rfl (aA rfl) rfl c190 ?_
            refine tr1 rfl (bL (v := .d (.lit (.bool false))) (aA rfl) rfl c190 rfl rfl) ?_
            have h174 := Option.some.inj h174
            subst h174
            refine aF (aW rfl ⟨rfl, rfl, rfl, rfl, trivial⟩ rfl)
          ·refine tr1 rfl (aC (v := .d (.lit (.bool b173))) (aA rfl) rfl rfl) ?_
           obtain ⟨b175, h176, h⟩ := bind_some h
           refine bU 4 [15, 18] 180 b175 ?_ ?_
           ·refine bE (b173) (fun c187 => ?_) (fun c187 => ?_)
            ·have h176 := aX c187 h176
             refine aL rfl rfl (aA rfl) rfl c187 (aC (v := .d (.sl 4 (r169.1.map bF))) (aA rfl) rfl rfl) ?_
             refine aL rfl rfl (aA rfl) rfl c187 (aC (v := .d (.sl 4 (r171.1.map bF))) (aA rfl) rfl rfl) ?_
             obtain ⟨r188, h189, h176⟩ := bind_some h176
             refine aL rfl rfl (aA rfl) rfl c187 (cJ (aA rfl) (.func _ _ Try.call22) rfl rfl (BVs.refl _ _) (gM _ _ h189) rfl) ?_
             refine tr1 rfl (bJ (v := .d (.lit (.bool r188))) (aA rfl) rfl c187 rfl rfl) ?_
             have h176 := Option.some.inj h176
             subst h176
             refine aF (aW rfl ⟨rfl, rfl, trivial⟩ rfl)
            ·have h176 := aZ c187 h176
             refine aN rfl rfl (aA rfl) rfl (aA rfl) rfl c187 ?_
             refine aN rfl rfl (aA rfl) rfl (aA rfl) rfl c187 ?_
             refine aN rfl rfl (aA rfl) rfl (aA rfl) rfl c187 ?_
             refine tr1 rfl (bL (v := .d (.lit (.bool false))) (aA rfl) rfl c187 rfl rfl) ?_
             have h176 := Option.some.inj h176
             subst h176
             refine aF (aW rfl ⟨rfl, rfl, trivial⟩ rfl)
           ·refine tr1 rfl (aC (v := .d (.lit (.bool b175))) (aA rfl) rfl rfl) ?_
            obtain ⟨b177, h178, h⟩ := bind_some h
            refine bU 4 [] 185 b177 ?_ ?_
            ·refine bE (b175) (fun c184 => ?_) (fun c184 => ?_)
             ·have h178 := aX c184 h178
              refine aL rfl rfl (aA rfl) rfl c184 (aC (v := .d (.sl 1 (r169.2.1.map aO))) (aA rfl) rfl rfl) ?_
              refine aL rfl rfl (aA rfl) rfl c184 (aC (v := .d (.sl 1 (r171.2.1.map aO))) (aA rfl) rfl rfl) ?_
              obtain ⟨r185, h186, h178⟩ := bind_some h178
              refine aL rfl rfl (aA rfl) rfl c184 (cJ (aA rfl) (.func _ _ Try.call23) rfl rfl (BVs.refl _ _) (fW _ _ h186) rfl) ?_
              refine tr1 rfl (bJ (v := .d (.lit (.bool r185))) (aA rfl) rfl c184 rfl rfl) ?_
              have h178 := Option.some.inj h178
              subst h178
              refine aF (aW rfl trivial rfl)
             ·have h178 := aZ c184 h178
              refine aN rfl rfl (aA rfl) rfl (aA rfl) rfl c184 ?_
              refine aN rfl rfl (aA rfl) rfl (aA rfl) rfl c184 ?_
              refine aN rfl rfl (aA rfl) rfl (aA rfl) rfl c184 ?_
              refine tr1 rfl (bL (v := .d (.lit (.bool false))) (aA rfl) rfl c184 rfl rfl) ?_
              have h178 := Option.some.inj h178
              subst h178
              refine aF (aW rfl trivial rfl)
            ·refine tr1 rfl (aC (v := .d (.lit (.bool b177))) (aA rfl) rfl rfl) ?_
             obtain ⟨b179, h180, h⟩ := bind_some h
             refine bU 2 [] 188 b179 ?_ ?_
             ·refine bE (b177) (fun c181 => ?_) (fun c181 => ?_)
              ·have h180 := aX c181 h180
               obtain ⟨r182, h183, h180⟩ := bind_some h180
               refine aL rfl rfl (aA rfl) rfl c181 (cJ (aA rfl) (.func _ _ Try.call14) rfl rfl (BVs.refl _ _) (iF h183) rfl) ?_
               refine tr1 rfl (bJ (v := .d (.lit (.bool r182))) (aA rfl) rfl c181 rfl rfl) ?_
               have h180 := Option.some.inj h180
               subst h180
               refine aF (aW rfl trivial rfl)
              ·have h180 := aZ c181 h180
               refine aN rfl rfl (aA rfl) rfl (aA rfl) rfl c181 ?_
               refine tr1 rfl (bL (v := .d (.lit (.bool false))) (aA rfl) rfl c181 rfl rfl) ?_
               have h180 := Option.some.inj h180
               subst h180
               refine aF (aW rfl trivial rfl)
             ·refine tr1 rfl (aK (v := .d (.lit (.bool b179))) (aA rfl) rfl rfl) ?_
              refine aF ?_
              have h := Option.some.inj h
              subst h
              refine cT (cR (cW (l := [6]) ⟨rfl, trivial⟩)) ?_
              exact bV ⟨rfl, _, .one _, rfl, rfl⟩
         ·have h := aZ c165 h
          refine bX ?_
          refine aH ?_
          refine aD ?_
          refine tr1 rfl (bN (aA rfl) rfl (i := 0) rfl dE (es := (aS t_0)) rfl rfl) ?_
          refine tr1 rfl (aC (v := .d (.sl 5 (l_1.map aI))) (aA rfl) rfl rfl) ?_
          obtain ⟨r191, h192, h⟩ := bind_some h
          refine tr1 rfl (eN (aA rfl) (.func _ _ Try.call21) rfl rfl (eI _ _ h192)) ?_
          refine tr1 rfl (aC (v := .tup [.d (.sl 4 (r191.1.map bF)), .d (.sl 1 (r191.2.1.map aO)), .d (.lit (.bool r191.2.2))]) (aA rfl) rfl rfl) ?_
          refine tr1 rfl (bH (aA rfl) rfl rfl) ?_
          refine tr1 rfl (bH (aA rfl) rfl rfl) ?_
          refine tr1 rfl (bH (aA rfl) rfl rfl) ?_
          refine tr1 rfl (aK (v := .d (.sl 4 (r191.1.map bF))) (aA rfl) rfl rfl) ?_
          refine tr1 rfl (aK (v := .d (.sl 1 (r191.2.1.map aO))) (aA rfl) rfl rfl) ?_
          refine tr1 rfl (aK (v := .d (.lit (.bool r191.2.2))) (aA rfl) rfl rfl) ?_
          refine aF ?_
          refine aH ?_
          refine aD ?_
          refine tr1 rfl (bN (aA rfl) rfl (i := 0) rfl dE (es := (aS t_0)) rfl rfl) ?_
          refine tr1 rfl (aC (v := .d (.lit w14)) (aA rfl) rfl rfl) ?_
          refine gA (bI [0, 1, 3, 2] rfl rfl (le_refl _)) ?_
          refine gA (sS [.box b1 0 (aS t_0), .box b2 0 (dY x_2), .box b144 0 (aI (aE.mk 1 x_2.Round x_2.Place (max 0 r142.1) 0))] [.arr w14 32 5 (moved_0_13.map aI)] rfl (eF (k := 167) (v := .d (.sl 5 (moved_0_13.map aI))) (.d (fM 0 rfl (cP (f := aI) fun _ => rfl))) (eF (k := 7) (v := .d (.sl 5 (moved_0_13.map aI))) (.d (fM 0 rfl (cP (f := aI) fun _ => rfl))) (qW _ _)))) ?_
          obtain ⟨r193, h194, h⟩ := bind_some h
          refine tr1 rfl (eN (aA rfl) (.func _ _ Try.call21) rfl rfl (eI _ _ h194)) ?_
          refine tr1 rfl (aC (v := .tup [.d (.sl 4 (r193.1.map bF)), .d (.sl 1 (r193.2.1.map aO)), .d (.lit (.bool r193.2.2))]) (aA rfl) rfl rfl) ?_
          refine tr1 rfl (bH (aA rfl) rfl rfl) ?_
          refine tr1 rfl (bH (aA rfl) rfl rfl) ?_
          refine tr1 rfl (bH (aA rfl) rfl rfl) ?_
          refine tr1 rfl (aK (v := .d (.sl 4 (r193.1.map bF))) (aA rfl) rfl rfl) ?_
          refine tr1 rfl (aK (v := .d (.sl 1 (r193.2.1.map aO))) (aA rfl) rfl rfl) ?_
          refine tr1 rfl (aK (v := .d (.lit (.bool r193.2.2))) (aA rfl) rfl rfl) ?_
          refine aF ?_
          refine aH ?_
          refine aD ?_
          refine tr1 rfl (aC (v := .d (.lit (.bool r191.2.2))) (aA rfl) rfl rfl) ?_
          refine tr1 rfl (aC (v := .d (.lit (.bool r191.2.2))) (aA rfl) rfl rfl) ?_
          obtain ⟨b195, h196, h⟩ := bind_some h
          refine bU 2 [14, 15, 17, 18] 175 b195 ?_ ?_
          ·refine bE (r191.2.2) (fun c212 => ?_) (fun c212 => ?_)
           ·have h196 := aX c212 h196
            refine aL rfl rfl (aA rfl) rfl c212 (aC (v := .d (.lit (.bool r193.2.2))) (aA rfl) rfl rfl) ?_
            refine tr1 rfl (bJ (v := .d (.lit (.bool r193.2.2))) (aA rfl) rfl c212 rfl rfl) ?_
            have h196 := Option.some.inj h196
            subst h196
            refine aF (aW rfl ⟨rfl, rfl, rfl, rfl, trivial⟩ rfl)
           ·have h196 := aZ c212 h196
            refine aN rfl rfl (aA rfl) rfl (aA rfl) rfl c212 ?_
            refine tr1 rfl (bL (v := .d (.lit (.bool false))) (aA rfl) rfl c212 rfl rfl) ?_
            have h196 := Option.some.inj h196
            subst h196
            refine aF (aW rfl ⟨rfl, rfl, rfl, rfl, trivial⟩ rfl)
          ·refine tr1 rfl (aC (v := .d (.lit (.bool b195))) (aA rfl) rfl rfl) ?_
           obtain ⟨b197, h198, h⟩ := bind_some h
           refine bU 4 [15, 18] 180 b197 ?_ ?_
           ·refine bE (b195) (fun c209 => ?_) (fun c209 => ?_)
            ·have h198 := aX c209 h198
             refine aL rfl rfl (aA rfl) rfl c209 (aC (v := .d (.sl 4 (r191.1.map bF))) (aA rfl) rfl rfl) ?_
             refine aL rfl rfl (aA rfl) rfl c209 (aC (v := .d (.sl 4 (r193.1.map bF))) (aA rfl) rfl rfl) ?_
             obtain ⟨r210, h211, h198⟩ := bind_some h198
             refine aL rfl rfl (aA rfl) rfl c209 (cJ (aA rfl) (.func _ _ Try.call22) rfl rfl (BVs.refl _ _) (gM _ _ h211) rfl) ?_
             refine tr1 rfl (bJ (v := .d (.lit (.bool r210))) (aA rfl) rfl c209 rfl rfl) ?_
             have h198 := Option.some.inj h198
             subst h198
             refine aF (aW rfl ⟨rfl, rfl, trivial⟩ rfl)
            ·have h198 := aZ c209 h198
             refine aN rfl rfl (aA rfl) rfl (aA rfl) rfl c209 ?_
             refine aN rfl rfl (aA rfl) rfl (aA rfl) rfl c209 ?_
             refine aN rfl rfl (aA rfl) rfl (aA rfl) rfl c209 ?_
             refine tr1 rfl (bL (v := .d (.lit (.bool false))) (aA rfl) rfl c209 rfl rfl) ?_
             have h198 := Option.some.inj h198
             subst h198
             refine aF (aW rfl ⟨rfl, rfl, trivial⟩ rfl)
           ·refine tr1 rfl (aC (v := .d (.lit (.bool b197))) (aA rfl) rfl rfl) ?_
            obtain ⟨b199, h200, h⟩ := bind_some h
            refine bU 4 [] 185 b199 ?_ ?_
            ·refine bE (b197) (fun c206 => ?_) (fun c206 => ?_)
             ·have h200 := aX c206 h200
              refine aL rfl rfl (aA rfl) rfl c206 (aC (v := .d (.sl 1 (r191.2.1.map aO))) (aA rfl) rfl rfl) ?_
              refine aL rfl rfl (aA rfl) rfl c206 (aC (v := .d (.sl 1 (r193.2.1.map aO))) (aA rfl) rfl rfl) ?_
              obtain ⟨r207, h208, h200⟩ := bind_some h200
              refine aL rfl rfl (aA rfl) rfl c206 (cJ (aA rfl) (.func _ _ Try.call23) rfl rfl (BVs.refl _ _) (fW _ _ h208) rfl) ?_
              refine tr1 rfl (bJ (v := .d (.lit (.bool r207))) (aA rfl) rfl c206 rfl rfl) ?_
              have h200 := Option.some.inj h200
              subst h200
              refine aF (aW rfl trivial rfl)
             ·have h200 := aZ c206 h200
              refine aN rfl rfl (aA rfl) rfl (aA rfl) rfl c206 ?_
              refine aN rfl rfl (aA rfl) rfl (aA rfl) rfl c206 ?_
              refine aN rfl rfl (aA rfl) rfl (aA rfl) rfl c206 ?_
              refine tr1 rfl (bL (v := .d (.lit (.bool false))) (aA rfl) rfl c206 rfl rfl) ?_
              have h200 := Option.some.inj h200
              subst h200
              refine aF (aW rfl trivial rfl)
            ·refine tr1 rfl (aC (v := .d (.lit (.bool b199))) (aA rfl) rfl rfl) ?_
             obtain ⟨b201, h202, h⟩ := bind_some h
             refine bU 2 [] 188 b201 ?_ ?_
             ·refine bE (b199) (fun c203 => ?_) (fun c203 => ?_)
              ·have h202 := aX c203 h202
               obtain ⟨r204, h205, h202⟩ := bind_some h202
               refine aL rfl rfl (aA rfl) rfl c203 (cJ (aA rfl) (.func _ _ Try.call14) rfl rfl (BVs.refl _ _) (iF h205) rfl) ?_
               refine tr1 rfl (bJ (v := .d (.lit (.bool r204))) (aA rfl) rfl c203 rfl rfl) ?_
               have h202 := Option.some.inj h202
               subst h202
               refine aF (aW rfl trivial rfl)
              ·have h202 := aZ c203 h202
               refine aN rfl rfl (aA rfl) rfl (aA rfl) rfl c203 ?_
               refine tr1 rfl (bL (v := .d (.lit (.bool false))) (aA rfl) rfl c203 rfl rfl) ?_
               have h202 := Option.some.inj h202
               subst h202
               refine aF (aW rfl trivial rfl)
             ·refine tr1 rfl (aK (v := .d (.lit (.bool b201))) (aA rfl) rfl rfl) ?_
              refine aF ?_
              have h := Option.some.inj h
              subst h
              refine cT (cR (cW (l := [6]) ⟨rfl, trivial⟩)) ?_
              exact bV ⟨rfl, _, .one _, rfl, rfl⟩
      ·have h := aZ c141 h
       refine bX ?_
       refine aH ?_
       refine aD ?_
       refine tr1 rfl (bN (aA rfl) rfl (i := 0) rfl dE (es := (aS t_0)) rfl rfl) ?_
       refine tr1 rfl (aC (v := .d (.sl 5 (l_1.map aI))) (aA rfl) rfl rfl) ?_
       obtain ⟨r224, h225, h⟩ := bind_some h
       refine tr1 rfl (eN (aA rfl) (.func _ _ Try.call21) rfl rfl (eI _ _ h225)) ?_
       refine tr1 rfl (aC (v := .tup [.d (.sl 4 (r224.1.map bF)), .d (.sl 1 (r224.2.1.map aO)), .d (.lit (.bool r224.2.2))]) (aA rfl) rfl rfl) ?_
       refine tr1 rfl (bH (aA rfl) rfl rfl) ?_
       refine tr1 rfl (bH (aA rfl) rfl rfl) ?_
       refine tr1 rfl (bH (aA rfl) rfl rfl) ?_
       refine tr1 rfl (aK (v := .d (.sl 4 (r224.1.map bF))) (aA rfl) rfl rfl) ?_
       refine tr1 rfl (aK (v := .d (.sl 1 (r224.2.1.map aO))) (aA rfl) rfl rfl) ?_
       refine tr1 rfl (aK (v := .d (.lit (.bool r224.2.2))) (aA rfl) rfl rfl) ?_
       refine aF ?_
       refine aH ?_
       refine aD ?_
       refine tr1 rfl (bN (aA rfl) rfl (i := 0) rfl dE (es := (aS t_0)) rfl rfl) ?_
       refine tr1 rfl (aC (v := .d (.lit w14)) (aA rfl) rfl rfl) ?_
       refine gA (sS [.box b1 0 (aS t_0), .box b2 0 (dY x_2)] [.arr w14 32 5 (moved_0_13.map aI)] rfl (eF (k := 167) (v := .d (.sl 5 (moved_0_13.map aI))) (.d (fM 0 rfl (cP (f := aI) fun _ => rfl))) (eF (k := 7) (v := .d (.sl 5 (moved_0_13.map aI))) (.d (fM 0 rfl (cP (f := aI) fun _ => rfl))) (qW _ _)))) ?_
       obtain ⟨r226, h227, h⟩ := bind_some h
       refine tr1 rfl (eN (aA rfl) (.func _ _ Try.call21) rfl rfl (eI _ _ h227)) ?_
       refine tr1 rfl (aC (v := .tup [.d (.sl 4 (r226.1.map bF)), .d (.sl 1 (r226.2.1.map aO)), .d (.lit (.bool r226.2.2))]) (aA rfl) rfl rfl) ?_
       refine tr1 rfl (bH (aA rfl) rfl rfl) ?_
       refine tr1 rfl (bH (aA rfl) rfl rfl) ?_
       refine tr1 rfl (bH (aA rfl) rfl rfl) ?_
       refine tr1 rfl (aK (v := .d (.sl 4 (r226.1.map bF))) (aA rfl) rfl rfl) ?_
       refine tr1 rfl (aK (v := .d (.sl 1 (r226.2.1.map aO))) (aA rfl) rfl rfl) ?_
       refine tr1 rfl (aK (v := .d (.lit (.bool r226.2.2))) (aA rfl) rfl rfl) ?_
       refine aF ?_
       refine aH ?_
       refine aD ?_
       refine tr1 rfl (aC (v := .d (.lit (.bool r224.2.2))) (aA rfl) rfl rfl) ?_
       refine tr1 rfl (aC (v := .d (.lit (.bool r224.2.2))) (aA rfl) rfl rfl) ?_
       obtain ⟨b228, h229, h⟩ := bind_some h
       refine bU 2 [14, 15, 17, 18] 175 b228 ?_ ?_
       ·refine bE (r224.2.2) (fun c245 => ?_) (fun c245 => ?_)
        ·have h229 := aX c245 h229
         refine aL rfl rfl (aA rfl) rfl c245 (aC (v := .d (.lit (.bool r226.2.2))) (aA rfl) rfl rfl) ?_
         refine tr1 rfl (bJ (v := .d (.lit (.bool r226.2.2))) (aA rfl) rfl c245 rfl rfl) ?_
         have h229 := Option.some.inj h229
         subst h229
         refine aF (aW rfl ⟨rfl, rfl, rfl, rfl, trivial⟩ rfl)
        ·have h229 := aZ c245 h229
         refine aN rfl rfl (aA rfl) rfl (aA rfl) rfl c245 ?_
         refine tr1 rfl (bL (v := .d (.lit (.bool false))) (aA rfl) rfl c245 rfl rfl) ?_
         have h229 := Option.some.inj h229
         subst h229
         refine aF (aW rfl ⟨rfl, rfl, rfl, rfl, trivial⟩ rfl)
       ·refine tr1 rfl (aC (v := .d (.lit (.bool b228))) (aA rfl) rfl rfl) ?_
        obtain ⟨b230, h231, h⟩ := bind_some h
        refine bU 4 [15, 18] 180 b230 ?_ ?_
        ·refine bE (b228) (fun c242 => ?_) (fun c242 => ?_)
         ·have h231 := aX c242 h231
          refine aL rfl rfl (aA rfl) rfl c242 (aC (v := .d (.sl 4 (r224.1.map bF))) (aA rfl) rfl rfl) ?_
          refine aL rfl rfl (aA rfl) rfl c242 (aC (v := .d (.sl 4 (r226.1.map bF))) (aA rfl) rfl rfl) ?_
          obtain ⟨r243, h244, h231⟩ := bind_some h231
          refine aL rfl rfl (aA rfl) rfl c242 (cJ (aA rfl) (.func _ _ Try.call22) rfl rfl (BVs.refl _ _) (gM _ _ h244) rfl) ?_
          refine tr1 rfl (bJ (v := .d (.lit (.bool r243))) (aA rfl) rfl c242 rfl rfl) ?_
          have h231 := Option.some.inj h231
          subst h231
          refine aF (aW rfl ⟨rfl, rfl, trivial⟩ rfl)
         ·have h231 := aZ c242 h231
          refine aN rfl rfl (aA rfl) rfl (aA rfl) rfl c242 ?_
          refine aN rfl rfl (aA rfl) rfl (aA rfl) rfl c242 ?_
          refine aN rfl rfl (aA rfl) rfl (aA rfl) rfl c242 ?_
          refine tr1 rfl (bL (v := .d (.lit (.bool false))) (aA rfl) rfl c242 rfl rfl) ?_
          have h231 := Option.some.inj h231
          subst h231
          refine aF (aW rfl ⟨rfl, rfl, trivial⟩ rfl)
        ·refine tr1 rfl (aC (v := .d (.lit (.bool b230))) (aA rfl) rfl rfl) ?_
         obtain ⟨b232, h233, h⟩ := bind_some h
         refine bU 4 [] 185 b232 ?_ ?_
         ·refine bE (b230) (fun c239 => ?_) (fun c239 => ?_)
          ·have h233 := aX c239 h233
           refine aL rfl rfl (aA rfl) rfl c239 (aC (v := .d (.sl 1 (r224.2.1.map aO))) (aA rfl) rfl rfl) ?_
           refine aL rfl rfl (aA rfl) rfl c239 (aC (v := .d (.sl 1 (r226.2.1.map aO))) (aA rfl) rfl rfl) ?_
           obtain ⟨r240, h241, h233⟩ := bind_some h233
           refine aL rfl rfl (aA rfl) rfl c239 (cJ (aA rfl) (.func _ _ Try.call23) rfl rfl (BVs.refl _ _) (fW _ _ h241) rfl) ?_
           refine tr1 rfl (bJ (v := .d (.lit (.bool r240))) (aA rfl) rfl c239 rfl rfl) ?_
           have h233 := Option.some.inj h233
           subst h233
           refine aF (aW rfl trivial rfl)
          ·have h233 := aZ c239 h233
           refine aN rfl rfl (aA rfl) rfl (aA rfl) rfl c239 ?_
           refine aN rfl rfl (aA rfl) rfl (aA rfl) rfl c239 ?_
           refine aN rfl rfl (aA rfl) rfl (aA rfl) rfl c239 ?_
           refine tr1 rfl (bL (v := .d (.lit (.bool false))) (aA rfl) rfl c239 rfl rfl) ?_
           have h233 := Option.some.inj h233
           subst h233
           refine aF (aW rfl trivial rfl)
         ·refine tr1 rfl (aC (v := .d (.lit (.bool b232))) (aA rfl) rfl rfl) ?_
          obtain ⟨b234, h235, h⟩ := bind_some h
          refine bU 2 [] 188 b234 ?_ ?_
          ·refine bE (b232) (fun c236 => ?_) (fun c236 => ?_)
           ·have h235 := aX c236 h235
            obtain ⟨r237, h238, h235⟩ := bind_some h235
            refine aL rfl rfl (aA rfl) rfl c236 (cJ (aA rfl) (.func _ _ Try.call14) rfl rfl (BVs.refl _ _) (iF h238) rfl) ?_
            refine tr1 rfl (bJ (v := .d (.lit (.bool r237))) (aA rfl) rfl c236 rfl rfl) ?_
            have h235 := Option.some.inj h235
            subst h235
            refine aF (aW rfl trivial rfl)
           ·have h235 := aZ c236 h235
            refine aN rfl rfl (aA rfl) rfl (aA rfl) rfl c236 ?_
            refine tr1 rfl (bL (v := .d (.lit (.bool false))) (aA rfl) rfl c236 rfl rfl) ?_
            have h235 := Option.some.inj h235
            subst h235
            refine aF (aW rfl trivial rfl)
          ·refine tr1 rfl (aK (v := .d (.lit (.bool b234))) (aA rfl) rfl rfl) ?_
           refine aF ?_
           have h := Option.some.inj h
           subst h
           refine cT (cR (cW (l := [6]) ⟨rfl, trivial⟩)) ?_
           exact bV ⟨rfl, _, .one _, rfl, rfl⟩

end Go.Am
