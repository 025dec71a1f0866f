/- The functions compute what the shallow ones say: printed by program. -/
import Derived.Test.YtenffgkkeafnpaaBracketLuckySimP1
namespace Go.Am
open Go.Proofs
set_option maxRecDepth 100000
set_option maxHeartbeats 4000000

theorem qD (t_0 : aO) (l_1 : List aE) {r : (List Int) × Bool} (h : gW t_0 l_1 = some r) : Fn Try.prog 18 [.agg (aT t_0), .d (.sl 5 (l_1.map aL))] (.tup [.d (.sl 1 (r.1.map aP)), .d (.lit (.bool r.2))]) := by
 unfold gW at h
 refine Fn.of_tr Try.func18 rfl (rs := [.tmp 4, .tmp 5]) Try.results18 Try.ntmps18 (Nat.le_of_ble_eq_true rfl) ?_
 refine aI ?_
 refine aD ?_
 refine cB rfl (gD (v := .agg (aT t_0)) (aA rfl) rfl rfl rfl) ?_
 rintro _ ⟨b1, rfl⟩
 refine tr1 rfl (qO 1 (aA rfl)) ?_
 refine tr1 rfl (aK (v := .d (.lit (.bool false))) (aA rfl) rfl rfl) ?_
 refine aH ?_
 refine aI ?_
 refine aD ?_
 refine tr1 rfl (aC (v := .d (.sl 5 (l_1.map aL))) (aA rfl) rfl rfl) ?_
 obtain ⟨r2, h3, h⟩ := bind_some h
 refine tr1 rfl (fW (aA rfl) (.func _ _ Try.call51) rfl rfl (sM _ h3)) ?_
 refine tr1 rfl (aK (v := .d (.sl 5 (r2.map aL))) (aA rfl) rfl rfl) ?_
 refine aH ?_
 refine aI ?_
 refine aD ?_
 refine cB rfl (xV (aA rfl) bZ rfl rfl (rows := (([] : List Int)).map aP) rfl (dF (f := aP) fun _ => rfl) rfl (by decide)) ?_
 rintro _ ⟨v4, rfl⟩
 refine tr1 rfl (aU (aA rfl) rfl dG) ?_
 refine tr1 rfl (aW (aA rfl) rfl (i := 0) rfl rfl cZ) ?_
 obtain ⟨x5, h6, h⟩ := bind_some h
 refine cB rfl (fD (i := 1) (aA rfl) bZ rfl rfl rfl (fun _ => rfl) h6 rfl) ?_
 rintro _ ⟨v7, rfl⟩
 refine tr1 rfl (aK (v := .d (.lit v7)) (aA rfl) rfl rfl) ?_
 refine aH ?_
 refine aI ?_
 refine aD ?_
 refine tr1 rfl (jB 3 1 (.inl rfl) (aA rfl)) ?_
 refine aH ?_
 refine aI ?_
 refine aD ?_
 refine tr1 rfl (aK (v := .d (.lit (.int .i64 0))) (aA rfl) rfl rfl) ?_
 refine aH ?_
 refine aI ?_
 refine aI ?_
 refine aD ?_
 refine tr1 rfl (aK (v := .d (.lit (.int .i64 0))) (aA rfl) rfl rfl) ?_
 refine aH ?_
 refine cG ?_
 refine dR [2, 6] (fun (s9 : Int × Int × (List Int) × (List Int) × Value × Value) => [(7, .d (.lit s9.2.2.2.2.2)), (8, .d (.lit s9.2.2.2.2.1)), (9, .d (.lit (.int .i64 s9.1))), (10, .d (.lit (.int .i64 s9.2.1)))]) (fun (s9 : Int × Int × (List Int) × (List Int) × Value × Value) => [.box b1 0 (aT t_0), .arr s9.2.2.2.2.1 3 1 (s9.2.2.1.map aP), .arr s9.2.2.2.2.2 3 1 (s9.2.2.2.1.map aP)]) (fun (k : Nat) (s9 : Int × Int × (List Int) × (List Int) × Value × Value) => dO r2 t_0 k s9.1 s9.2.1 s9.2.2.1 s9.2.2.2.1) (fun _ => rfl) (0, 0, ([] : List Int), x5, (.slice none 0 0), v7) h (bF [0, 2, 1] rfl rfl (aV rfl (aV rfl (aV rfl (aV rfl (bC ⟨rfl, rfl, trivial⟩)))))) ?_
 rintro k12 ⟨used_0_9, i_0_9, out_0_9, o18_0_9, w10, w11⟩ h
 simp only [dO] at h
 refine aI ?_
 refine aI ?_
 refine aD ?_
 refine tr1 rfl (aC (v := .d (.lit (.int .i64 i_0_9))) (aA rfl) rfl rfl) ?_
 refine tr1 rfl (aU (aA rfl) rfl dG) ?_
 refine tr1 rfl (aW (aA rfl) rfl (i := 0) rfl rfl cZ) ?_
 refine tr1 rfl (dV (aA rfl) rfl bZ.of) ?_
 refine tr1 rfl (bI (aA rfl) rfl rfl rfl) ?_
 refine aH ?_
 refine bX rfl (fun c13 => ?_) (fun c13 => ?_)
 ·have h := aZ c13 h
  refine bV ?_
  refine aI ?_
  refine cG ?_
  refine aI ?_
  refine aD ?_
  refine tr1 rfl (aU (aA rfl) rfl dG) ?_
  refine tr1 rfl (aW (aA rfl) rfl (i := 0) rfl rfl cZ) ?_
  refine tr1 rfl (aC (v := .d (.lit (.int .i64 i_0_9))) (aA rfl) rfl rfl) ?_
  obtain ⟨x14, h15, h⟩ := bind_some h
  refine tr1 rfl (bL (aA rfl) rfl rfl bZ.of (bW aP h15)) ?_
  refine tr1 rfl (bM (aA rfl) rfl bG) ?_
  refine tr1 rfl (aK (v := .d (.lit (.int .i64 x14))) (aA rfl) rfl rfl) ?_
  refine aH ?_
  refine aI ?_
  refine aI ?_
  refine aD ?_
  refine tr1 rfl (aK (v := .d (.lit (.bool true))) (aA rfl) rfl rfl) ?_
  refine aH ?_
  refine cG ?_
  refine dR [2, 6, 8, 10] (fun (s16 : Int × Int × Bool × (List Int) × Value) => [(7, .d (.lit s16.2.2.2.2)), (9, .d (.lit (.int .i64 s16.1))), (11, .d (.lit (.int .i64 s16.2.1))), (12, .d (.lit (.bool s16.2.2.1)))]) (fun (s16 : Int × Int × Bool × (List Int) × Value) => [.box b1 0 (aT t_0), .arr w10 3 1 (out_0_9.map aP), .arr s16.2.2.2.2 3 1 (s16.2.2.2.1.map aP)]) (fun (k : Nat) (s16 : Int × Int × Bool × (List Int) × Value) => eS (dO r2 t_0 k12) r2 i_0_9 t_0 out_0_9 k s16.1 s16.2.1 s16.2.2.1 s16.2.2.2.1) (fun _ => rfl) (used_0_9, x14, true, o18_0_9, w11) h (bF [0, 1, 2] rfl rfl (aV rfl (aV rfl (aV rfl (aV rfl (bC ⟨rfl, rfl, rfl, rfl, trivial⟩)))))) ?_
  rintro k18 ⟨used_2_16, now_2_16, again_2_16, o18_2_16, w17⟩ h
  simp only [eS] at h
  refine aI ?_
  refine aI ?_
  refine aD ?_
  refine tr1 rfl (aC (v := .d (.lit (.bool again_2_16))) (aA rfl) rfl rfl) ?_
  refine aH ?_
  refine bX rfl (fun c19 => ?_) (fun c19 => ?_)
  ·have h := aZ c19 h
   refine bV ?_
   refine cG ?_
   refine aI ?_
   refine aD ?_
   refine tr1 rfl (aK (v := .d (.lit (.bool false))) (aA rfl) rfl rfl) ?_
   refine aH ?_
   refine aI ?_
   refine aD ?_
   refine tr1 rfl (jB 3 1 (.inl rfl) (aA rfl)) ?_
   refine aH ?_
   refine aI ?_
   refine aI ?_
   refine aD ?_
   refine tr1 rfl (aK (v := .d (.lit (.int .i64 0))) (aA rfl) rfl rfl) ?_
   refine aH ?_
   refine cG ?_
   refine dR [2, 6, 7, 8, 9, 10, 11, 12] (fun (s21 : Int × (List Int) × Value) => [(13, .d (.lit s21.2.2)), (14, .d (.lit (.int .i64 s21.1)))]) (fun (s21 : Int × (List Int) × Value) => [.box b1 0 (aT t_0), .arr w10 3 1 (out_0_9.map aP), .arr s21.2.2 3 1 (s21.2.1.map aP), .arr w17 3 1 (o18_2_16.map aP)]) (fun (k : Nat) (s21 : Int × (List Int) × Value) => eC (dO r2 t_0 k12) (eS (dO r2 t_0 k12) r2 i_0_9 t_0 out_0_9 k18) r2 used_2_16 i_0_9 now_2_16 false t_0 out_0_9 o18_2_16 k s21.1 s21.2.1) (fun _ => rfl) (0, ([] : List Int), (.slice none 0 0)) h (bF [0, 1, 3, 2] rfl rfl (aV rfl (aV rfl (bC ⟨rfl, rfl, rfl, rfl, rfl, rfl, rfl, rfl, trivial⟩)))) ?_
   rintro k23 ⟨k_4_21, nextv_4_21, w22⟩ h
   simp only [eC] at h
   refine aI ?_
   refine aI ?_
   refine aD ?_
   refine tr1 rfl (aC (v := .d (.lit (.int .i64 k_4_21))) (aA rfl) rfl rfl) ?_
   refine tr1 rfl (aC (v := .d (.sl 5 (r2.map aL))) (aA rfl) rfl rfl) ?_
   refine tr1 rfl (dV (aA rfl) rfl eK.of) ?_
   refine tr1 rfl (bI (aA rfl) rfl rfl rfl) ?_
   refine aH ?_
   refine bX rfl (fun c24 => ?_) (fun c24 => ?_)
   ·have h := aZ c24 h
    refine bV ?_
    refine aI ?_
    refine cG ?_
    refine aI ?_
    refine aD ?_
    refine tr1 rfl (aC (v := .d (.sl 5 (r2.map aL))) (aA rfl) rfl rfl) ?_
    refine tr1 rfl (aC (v := .d (.lit (.int .i64 k_4_21))) (aA rfl) rfl rfl) ?_
    obtain ⟨x25, h26, h⟩ := bind_some h
    refine tr1 rfl (bL (aA rfl) rfl rfl eK.of (bW aL h26)) ?_
    refine tr1 rfl (cC (aA rfl) rfl lK (es := [.lit (.int .i64 x25.Kind)]) rfl) ?_
    refine tr1 rfl (bM (aA rfl) rfl bG) ?_
    refine tr1 rfl (bI (aA rfl) rfl rfl rfl) ?_
    refine tr1 rfl (aC (v := .d (.lit (.bool ((decide (x25.Kind = 5)))))) (aA rfl) rfl rfl) ?_
    obtain ⟨b27, h28, h⟩ := bind_some h
    refine cE 8 [2, 6, 7, 8, 9, 10, 11, 12, 13, 14] 55 b27 ?_ ?_
    ·refine bJ (decide (x25.Kind = 5)) (fun c40 => ?_) (fun c40 => ?_)
     ·have h28 := aZ c40 h28
      refine aM rfl rfl (aA rfl) rfl c40 (aC (v := .d (.sl 5 (r2.map aL))) (aA rfl) rfl rfl) ?_
      refine aM rfl rfl (aA rfl) rfl c40 (aC (v := .d (.lit (.int .i64 k_4_21))) (aA rfl) rfl rfl) ?_
      obtain ⟨x41, h42, h28⟩ := bind_some h28
      refine aM rfl rfl (aA rfl) rfl c40 (bL (aA rfl) rfl rfl eK.of (bW aL h42)) ?_
      refine aM rfl rfl (aA rfl) rfl c40 (cC (aA rfl) rfl iR (es := [.lit (.int .i64 x41.Place)]) rfl) ?_
      refine aM rfl rfl (aA rfl) rfl c40 (bM (aA rfl) rfl bG) ?_
      refine aM rfl rfl (aA rfl) rfl c40 (aC (v := .d (.lit (.int .i64 i_0_9))) (aA rfl) rfl rfl) ?_
      refine aM rfl rfl (aA rfl) rfl c40 (bI (aA rfl) rfl rfl rfl) ?_
      refine tr1 rfl (bU (v := .d (.lit (.bool ((decide (x41.Place = i_0_9)))))) (aA rfl) rfl c40 rfl rfl) ?_
      have h28 := Option.some.inj h28
      subst h28
      refine aH (bD rfl ⟨rfl, rfl, rfl, rfl, rfl, rfl, rfl, rfl, rfl, rfl, trivial⟩ rfl)
     ·have h28 := aY c40 h28
      refine aN rfl rfl (aA rfl) rfl (aA rfl) rfl c40 ?_
      refine aN rfl rfl (aA rfl) rfl (aA rfl) rfl c40 ?_
      refine aN rfl rfl (aA rfl) rfl (aA rfl) rfl c40 ?_
      refine aN rfl rfl (aA rfl) rfl (aA rfl) rfl c40 ?_
      refine aN rfl rfl (aA rfl) rfl (aA rfl) rfl c40 ?_
      refine aN rfl rfl (aA rfl) rfl (aA rfl) rfl c40 ?_
      refine aN rfl rfl (aA rfl) rfl (aA rfl) rfl c40 ?_
      refine tr1 rfl (bS (v := .d (.lit (.bool false))) (aA rfl) rfl c40 rfl rfl) ?_
      have h28 := Option.some.inj h28
      subst h28
      refine aH (bD rfl ⟨rfl, rfl, rfl, rfl, rfl, rfl, rfl, rfl, rfl, rfl, trivial⟩ rfl)
    ·refine tr1 rfl (aC (v := .d (.lit (.bool b27))) (aA rfl) rfl rfl) ?_
     obtain ⟨b29, h30, h⟩ := bind_some h
     refine cE 8 [2, 6, 7, 8, 9, 10, 11, 12, 13, 14] 64 b29 ?_ ?_
     ·refine bJ (b27) (fun c37 => ?_) (fun c37 => ?_)
      ·have h30 := aZ c37 h30
       refine aM rfl rfl (aA rfl) rfl c37 (aC (v := .d (.sl 5 (r2.map aL))) (aA rfl) rfl rfl) ?_
       refine aM rfl rfl (aA rfl) rfl c37 (aC (v := .d (.lit (.int .i64 k_4_21))) (aA rfl) rfl rfl) ?_
       obtain ⟨x38, h39, h30⟩ := bind_some h30
       refine aM rfl rfl (aA rfl) rfl c37 (bL (aA rfl) rfl rfl eK.of (bW aL h39)) ?_
       refine aM rfl rfl (aA rfl) rfl c37 (cC (aA rfl) rfl rE (es := [.lit (.int .i64 x38.Old)]) rfl) ?_
       refine aM rfl rfl (aA rfl) rfl c37 (bM (aA rfl) rfl bG) ?_
       refine aM rfl rfl (aA rfl) rfl c37 (aC (v := .d (.lit (.int .i64 now_2_16))) (aA rfl) rfl rfl) ?_
       refine aM rfl rfl (aA rfl) rfl c37 (bI (aA rfl) rfl rfl rfl) ?_
       refine tr1 rfl (bU (v := .d (.lit (.bool ((decide (x38.Old = now_2_16)))))) (aA rfl) rfl c37 rfl rfl) ?_
       have h30 := Option.some.inj h30
       subst h30
       refine aH (bD rfl ⟨rfl, rfl, rfl, rfl, rfl, rfl, rfl, rfl, rfl, rfl, trivial⟩ rfl)
      ·have h30 := aY c37 h30
       refine aN rfl rfl (aA rfl) rfl (aA rfl) rfl c37 ?_
       refine aN rfl rfl (aA rfl) rfl (aA rfl) rfl c37 ?_
       refine aN rfl rfl (aA rfl) rfl (aA rfl) rfl c37 ?_
       refine aN rfl rfl (aA rfl) rfl (aA rfl) rfl c37 ?_
       refine aN rfl rfl (aA rfl) rfl (aA rfl) rfl c37 ?_
       refine aN rfl rfl (aA rfl) rfl (aA rfl) rfl c37 ?_
       refine aN rfl rfl (aA rfl) rfl (aA rfl) rfl c37 ?_
       refine tr1 rfl (bS (v := .d (.lit (.bool false))) (aA rfl) rfl c37 rfl rfl) ?_
       have h30 := Option.some.inj h30
       subst h30
       refine aH (bD rfl ⟨rfl, rfl, rfl, rfl, rfl, rfl, rfl, rfl, rfl, rfl, trivial⟩ rfl)
     ·refine aH ?_
      refine bX rfl (fun c31 => ?_) (fun c31 => ?_)
      ·have h := aZ c31 h
       refine aD ?_
       refine tr1 rfl (aC (v := .d (.lit w22)) (aA rfl) rfl rfl) ?_
       refine tr1 rfl (aC (v := .d (.sl 5 (r2.map aL))) (aA rfl) rfl rfl) ?_
       refine tr1 rfl (aC (v := .d (.lit (.int .i64 k_4_21))) (aA rfl) rfl rfl) ?_
       obtain ⟨x32, h33, h⟩ := bind_some h
       refine tr1 rfl (bL (aA rfl) rfl rfl eK.of (bW aL h33)) ?_
       refine tr1 rfl (cC (aA rfl) rfl jI (es := [.lit (.int .i64 x32.Player)]) rfl) ?_
       refine tr1 rfl (bM (aA rfl) rfl bG) ?_
       refine tr1 rfl (fN (aA rfl) bZ rfl rfl (rows := ([x32.Player]).map aP) rfl (dF (f := aP) fun _ => rfl) rfl (by decide)) ?_
       obtain ⟨x34, h35, h⟩ := bind_some h
       refine cB rfl (fD (i := 2) (aA rfl) bZ rfl rfl rfl (fun _ => rfl) h35 rfl) ?_
       rintro _ ⟨v36, rfl⟩
       refine tr1 rfl (aK (v := .d (.lit v36)) (aA rfl) rfl rfl) ?_
       refine fX ?_
       refine aD ?_
       refine tr1 rfl (aC (v := .d (.lit (.int .i64 k_4_21))) (aA rfl) rfl rfl) ?_
       refine tr1 rfl (bT (aA rfl) rfl rfl rfl) ?_
       refine tr1 rfl (aK (v := .d (.lit (.int .i64 ((w64 (k_4_21 + 1)))))) (aA rfl) rfl rfl) ?_
       refine aH ?_
       exact ⟨(w64 (k_4_21 + 1), x34, v36), h, bF [0, 1, 2, 3] rfl rfl (aV rfl (aV rfl (bC ⟨rfl, rfl, rfl, rfl, rfl, rfl, rfl, rfl, trivial⟩)))⟩
      ·have h := aY c31 h
       refine eM ?_
       refine aD ?_
       refine tr1 rfl (aC (v := .d (.lit (.int .i64 k_4_21))) (aA rfl) rfl rfl) ?_
       refine tr1 rfl (bT (aA rfl) rfl rfl rfl) ?_
       refine tr1 rfl (aK (v := .d (.lit (.int .i64 ((w64 (k_4_21 + 1)))))) (aA rfl) rfl rfl) ?_
       refine aH ?_
       exact ⟨(w64 (k_4_21 + 1), nextv_4_21, w22), h, bF [0, 1, 2, 3] rfl rfl (aV rfl (aV rfl (bC ⟨rfl, rfl, rfl, rfl, rfl, rfl, rfl, rfl, trivial⟩)))⟩
   ·have h := aY c24 h
    refine dD ?_
    refine .inl ⟨rfl, ?_⟩
    simp only [iV] at h
    refine aI ?_
    refine aI ?_
    refine aD ?_
    refine tr1 rfl (aC (v := .d (.lit w22)) (aA rfl) rfl rfl) ?_
    refine tr1 rfl (oV (m := 2) (aA rfl) rfl rfl bZ.of) ?_
    refine tr1 rfl (bI (aA rfl) rfl rfl rfl) ?_
    refine tr1 rfl (aC (v := .d (.lit (.bool ((decide (1 < (nextv_4_21.length : Int))))))) (aA rfl) rfl rfl) ?_
    obtain ⟨b43, h44, h⟩ := bind_some h
    refine cE 11 [2, 6, 7, 8, 9, 10, 11, 12, 13] 87 b43 ?_ ?_
    ·refine bJ (decide (1 < (nextv_4_21.length : Int))) (fun c52 => ?_) (fun c52 => ?_)
     ·have h44 := aZ c52 h44
      refine aN rfl rfl (aA rfl) rfl (aA rfl) rfl c52 ?_
      refine aN rfl rfl (aA rfl) rfl (aA rfl) rfl c52 ?_
      refine aN rfl rfl (aA rfl) rfl (aA rfl) rfl c52 ?_
      refine aN rfl rfl (aA rfl) rfl (aA rfl) rfl c52 ?_
      refine eA rfl rfl (aA rfl) rfl (aA rfl) rfl ?_
      refine eA rfl rfl (aA rfl) rfl (aA rfl) rfl ?_
      refine eA rfl rfl (aA rfl) rfl (aA rfl) rfl ?_
      refine eA rfl rfl (aA rfl) rfl (aA rfl) rfl ?_
      refine eA rfl rfl (aA rfl) rfl (aA rfl) rfl ?_
      refine aN rfl rfl (aA rfl) rfl (aA rfl) rfl c52 ?_
      refine tr1 rfl (bU (v := .d (.lit (.bool true))) (aA rfl) rfl c52 rfl rfl) ?_
      have h44 := Option.some.inj h44
      subst h44
      refine aH (bD rfl ⟨rfl, rfl, rfl, rfl, rfl, rfl, rfl, rfl, rfl, trivial⟩ rfl)
     ·have h44 := aY c52 h44
      refine aM rfl rfl (aA rfl) rfl c52 (aC (v := .d (.lit w22)) (aA rfl) rfl rfl) ?_
      refine aM rfl rfl (aA rfl) rfl c52 (oV (m := 2) (aA rfl) rfl rfl bZ.of) ?_
      refine aM rfl rfl (aA rfl) rfl c52 (bI (aA rfl) rfl rfl rfl) ?_
      refine aM rfl rfl (aA rfl) rfl c52 (aC (v := .d (.lit (.bool ((decide ((nextv_4_21.length : Int) = 1)))))) (aA rfl) rfl rfl) ?_
      obtain ⟨b53, h54, h44⟩ := bind_some h44
      refine cE 6 [2, 6, 7, 8, 9, 10, 11, 12, 13, 76, 77, 78, 79, 80] 86 b53 ?_ ?_
      ·refine bJ (decide ((nextv_4_21.length : Int) = 1)) (fun c55 => ?_) (fun c55 => ?_)
       ·have h54 := aZ c55 h54
        refine aM rfl rfl (aA rfl) rfl c55 (aC (v := .d (.lit w17)) (aA rfl) rfl rfl) ?_
        refine aM rfl rfl (aA rfl) rfl c55 (aC (v := .d (.lit w22)) (aA rfl) rfl rfl) ?_
        obtain ⟨x56, h57, h54⟩ := bind_some h54
        refine aM rfl rfl (aA rfl) rfl c55 (jC (m := 2) (aA rfl) rfl rfl rfl bZ.of (bW aP h57)) ?_
        refine aM rfl rfl (aA rfl) rfl c55 (mT (aA rfl) rfl (m := 2) rfl (sC aP h57) rfl bG) ?_
        obtain ⟨r58, h59, h54⟩ := bind_some h54
        refine aM rfl rfl (aA rfl) rfl c55 (cP (aA rfl) (.func _ _ Try.call52) rfl rfl (.cons (.d (lW 3 rfl (dF (f := aP) fun _ => rfl))) (.cons (.same _) .nil)) (aAd _ _ h59) rfl) ?_
        refine aM rfl rfl (aA rfl) rfl c52 (bU (v := .d (.lit (.bool r58))) (aA rfl) rfl c55 rfl rfl) ?_
        have h54 := Option.some.inj h54
        subst h54
        refine aH (bD rfl ⟨rfl, rfl, rfl, rfl, rfl, rfl, rfl, rfl, rfl, rfl, rfl, rfl, rfl, rfl, trivial⟩ rfl)
       ·have h54 := aY c55 h54
        refine aN rfl rfl (aA rfl) rfl (aA rfl) rfl c55 ?_
        refine aN rfl rfl (aA rfl) rfl (aA rfl) rfl c55 ?_
        refine aN rfl rfl (aA rfl) rfl (aA rfl) rfl c55 ?_
        refine aN rfl rfl (aA rfl) rfl (aA rfl) rfl c55 ?_
        refine aN rfl rfl (aA rfl) rfl (aA rfl) rfl c55 ?_
        refine aM rfl rfl (aA rfl) rfl c52 (bS (v := .d (.lit (.bool false))) (aA rfl) rfl c55 rfl rfl) ?_
        have h54 := Option.some.inj h54
        subst h54
        refine aH (bD rfl ⟨rfl, rfl, rfl, rfl, rfl, rfl, rfl, rfl, rfl, rfl, rfl, rfl, rfl, rfl, trivial⟩ rfl)
      ·refine tr1 rfl (bS (v := .d (.lit (.bool b53))) (aA rfl) rfl c52 rfl rfl) ?_
       have h44 := Option.some.inj h44
       subst h44
       refine aH (bD rfl ⟨rfl, rfl, rfl, rfl, rfl, rfl, rfl, rfl, rfl, trivial⟩ rfl)
    ·refine aH ?_
     refine bX rfl (fun c45 => ?_) (fun c45 => ?_)
     ·have h := aZ c45 h
      refine aI ?_
      refine aD ?_
      refine tr1 rfl (qO 1 (aA rfl)) ?_
      refine tr1 rfl (aK (v := .d (.lit (.bool false))) (aA rfl) rfl rfl) ?_
      refine aH ?_
      have h := Option.some.inj h
      subst h
      refine cR (cO (cV (l := [4, 5]) ⟨rfl, rfl, trivial⟩)) ?_
      exact bQ ⟨rfl, _, .two _ _, rfl, rfl⟩
     ·have h := aY c45 h
      refine bV ?_
      refine aI ?_
      refine aD ?_
      refine tr1 rfl (aC (v := .d (.lit w22)) (aA rfl) rfl rfl) ?_
      refine tr1 rfl (oV (m := 2) (aA rfl) rfl rfl bZ.of) ?_
      refine tr1 rfl (bI (aA rfl) rfl rfl rfl) ?_
      refine aH ?_
      refine bX rfl (fun c46 => ?_) (fun c46 => ?_)
      ·have h := aZ c46 h
       refine aI ?_
       refine aD ?_
       refine tr1 rfl (aC (v := .d (.lit w22)) (aA rfl) rfl rfl) ?_
       obtain ⟨x47, h48, h⟩ := bind_some h
       refine tr1 rfl (jC (m := 2) (aA rfl) rfl rfl rfl bZ.of (bW aP h48)) ?_
       refine tr1 rfl (mT (aA rfl) rfl (m := 2) rfl (sC aP h48) rfl bG) ?_
       refine tr1 rfl (aK (v := .d (.lit (.int .i64 x47))) (aA rfl) rfl rfl) ?_
       refine aH ?_
       refine aI ?_
       refine aD ?_
       refine tr1 rfl (aC (v := .d (.lit w17)) (aA rfl) rfl rfl) ?_
       refine tr1 rfl (aC (v := .d (.lit (.int .i64 x47))) (aA rfl) rfl rfl) ?_
       refine tr1 rfl (fN (aA rfl) bZ rfl rfl (rows := ([x47]).map aP) rfl (dF (f := aP) fun _ => rfl) rfl (by decide)) ?_
       obtain ⟨x49, h50, h⟩ := bind_some h
       refine cB rfl (fD (i := 3) (aA rfl) bZ rfl rfl rfl (fun _ => rfl) h50 rfl) ?_
       rintro _ ⟨v51, rfl⟩
       refine tr1 rfl (aK (v := .d (.lit v51)) (aA rfl) rfl rfl) ?_
       refine aH ?_
       refine aI ?_
       refine aD ?_
       refine tr1 rfl (aC (v := .d (.lit (.int .i64 used_2_16))) (aA rfl) rfl rfl) ?_
       refine tr1 rfl (bT (aA rfl) rfl rfl rfl) ?_
       refine tr1 rfl (aK (v := .d (.lit (.int .i64 ((w64 (used_2_16 + 1)))))) (aA rfl) rfl rfl) ?_
       refine aH ?_
       refine aD ?_
       refine tr1 rfl (aK (v := .d (.lit (.bool true))) (aA rfl) rfl rfl) ?_
       refine fX ?_
       simp only [gS] at h
       exact ⟨(w64 (used_2_16 + 1), x47, true, x49, v51), h, bF [0, 1, 3] rfl rfl (aV rfl (aV rfl (aV rfl (aV rfl (bC ⟨rfl, rfl, rfl, rfl, trivial⟩)))))⟩
      ·have h := aY c46 h
       refine eM ?_
       simp only [gS] at h
       exact ⟨(used_2_16, now_2_16, false, o18_2_16, w17), h, bF [0, 1, 3] rfl rfl (aV rfl (aV rfl (aV rfl (aV rfl (bC ⟨rfl, rfl, rfl, rfl, trivial⟩)))))⟩
  ·have h := aY c19 h
   refine dD ?_
   refine .inl ⟨rfl, ?_⟩
   simp only [kQ] at h
   refine aD ?_
   refine tr1 rfl (aC (v := .d (.lit w10)) (aA rfl) rfl rfl) ?_
   refine tr1 rfl (aC (v := .d (.lit (.int .i64 now_2_16))) (aA rfl) rfl rfl) ?_
   refine tr1 rfl (fN (aA rfl) bZ rfl rfl (rows := ([now_2_16]).map aP) rfl (dF (f := aP) fun _ => rfl) rfl (by decide)) ?_
   obtain ⟨x60, h61, h⟩ := bind_some h
   refine cB rfl (fD (i := 1) (aA rfl) bZ rfl rfl rfl (fun _ => rfl) h61 rfl) ?_
   rintro _ ⟨v62, rfl⟩
   refine tr1 rfl (aK (v := .d (.lit v62)) (aA rfl) rfl rfl) ?_
   refine fX ?_
   simp only [mN] at h
   refine aD ?_
   refine tr1 rfl (aC (v := .d (.lit (.int .i64 i_0_9))) (aA rfl) rfl rfl) ?_
   refine tr1 rfl (bT (aA rfl) rfl rfl rfl) ?_
   refine tr1 rfl (aK (v := .d (.lit (.int .i64 ((w64 (i_0_9 + 1)))))) (aA rfl) rfl rfl) ?_
   refine aH ?_
   exact ⟨(used_2_16, w64 (i_0_9 + 1), x60, o18_2_16, v62, w17), h, bF [0, 1, 2] rfl rfl (aV rfl (aV rfl (aV rfl (aV rfl (bC ⟨rfl, rfl, trivial⟩)))))⟩
 ·have h := aY c13 h
  refine dD ?_
  refine .inl ⟨rfl, ?_⟩
  simp only [mM] at h
  refine aI ?_
  refine aI ?_
  refine aD ?_
  refine tr1 rfl (aK (v := .d (.lit (.int .i64 0))) (aA rfl) rfl rfl) ?_
  refine aH ?_
  refine cG ?_
  refine dR [6, 8] (fun (s63 : Int × Int) => [(9, .d (.lit (.int .i64 s63.1))), (15, .d (.lit (.int .i64 s63.2)))]) (fun (s63 : Int × Int) => [.arr w10 3 1 (out_0_9.map aP)]) (fun (k : Nat) (s63 : Int × Int) => eD r2 out_0_9 k s63.1 s63.2) (fun _ => rfl) (used_0_9, 0) h (bF [1] rfl rfl (aV rfl (aV rfl (bC ⟨rfl, rfl, trivial⟩)))) ?_
  rintro k64 ⟨used_6_63, k_6_63⟩ h
  simp only [eD] at h
  refine aI ?_
  refine aI ?_
  refine aD ?_
  refine tr1 rfl (aC (v := .d (.lit (.int .i64 k_6_63))) (aA rfl) rfl rfl) ?_
  refine tr1 rfl (aC (v := .d (.sl 5 (r2.map aL))) (aA rfl) rfl rfl) ?_
  refine tr1 rfl (dV (aA rfl) rfl eK.of) ?_
  refine tr1 rfl (bI (aA rfl) rfl rfl rfl) ?_
  refine aH ?_
  refine bX rfl (fun c65 => ?_) (fun c65 => ?_)
  ·have h := aZ c65 h
   refine bV ?_
   refine aI ?_
   refine cG ?_
   refine aI ?_
   refine aD ?_
   refine tr1 rfl (aC (v := .d (.sl 5 (r2.map aL))) (aA rfl) rfl rfl) ?_
   refine tr1 rfl (aC (v := .d (.lit (.int .i64 k_6_63))) (aA rfl) rfl rfl) ?_
   obtain ⟨x66, h67, h⟩ := bind_some h
   refine tr1 rfl (bL (aA rfl) rfl rfl eK.of (bW aL h67)) ?_
   refine tr1 rfl (cC (aA rfl) rfl lK (es := [.lit (.int .i64 x66.Kind)]) rfl) ?_
   refine tr1 rfl (bM (aA rfl) rfl bG) ?_
   refine tr1 rfl (bI (aA rfl) rfl rfl rfl) ?_
   refine aH ?_
   refine bX rfl (fun c68 => ?_) (fun c68 => ?_)
   ·have h := aZ c68 h
    refine aD ?_
    refine tr1 rfl (aC (v := .d (.lit (.int .i64 used_6_63))) (aA rfl) rfl rfl) ?_
    refine tr1 rfl (bT (aA rfl) rfl rfl rfl) ?_
    refine tr1 rfl (aK (v := .d (.lit (.int .i64 ((w64 (used_6_63 - 1)))))) (aA rfl) rfl rfl) ?_
    refine fX ?_
    refine aD ?_
    refine tr1 rfl (aC (v := .d (.lit (.int .i64 k_6_63))) (aA rfl) rfl rfl) ?_
    refine tr1 rfl (bT (aA rfl) rfl rfl rfl) ?_
    refine tr1 rfl (aK (v := .d (.lit (.int .i64 ((w64 (k_6_63 + 1)))))) (aA rfl) rfl rfl) ?_
    refine aH ?_
    exact ⟨(w64 (used_6_63 - 1), w64 (k_6_63 + 1)), h, bF [0] rfl rfl (aV rfl (aV rfl (bC ⟨rfl, rfl, trivial⟩)))⟩
   ·have h := aY c68 h
    refine eM ?_
    refine aD ?_
    refine tr1 rfl (aC (v := .d (.lit (.int .i64 k_6_63))) (aA rfl) rfl rfl) ?_
    refine tr1 rfl (bT (aA rfl) rfl rfl rfl) ?_
    refine tr1 rfl (aK (v := .d (.lit (.int .i64 ((w64 (k_6_63 + 1)))))) (aA rfl) rfl rfl) ?_
    refine aH ?_
    exact ⟨(used_6_63, w64 (k_6_63 + 1)), h, bF [0] rfl rfl (aV rfl (aV rfl (bC ⟨rfl, rfl, trivial⟩)))⟩
  ·have h := aY c65 h
   refine dD ?_
   refine .inl ⟨rfl, ?_⟩
   simp only [mO] at h
   refine aI ?_
   refine aD ?_
   refine tr1 rfl (aC (v := .d (.lit w10)) (aA rfl) rfl rfl) ?_
   refine tr1 rfl (aC (v := .d (.lit (.int .i64 used_6_63))) (aA rfl) rfl rfl) ?_
   refine tr1 rfl (bI (aA rfl) rfl rfl rfl) ?_
   refine tr1 rfl (aK (v := .d (.lit w10)) (aA rfl) rfl rfl) ?_
   refine tr1 rfl (aK (v := .d (.lit (.bool ((decide (used_6_63 = 0)))))) (aA rfl) rfl rfl) ?_
   refine aH ?_
   have h := Option.some.inj h
   subst h
   refine cR (cO (lR (k := 5) (v := .d (.lit (.bool ((decide (used_6_63 = 0)))))) (.same _) (lR (k := 4) (v := .d (.sl 1 (out_0_9.map aP))) (.d (lW 0 rfl (dF (f := aP) fun _ => rfl))) (vB)))) ?_
   exact bQ ⟨rfl, _, .two _ _, rfl, rfl⟩

theorem yP (t_0 : aO) (l_1 : List aE) {r : aQ × Bool} (h : cS t_0 l_1 = some r) : Fn Try.prog 55 [.agg (aT t_0), .d (.sl 5 (l_1.map aL))] (.tup [.agg (cL r.1), .d (.lit (.bool r.2))]) := by
 unfold cS at h
 refine sH Try.func55 rfl (rs := [.cell 4 89, .tmp 5]) Try.results55 Try.ntmps55 (Nat.le_of_ble_eq_true rfl) ?_
 refine aI ?_
 refine aD ?_
 refine cB rfl (gD (v := .agg (aT t_0)) (aA rfl) rfl rfl rfl) ?_
 rintro _ ⟨b1, rfl⟩
 refine cB rfl (dX (zs := [.sl 1 ((([] : List Int)).map aP), .sl 1 ((([] : List (List Int))).map lH)]) (aA rfl) Try.zeroValue89 rfl rfl) ?_
 rintro _ ⟨b2, rfl⟩
 refine tr1 rfl (aK (v := .d (.lit (.bool false))) (aA rfl) rfl rfl) ?_
 refine aH ?_
 refine aI ?_
 refine aD ?_
 refine tr1 rfl (bP (aA rfl) rfl (i := 0) rfl dY (es := (aT t_0)) rfl rfl) ?_
 refine tr1 rfl (aC (v := .d (.sl 5 (l_1.map aL))) (aA rfl) rfl rfl) ?_
 obtain ⟨r3, h4, h⟩ := bind_some h
 refine tr1 rfl (fW (aA rfl) (.func _ _ Try.call18) rfl rfl (qD _ _ h4)) ?_
 refine tr1 rfl (aC (v := .tup [.d (.sl 1 (r3.1.map aP)), .d (.lit (.bool r3.2))]) (aA rfl) rfl rfl) ?_
 refine tr1 rfl (bN (aA rfl) rfl rfl) ?_
 refine tr1 rfl (bN (aA rfl) rfl rfl) ?_
 refine tr1 rfl (aK (v := .d (.sl 1 (r3.1.map aP))) (aA rfl) rfl rfl) ?_
 refine tr1 rfl (aK (v := .d (.lit (.bool r3.2))) (aA rfl) rfl rfl) ?_
 refine aH ?_
 refine aI ?_
 refine aI ?_
 refine aD ?_
 refine tr1 rfl (aC (v := .d (.lit (.bool r3.2))) (aA rfl) rfl rfl) ?_
 refine tr1 rfl (fP (aA rfl) rfl) ?_
 refine aH ?_
 refine bX rfl (fun c5 => ?_) (fun c5 => ?_)
 ·have h := aZ c5 h
  refine aI ?_
  refine aD ?_
  refine tr1 rfl (eV (aA rfl) yC (zs := [.sl 1 ((([] : List Int)).map aP), .sl 1 ((([] : List (List Int))).map lH)]) rfl rfl rfl rfl (es := [.sl 1 ((([] : List Int)).map aP), .sl 1 ((([] : List (List Int))).map lH)]) rfl) ?_
  refine tr1 rfl (cI (i := 1) rfl rfl rfl rfl rfl Try.sizeOf89 rfl (aA rfl) (Nat.le_of_ble_eq_true rfl) (ds' := (cL (aQ.mk ([] : List Int) ([] : List (List Int))))) rfl) ?_
  refine tr1 rfl (aK (v := .d (.lit (.bool false))) (aA rfl) rfl rfl) ?_
  refine aH ?_
  have h := Option.some.inj h
  subst h
  exact bQ ⟨rfl, _, [.box b1 0 (aT t_0), .box b2 0 (cL (aQ.mk ([] : List Int) ([] : List (List Int))))], .two (.cell 4 89 rfl (i := 1) rfl vA (es := (cL (aQ.mk ([] : List Int) ([] : List (List Int))))) rfl rfl) (.tmp 5 (v := .d (.lit (.bool false))) rfl), .refl _, .same _⟩
 ·have h := aY c5 h
  refine bV ?_
  refine aI ?_
  refine aD ?_
  refine tr1 rfl (aC (v := .d (.sl 1 (r3.1.map aP))) (aA rfl) rfl rfl) ?_
  refine tr1 rfl (eV (aA rfl) yC (zs := [.sl 1 ((([] : List Int)).map aP), .lit (.slice none 0 0)]) rfl rfl rfl rfl (es := [.sl 1 (r3.1.map aP), .lit (.slice none 0 0)]) rfl) ?_
  refine cB rfl (dX (zs := [.sl 1 ((([] : List Int)).map aP), .lit (.slice none 0 0)]) (aA rfl) Try.zeroValue89 rfl rfl) ?_
  rintro _ ⟨b6, rfl⟩
  refine kU (aAe 22 1) ?_
  refine kU (aGo 3 1) ?_
  refine tr1 rfl (cI (i := 2) rfl rfl rfl rfl rfl Try.sizeOf89 rfl (aA rfl) (Nat.le_of_ble_eq_true rfl) (ds' := [.sl 1 (r3.1.map aP), .lit (.slice none 0 0)]) rfl) ?_
  refine aH ?_
  refine aI ?_
  refine aI ?_
  refine aD ?_
  refine tr1 rfl (aK (v := .d (.lit (.int .i64 0))) (aA rfl) rfl rfl) ?_
  refine aH ?_
  refine cG ?_
  refine dR [1, 2, 4, 6, 8] (fun (s7 : Int × (List (List Int)) × (List Int) × (List Value) × Value) => [(9, .d (.lit (.int .i64 s7.1)))]) (fun (s7 : Int × (List (List Int)) × (List Int) × (List Value) × Value) => [.box b1 0 (aT t_0), .box b2 0 (cL (aQ.mk ([] : List Int) ([] : List (List Int)))), .fam 3 1 s7.2.2.2.1 (s7.2.1.map fun r => r.map aP), .arr s7.2.2.2.2 22 1 (s7.2.2.2.1.map fun v => [.lit v]), .box b6 0 [.sl 1 (s7.2.2.1.map aP), .lit s7.2.2.2.2]]) (fun (k : Nat) (s7 : Int × (List (List Int)) × (List Int) × (List Value) × Value) => fB l_1 r3.1 t_0 (aQ.mk ([] : List Int) ([] : List (List Int))) k s7.1 s7.2.1 s7.2.2.1) (fun _ => rfl) (0, ([] : List (List Int)), r3.1, [], (.slice none 0 0)) h (bF [0, 1, 4, 3, 2] rfl rfl (aV rfl (bC ⟨rfl, rfl, rfl, rfl, rfl, trivial⟩))) ?_
  rintro k10 ⟨r_0_7, d_0_7, d_0_7_2, vs8, w9⟩ h
  simp only [fB] at h
  refine aI ?_
  refine aI ?_
  refine aD ?_
  refine tr1 rfl (aC (v := .d (.lit (.int .i64 r_0_7))) (aA rfl) rfl rfl) ?_
  refine tr1 rfl (aU (aA rfl) rfl iQ) ?_
  refine tr1 rfl (aW (aA rfl) rfl (i := 0) rfl rfl bG) ?_
  refine tr1 rfl (bI (aA rfl) rfl rfl rfl) ?_
  refine aH ?_
  refine bX rfl (fun c11 => ?_) (fun c11 => ?_)
  ·have h := aZ c11 h
   refine bV ?_
   refine aI ?_
   refine cG ?_
   refine aI ?_
   refine aD ?_
   refine tr1 rfl (jB 3 1 (.inl rfl) (aA rfl)) ?_
   refine aH ?_
   refine aI ?_
   refine aI ?_
   refine aD ?_
   refine tr1 rfl (aK (v := .d (.lit (.int .i64 0))) (aA rfl) rfl rfl) ?_
   refine aH ?_
   refine cG ?_
   refine dR [1, 2, 4, 6, 8, 9] (fun (s13 : Int × (List Int) × Value) => [(10, .d (.lit s13.2.2)), (11, .d (.lit (.int .i64 s13.1)))]) (fun (s13 : Int × (List Int) × Value) => [.box b1 0 (aT t_0), .box b2 0 (cL (aQ.mk ([] : List Int) ([] : List (List Int)))), .fam 3 1 vs8 (d_0_7.map fun r => r.map aP), .arr w9 22 1 (vs8.map fun v => [.lit v]), .box b6 0 [.sl 1 (d_0_7_2.map aP), .lit w9], .arr s13.2.2 3 1 (s13.2.1.map aP)]) (fun (k : Nat) (s13 : Int × (List Int) × Value) => dT (fB l_1 r3.1 t_0 (aQ.mk ([] : List Int) ([] : List (List Int))) k10) l_1 r3.1 r_0_7 t_0 (aQ.mk ([] : List Int) ([] : List (List Int))) d_0_7 d_0_7_2 k s13.1 s13.2.1) (fun _ => rfl) (0, ([] : List Int), (.slice none 0 0)) h (bF [0, 1, 2, 3, 4, 5] rfl rfl (aV rfl (aV rfl (bC ⟨rfl, rfl, rfl, rfl, rfl, rfl, trivial⟩)))) ?_
   rintro k15 ⟨p_2_13, row_2_13, w14⟩ h
   simp only [dT] at h
   refine aI ?_
   refine aI ?_
   refine aD ?_
   refine tr1 rfl (aC (v := .d (.lit (.int .i64 p_2_13))) (aA rfl) rfl rfl) ?_
   refine tr1 rfl (bP (aA rfl) rfl (i := 0) rfl dY (es := (aT t_0)) rfl rfl) ?_
   refine tr1 rfl (aC (v := .d (.lit (.int .i64 r_0_7))) (aA rfl) rfl rfl) ?_
   obtain ⟨r16, h17, h⟩ := bind_some h
   refine tr1 rfl (cP (aA rfl) (.func _ _ Try.call42) rfl rfl (BVs.refl _ _) (qV _ _ h17) rfl) ?_
   refine tr1 rfl (bI (aA rfl) rfl rfl rfl) ?_
   refine aH ?_
   refine bX rfl (fun c18 => ?_) (fun c18 => ?_)
   ·have h := aZ c18 h
    refine bV ?_
    refine aI ?_
    refine cG ?_
    refine aI ?_
    refine aD ?_
    refine tr1 rfl (aK (v := .d (.lit (.int .i64 (-2)))) (aA rfl) rfl rfl) ?_
    refine aH ?_
    refine aI ?_
    refine aI ?_
    refine aD ?_
    refine tr1 rfl (aC (v := .d (.lit (.int .i64 r_0_7))) (aA rfl) rfl rfl) ?_
    refine tr1 rfl (bI (aA rfl) rfl rfl rfl) ?_
    refine tr1 rfl (aC (v := .d (.lit (.bool ((decide (r_0_7 = 0)))))) (aA rfl) rfl rfl) ?_
    obtain ⟨b19, h20, h⟩ := bind_some h
    refine cE 7 [1, 2, 4, 6, 8, 9, 10, 11, 12] 55 b19 ?_ ?_
    ·refine bJ (decide (r_0_7 = 0)) (fun c52 => ?_) (fun c52 => ?_)
     ·have h20 := aZ c52 h20
      refine aM rfl rfl (aA rfl) rfl c52 (aC (v := .d (.sl 1 (r3.1.map aP))) (aA rfl) rfl rfl) ?_
      refine aM rfl rfl (aA rfl) rfl c52 (aC (v := .d (.lit (.int .i64 p_2_13))) (aA rfl) rfl rfl) ?_
      refine aM rfl rfl (aA rfl) rfl c52 (bT (aA rfl) rfl rfl rfl) ?_
      obtain ⟨x53, h54, h20⟩ := bind_some h20
      refine aM rfl rfl (aA rfl) rfl c52 (bL (aA rfl) rfl rfl bZ.of (bW aP h54)) ?_
      refine aM rfl rfl (aA rfl) rfl c52 (bM (aA rfl) rfl bG) ?_
      refine aM rfl rfl (aA rfl) rfl c52 (bI (aA rfl) rfl rfl rfl) ?_
      refine tr1 rfl (bU (v := .d (.lit (.bool ((decide (x53 = (-1))))))) (aA rfl) rfl c52 rfl rfl) ?_
      have h20 := Option.some.inj h20
      subst h20
      refine aH (bD rfl ⟨rfl, rfl, rfl, rfl, rfl, rfl, rfl, rfl, rfl, trivial⟩ rfl)
     ·have h20 := aY c52 h20
      refine aN rfl rfl (aA rfl) rfl (aA rfl) rfl c52 ?_
      refine aN rfl rfl (aA rfl) rfl (aA rfl) rfl c52 ?_
      refine aN rfl rfl (aA rfl) rfl (aA rfl) rfl c52 ?_
      refine aN rfl rfl (aA rfl) rfl (aA rfl) rfl c52 ?_
      refine aN rfl rfl (aA rfl) rfl (aA rfl) rfl c52 ?_
      refine aN rfl rfl (aA rfl) rfl (aA rfl) rfl c52 ?_
      refine tr1 rfl (bS (v := .d (.lit (.bool false))) (aA rfl) rfl c52 rfl rfl) ?_
      have h20 := Option.some.inj h20
      subst h20
      refine aH (bD rfl ⟨rfl, rfl, rfl, rfl, rfl, rfl, rfl, rfl, rfl, trivial⟩ rfl)
    ·refine aH ?_
     refine bX rfl (fun c21 => ?_) (fun c21 => ?_)
     ·have h := aZ c21 h
      refine aD ?_
      refine tr1 rfl (aC (v := .d (.sl 1 (r3.1.map aP))) (aA rfl) rfl rfl) ?_
      refine tr1 rfl (aC (v := .d (.lit (.int .i64 p_2_13))) (aA rfl) rfl rfl) ?_
      refine tr1 rfl (bT (aA rfl) rfl rfl rfl) ?_
      refine tr1 rfl (bT (aA rfl) rfl rfl rfl) ?_
      obtain ⟨x22, h23, h⟩ := bind_some h
      refine tr1 rfl (bL (aA rfl) rfl rfl bZ.of (bW aP h23)) ?_
      refine tr1 rfl (bM (aA rfl) rfl bG) ?_
      refine tr1 rfl (aK (v := .d (.lit (.int .i64 x22))) (aA rfl) rfl rfl) ?_
      refine aH ?_
      refine aI ?_
      refine aI ?_
      refine aD ?_
      refine tr1 rfl (aC (v := .d (.lit (.int .i64 r_0_7))) (aA rfl) rfl rfl) ?_
      refine tr1 rfl (bI (aA rfl) rfl rfl rfl) ?_
      refine tr1 rfl (aC (v := .d (.lit (.bool ((decide (r_0_7 = 0)))))) (aA rfl) rfl rfl) ?_
      obtain ⟨b24, h25, h⟩ := bind_some h
      refine cE 8 [1, 2, 4, 6, 8, 9, 10, 11, 12] 72 b24 ?_ ?_
      ·refine bJ (decide (r_0_7 = 0)) (fun c35 => ?_) (fun c35 => ?_)
       ·have h25 := aZ c35 h25
        refine aM rfl rfl (aA rfl) rfl c35 (aC (v := .d (.sl 1 (r3.1.map aP))) (aA rfl) rfl rfl) ?_
        refine aM rfl rfl (aA rfl) rfl c35 (aC (v := .d (.lit (.int .i64 p_2_13))) (aA rfl) rfl rfl) ?_
        refine aM rfl rfl (aA rfl) rfl c35 (bT (aA rfl) rfl rfl rfl) ?_
        refine aM rfl rfl (aA rfl) rfl c35 (bT (aA rfl) rfl rfl rfl) ?_
        obtain ⟨x36, h37, h25⟩ := bind_some h25
        refine aM rfl rfl (aA rfl) rfl c35 (bL (aA rfl) rfl rfl bZ.of (bW aP h37)) ?_
        refine aM rfl rfl (aA rfl) rfl c35 (bM (aA rfl) rfl bG) ?_
        refine aM rfl rfl (aA rfl) rfl c35 (bI (aA rfl) rfl rfl rfl) ?_
        refine tr1 rfl (bU (v := .d (.lit (.bool ((decide (x36 = (-1))))))) (aA rfl) rfl c35 rfl rfl) ?_
        have h25 := Option.some.inj h25
        subst h25
        refine aH (bD rfl ⟨rfl, rfl, rfl, rfl, rfl, rfl, rfl, rfl, rfl, trivial⟩ rfl)
       ·have h25 := aY c35 h25
        refine aN rfl rfl (aA rfl) rfl (aA rfl) rfl c35 ?_
        refine aN rfl rfl (aA rfl) rfl (aA rfl) rfl c35 ?_
        refine aN rfl rfl (aA rfl) rfl (aA rfl) rfl c35 ?_
        refine aN rfl rfl (aA rfl) rfl (aA rfl) rfl c35 ?_
        refine aN rfl rfl (aA rfl) rfl (aA rfl) rfl c35 ?_
        refine aN rfl rfl (aA rfl) rfl (aA rfl) rfl c35 ?_
        refine aN rfl rfl (aA rfl) rfl (aA rfl) rfl c35 ?_
        refine tr1 rfl (bS (v := .d (.lit (.bool false))) (aA rfl) rfl c35 rfl rfl) ?_
        have h25 := Option.some.inj h25
        subst h25
        refine aH (bD rfl ⟨rfl, rfl, rfl, rfl, rfl, rfl, rfl, rfl, rfl, trivial⟩ rfl)
      ·refine aH ?_
       refine bX rfl (fun c26 => ?_) (fun c26 => ?_)
       ·have h := aZ c26 h
        refine aD ?_
        refine tr1 rfl (aC (v := .d (.sl 1 (r3.1.map aP))) (aA rfl) rfl rfl) ?_
        refine tr1 rfl (aC (v := .d (.lit (.int .i64 p_2_13))) (aA rfl) rfl rfl) ?_
        refine tr1 rfl (bT (aA rfl) rfl rfl rfl) ?_
        obtain ⟨x27, h28, h⟩ := bind_some h
        refine tr1 rfl (bL (aA rfl) rfl rfl bZ.of (bW aP h28)) ?_
        refine tr1 rfl (bM (aA rfl) rfl bG) ?_
        refine tr1 rfl (aK (v := .d (.lit (.int .i64 x27))) (aA rfl) rfl rfl) ?_
        refine aH ?_
        refine aD ?_
        refine tr1 rfl (aC (v := .d (.lit w14)) (aA rfl) rfl rfl) ?_
        refine tr1 rfl (aC (v := .d (.lit (.int .i64 x27))) (aA rfl) rfl rfl) ?_
        refine tr1 rfl (fN (aA rfl) bZ rfl rfl (rows := ([x27]).map aP) rfl (dF (f := aP) fun _ => rfl) rfl (by decide)) ?_
        obtain ⟨x29, h30, h⟩ := bind_some h
        refine cB rfl (fD (i := 5) (aA rfl) bZ rfl rfl rfl (fun _ => rfl) h30 rfl) ?_
        rintro _ ⟨v31, rfl⟩
        refine tr1 rfl (aK (v := .d (.lit v31)) (aA rfl) rfl rfl) ?_
        refine fX ?_
        refine aD ?_
        refine tr1 rfl (aC (v := .d (.lit (.int .i64 p_2_13))) (aA rfl) rfl rfl) ?_
        refine tr1 rfl (bT (aA rfl) rfl rfl rfl) ?_
        refine tr1 rfl (aK (v := .d (.lit (.int .i64 ((w64 (p_2_13 + 1)))))) (aA rfl) rfl rfl) ?_
        refine aH ?_
        exact ⟨(w64 (p_2_13 + 1), x29, v31), h, bF [0, 1, 2, 3, 4, 5] rfl rfl (aV rfl (aV rfl (bC ⟨rfl, rfl, rfl, rfl, rfl, rfl, trivial⟩)))⟩
       ·have h := aY c26 h
        refine bV ?_
        refine aD ?_
        refine tr1 rfl (aC (v := .d (.lit w14)) (aA rfl) rfl rfl) ?_
        refine tr1 rfl (aC (v := .d (.lit (.int .i64 x22))) (aA rfl) rfl rfl) ?_
        refine tr1 rfl (fN (aA rfl) bZ rfl rfl (rows := ([x22]).map aP) rfl (dF (f := aP) fun _ => rfl) rfl (by decide)) ?_
        obtain ⟨x32, h33, h⟩ := bind_some h
        refine cB rfl (fD (i := 5) (aA rfl) bZ rfl rfl rfl (fun _ => rfl) h33 rfl) ?_
        rintro _ ⟨v34, rfl⟩
        refine tr1 rfl (aK (v := .d (.lit v34)) (aA rfl) rfl rfl) ?_
        refine fX ?_
        refine aD ?_
        refine tr1 rfl (aC (v := .d (.lit (.int .i64 p_2_13))) (aA rfl) rfl rfl) ?_
        refine tr1 rfl (bT (aA rfl) rfl rfl rfl) ?_
        refine tr1 rfl (aK (v := .d (.lit (.int .i64 ((w64 (p_2_13 + 1)))))) (aA rfl) rfl rfl) ?_
        refine aH ?_
        exact ⟨(w64 (p_2_13 + 1), x32, v34), h, bF [0, 1, 2, 3, 4, 5] rfl rfl (aV rfl (aV rfl (bC ⟨rfl, rfl, rfl, rfl, rfl, rfl, trivial⟩)))⟩
     ·have h := aY c21 h
      refine bV ?_
      refine aI ?_
      refine aI ?_
      refine aD ?_
      refine tr1 rfl (aC (v := .d (.lit (.int .i64 r_0_7))) (aA rfl) rfl rfl) ?_
      refine tr1 rfl (bI (aA rfl) rfl rfl rfl) ?_
      refine tr1 rfl (aC (v := .d (.lit (.bool ((decide (r_0_7 = 0)))))) (aA rfl) rfl rfl) ?_
      obtain ⟨b38, h39, h⟩ := bind_some h
      refine cE 8 [1, 2, 4, 6, 8, 9, 10, 11, 12] 72 b38 ?_ ?_
      ·refine bJ (decide (r_0_7 = 0)) (fun c49 => ?_) (fun c49 => ?_)
       ·have h39 := aZ c49 h39
        refine aM rfl rfl (aA rfl) rfl c49 (aC (v := .d (.sl 1 (r3.1.map aP))) (aA rfl) rfl rfl) ?_
        refine aM rfl rfl (aA rfl) rfl c49 (aC (v := .d (.lit (.int .i64 p_2_13))) (aA rfl) rfl rfl) ?_
        refine aM rfl rfl (aA rfl) rfl c49 (bT (aA rfl) rfl rfl rfl) ?_
        refine aM rfl rfl (aA rfl) rfl c49 (bT (aA rfl) rfl rfl rfl) ?_
        obtain ⟨x50, h51, h39⟩ := bind_some h39
        refine aM rfl rfl (aA rfl) rfl c49 (bL (aA rfl) rfl rfl bZ.of (bW aP h51)) ?_
        refine aM rfl rfl (aA rfl) rfl c49 (bM (aA rfl) rfl bG) ?_
        refine aM rfl rfl (aA rfl) rfl c49 (bI (aA rfl) rfl rfl rfl) ?_
        refine tr1 rfl (bU (v := .d (.lit (.bool ((decide (x50 = (-1))))))) (aA rfl) rfl c49 rfl rfl) ?_
        have h39 := Option.some.inj h39
        subst h39
        refine aH (bD rfl ⟨rfl, rfl, rfl, rfl, rfl, rfl, rfl, rfl, rfl, trivial⟩ rfl)
       ·have h39 := aY c49 h39
        refine aN rfl rfl (aA rfl) rfl (aA rfl) rfl c49 ?_
        refine aN rfl rfl (aA rfl) rfl (aA rfl) rfl c49 ?_
        refine aN rfl rfl (aA rfl) rfl (aA rfl) rfl c49 ?_
        refine aN rfl rfl (aA rfl) rfl (aA rfl) rfl c49 ?_
        refine aN rfl rfl (aA rfl) rfl (aA rfl) rfl c49 ?_
        refine aN rfl rfl (aA rfl) rfl (aA rfl) rfl c49 ?_
        refine aN rfl rfl (aA rfl) rfl (aA rfl) rfl c49 ?_
        refine tr1 rfl (bS (v := .d (.lit (.bool false))) (aA rfl) rfl c49 rfl rfl) ?_
        have h39 := Option.some.inj h39
        subst h39
        refine aH (bD rfl ⟨rfl, rfl, rfl, rfl, rfl, rfl, rfl, rfl, rfl, trivial⟩ rfl)
      ·refine aH ?_
       refine bX rfl (fun c40 => ?_) (fun c40 => ?_)
       ·have h := aZ c40 h
        refine aD ?_
        refine tr1 rfl (aC (v := .d (.sl 1 (r3.1.map aP))) (aA rfl) rfl rfl) ?_
        refine tr1 rfl (aC (v := .d (.lit (.int .i64 p_2_13))) (aA rfl) rfl rfl) ?_
        refine tr1 rfl (bT (aA rfl) rfl rfl rfl) ?_
        obtain ⟨x41, h42, h⟩ := bind_some h
        refine tr1 rfl (bL (aA rfl) rfl rfl bZ.of (bW aP h42)) ?_
        refine tr1 rfl (bM (aA rfl) rfl bG) ?_
        refine tr1 rfl (aK (v := .d (.lit (.int .i64 x41))) (aA rfl) rfl rfl) ?_
        refine aH ?_
        refine aD ?_
        refine tr1 rfl (aC (v := .d (.lit w14)) (aA rfl) rfl rfl) ?_
        refine tr1 rfl (aC (v := .d (.lit (.int .i64 x41))) (aA rfl) rfl rfl) ?_
        refine tr1 rfl (fN (aA rfl) bZ rfl rfl (rows := ([x41]).map aP) rfl (dF (f := aP) fun _ => rfl) rfl (by decide)) ?_
        obtain ⟨x43, h44, h⟩ := bind_some h
        refine cB rfl (fD (i := 5) (aA rfl) bZ rfl rfl rfl (fun _ => rfl) h44 rfl) ?_
        rintro _ ⟨v45, rfl⟩
        refine tr1 rfl (aK (v := .d (.lit v45)) (aA rfl) rfl rfl) ?_
        refine fX ?_
        refine aD ?_
        refine tr1 rfl (aC (v := .d (.lit (.int .i64 p_2_13))) (aA rfl) rfl rfl) ?_
        refine tr1 rfl (bT (aA rfl) rfl rfl rfl) ?_
        refine tr1 rfl (aK (v := .d (.lit (.int .i64 ((w64 (p_2_13 + 1)))))) (aA rfl) rfl rfl) ?_
        refine aH ?_
        exact ⟨(w64 (p_2_13 + 1), x43, v45), h, bF [0, 1, 2, 3, 4, 5] rfl rfl (aV rfl (aV rfl (bC ⟨rfl, rfl, rfl, rfl, rfl, rfl, trivial⟩)))⟩
       ·have h := aY c40 h
        refine bV ?_
        refine aD ?_
        refine tr1 rfl (aC (v := .d (.lit w14)) (aA rfl) rfl rfl) ?_
        refine tr1 rfl (aC (v := .d (.lit (.int .i64 (-2)))) (aA rfl) rfl rfl) ?_
        refine tr1 rfl (fN (aA rfl) bZ rfl rfl (rows := ([(-2)]).map aP) rfl (dF (f := aP) fun _ => rfl) rfl (by decide)) ?_
        obtain ⟨x46, h47, h⟩ := bind_some h
        refine cB rfl (fD (i := 5) (aA rfl) bZ rfl rfl rfl (fun _ => rfl) h47 rfl) ?_
        rintro _ ⟨v48, rfl⟩
        refine tr1 rfl (aK (v := .d (.lit v48)) (aA rfl) rfl rfl) ?_
        refine fX ?_
        refine aD ?_
        refine tr1 rfl (aC (v := .d (.lit (.int .i64 p_2_13))) (aA rfl) rfl rfl) ?_
        refine tr1 rfl (bT (aA rfl) rfl rfl rfl) ?_
        refine tr1 rfl (aK (v := .d (.lit (.int .i64 ((w64 (p_2_13 + 1)))))) (aA rfl) rfl rfl) ?_
        refine aH ?_
        exact ⟨(w64 (p_2_13 + 1), x46, v48), h, bF [0, 1, 2, 3, 4, 5] rfl rfl (aV rfl (aV rfl (bC ⟨rfl, rfl, rfl, rfl, rfl, rfl, trivial⟩)))⟩
   ·have h := aY c18 h
    refine dD ?_
    refine .inl ⟨rfl, ?_⟩
    simp only [iY] at h
    refine aD ?_
    refine tr1 rfl (aU (aA rfl) rfl rG) ?_
    refine tr1 rfl (aW (aA rfl) rfl (i := 4) rfl rfl xS) ?_
    refine tr1 rfl (aC (v := .d (.lit w14)) (aA rfl) rfl rfl) ?_
    refine tr1 rfl (fN (aA rfl) yJ rfl rfl (rows := [[.lit w14]]) rfl (fun r hr => by cases hr with | head => rfl | tail _ h => cases h) rfl (by decide)) ?_
    obtain ⟨x55, h56, h⟩ := bind_some h
    refine cB rfl (aEg (m := 3) (f := 2) (aA rfl) yJ rfl rfl rfl rfl h56 rfl) ?_
    rintro _ ⟨v57, rfl⟩
    refine kU (aEz (i := 2) [.box b1 0 (aT t_0), .box b2 0 (cL (aQ.mk ([] : List Int) ([] : List (List Int)))), .fam 3 1 vs8 (d_0_7.map fun r => r.map aP), .arr v57 22 1 ((vs8 ++ [w14]).map fun v => [.lit v]), .box b6 0 [.sl 1 (d_0_7_2.map aP), .lit w9]] [.box b1 0 (aT t_0), .box b2 0 (cL (aQ.mk ([] : List Int) ([] : List (List Int)))), .fam 3 1 (vs8 ++ [w14]) (x55.map fun r => r.map aP), .arr v57 22 1 ((vs8 ++ [w14]).map fun v => [.lit v]), .box b6 0 [.sl 1 (d_0_7_2.map aP), .lit w9]] rfl rfl h56 rfl) ?_
    refine tr1 rfl (aU (aA rfl) rfl rG) ?_
    refine tr1 rfl (cI (i := 4) rfl rfl rfl rfl rfl Try.sizeOf53 rfl (aA rfl) (Nat.le_of_ble_eq_true rfl) (ds' := [.sl 1 (d_0_7_2.map aP), .lit v57]) rfl) ?_
    refine fX ?_
    simp only [oE] at h
    refine aD ?_
    refine tr1 rfl (aC (v := .d (.lit (.int .i64 r_0_7))) (aA rfl) rfl rfl) ?_
    refine tr1 rfl (bT (aA rfl) rfl rfl rfl) ?_
    refine tr1 rfl (aK (v := .d (.lit (.int .i64 ((w64 (r_0_7 + 1)))))) (aA rfl) rfl rfl) ?_
    refine aH ?_
    exact ⟨(w64 (r_0_7 + 1), x55, d_0_7_2, (vs8 ++ [w14]), v57), h, bF [0, 1, 2, 3, 4] rfl rfl (aV rfl (bC ⟨rfl, rfl, rfl, rfl, rfl, trivial⟩))⟩
  ·have h := aY c11 h
   refine dD ?_
   refine .inl ⟨rfl, ?_⟩
   simp only [iX] at h
   refine aI ?_
   refine aD ?_
   refine tr1 rfl (aC (v := .d (.sl 5 (l_1.map aL))) (aA rfl) rfl rfl) ?_
   obtain ⟨r58, h59, h⟩ := bind_some h
   refine tr1 rfl (fW (aA rfl) (.func _ _ Try.call51) rfl rfl (sM _ h59)) ?_
   refine tr1 rfl (aK (v := .d (.sl 5 (r58.map aL))) (aA rfl) rfl rfl) ?_
   refine aH ?_
   refine aI ?_
   refine aI ?_
   refine aD ?_
   refine tr1 rfl (aK (v := .d (.lit (.int .i64 0))) (aA rfl) rfl rfl) ?_
   refine aH ?_
   refine cG ?_
   refine dR [4, 6, 8, 13] (fun (s60 : Int × aQ × (List (List Int)) × (List Value)) => [(14, .d (.lit (.int .i64 s60.1)))]) (fun (s60 : Int × aQ × (List (List Int)) × (List Value)) => [.box b2 0 (cL s60.2.1), .fam 3 1 s60.2.2.2 (s60.2.2.1.map fun r => r.map aP), .arr w9 22 1 (s60.2.2.2.map fun v => [.lit v]), .box b6 0 [.sl 1 (d_0_7_2.map aP), .lit w9]]) (fun (k : Nat) (s60 : Int × aQ × (List (List Int)) × (List Value)) => dB r3.1 r58 d_0_7_2 k s60.1 s60.2.1 s60.2.2.1) (fun _ => rfl) (0, (aQ.mk ([] : List Int) ([] : List (List Int))), d_0_7, vs8) h (bF [1, 2, 3, 4] rfl rfl (aV rfl (bC ⟨rfl, rfl, rfl, rfl, trivial⟩))) ?_
   rintro k62 ⟨i_4_60, o4_4_60, d_4_60, vs61⟩ h
   simp only [dB] at h
   refine aI ?_
   refine aI ?_
   refine aD ?_
   refine tr1 rfl (aC (v := .d (.lit (.int .i64 i_4_60))) (aA rfl) rfl rfl) ?_
   refine tr1 rfl (aC (v := .d (.sl 5 (r58.map aL))) (aA rfl) rfl rfl) ?_
   refine tr1 rfl (dV (aA rfl) rfl eK.of) ?_
   refine tr1 rfl (bI (aA rfl) rfl rfl rfl) ?_
   refine aH ?_
   refine bX rfl (fun c63 => ?_) (fun c63 => ?_)
   ·have h := aZ c63 h
    refine bV ?_
    refine aI ?_
    refine cG ?_
    refine aI ?_
    refine aD ?_
    refine tr1 rfl (aC (v := .d (.sl 5 (r58.map aL))) (aA rfl) rfl rfl) ?_
    refine tr1 rfl (aC (v := .d (.lit (.int .i64 i_4_60))) (aA rfl) rfl rfl) ?_
    obtain ⟨x64, h65, h⟩ := bind_some h
    refine tr1 rfl (bL (aA rfl) rfl rfl eK.of (bW aL h65)) ?_
    refine tr1 rfl (kE (aA rfl) rfl jS (es := (aL x64)) rfl rfl) ?_
    refine cB rfl (dX (zs := [.lit (.int .i64 0), .lit (.int .i64 0), .lit (.int .i64 0), .lit (.int .i64 0), .lit (.int .i64 0)]) (aA rfl) Try.zeroValue32 rfl rfl) ?_
    rintro _ ⟨b66, rfl⟩
    refine tr1 rfl (cI (i := 4) rfl rfl rfl rfl rfl Try.sizeOf32 rfl (aA rfl) (Nat.le_of_ble_eq_true rfl) (ds' := (aL x64)) rfl) ?_
    refine aH ?_
    refine aI ?_
    refine aI ?_
    refine aD ?_
    refine tr1 rfl (aU (aA rfl) rfl lK) ?_
    refine tr1 rfl (aW (aA rfl) rfl (i := 4) rfl rfl bG) ?_
    refine tr1 rfl (bI (aA rfl) rfl rfl rfl) ?_
    refine aH ?_
    refine bX rfl (fun c67 => ?_) (fun c67 => ?_)
    ·have h := aZ c67 h
     refine dD ?_
     refine .inl ⟨rfl, ?_⟩
     simp only [iZ] at h
     refine aD ?_
     refine tr1 rfl (aC (v := .d (.lit (.int .i64 i_4_60))) (aA rfl) rfl rfl) ?_
     refine tr1 rfl (bT (aA rfl) rfl rfl rfl) ?_
     refine tr1 rfl (aK (v := .d (.lit (.int .i64 ((w64 (i_4_60 + 1)))))) (aA rfl) rfl rfl) ?_
     refine aH ?_
     exact ⟨(w64 (i_4_60 + 1), o4_4_60, d_4_60, vs61), h, bF [0, 1, 2, 3] rfl rfl (aV rfl (bC ⟨rfl, rfl, rfl, rfl, trivial⟩))⟩
    ·have h := aY c67 h
     refine bV ?_
     refine aI ?_
     refine aI ?_
     refine aD ?_
     refine tr1 rfl (aK (v := .d (.lit (.int .i64 0))) (aA rfl) rfl rfl) ?_
     refine aH ?_
     refine cG ?_
     refine dR [4, 6, 8, 13, 14, 15] (fun (s68 : Int × aQ) => [(16, .d (.lit (.int .i64 s68.1)))]) (fun (s68 : Int × aQ) => [.box b2 0 (cL s68.2), .fam 3 1 vs61 (d_4_60.map fun r => r.map aP), .arr w9 22 1 (vs61.map fun v => [.lit v]), .box b6 0 [.sl 1 (d_0_7_2.map aP), .lit w9], .box b66 0 (aL x64)]) (fun (k : Nat) (s68 : Int × aQ) => fR (dB r3.1 r58 d_0_7_2 k62) r3.1 r58 i_4_60 d_4_60 d_0_7_2 x64 k s68.1 s68.2) (fun _ => rfl) (0, o4_4_60) h (bF [0, 1, 2, 3, 4] rfl rfl (aV rfl (bC ⟨rfl, rfl, rfl, rfl, rfl, rfl, trivial⟩))) ?_
     rintro k69 ⟨k_6_68, o4_6_68⟩ h
     simp only [fR] at h
     refine aI ?_
     refine aI ?_
     refine aD ?_
     refine tr1 rfl (aC (v := .d (.lit (.int .i64 k_6_68))) (aA rfl) rfl rfl) ?_
     refine tr1 rfl (aC (v := .d (.lit (.int .i64 i_4_60))) (aA rfl) rfl rfl) ?_
     refine tr1 rfl (bI (aA rfl) rfl rfl rfl) ?_
     refine aH ?_
     refine bX rfl (fun c70 => ?_) (fun c70 => ?_)
     ·have h := aZ c70 h
      refine bV ?_
      refine aI ?_
      refine cG ?_
      refine aI ?_
      refine aD ?_
      refine tr1 rfl (aC (v := .d (.sl 5 (r58.map aL))) (aA rfl) rfl rfl) ?_
      refine tr1 rfl (aC (v := .d (.lit (.int .i64 k_6_68))) (aA rfl) rfl rfl) ?_
      obtain ⟨x71, h72, h⟩ := bind_some h
      refine tr1 rfl (bL (aA rfl) rfl rfl eK.of (bW aL h72)) ?_
      refine tr1 rfl (kE (aA rfl) rfl jS (es := (aL x71)) rfl rfl) ?_
      refine cB rfl (dX (zs := [.lit (.int .i64 0), .lit (.int .i64 0), .lit (.int .i64 0), .lit (.int .i64 0), .lit (.int .i64 0)]) (aA rfl) Try.zeroValue32 rfl rfl) ?_
      rintro _ ⟨b73, rfl⟩
      refine tr1 rfl (cI (i := 5) rfl rfl rfl rfl rfl Try.sizeOf32 rfl (aA rfl) (Nat.le_of_ble_eq_true rfl) (ds' := (aL x71)) rfl) ?_
      refine aH ?_
      refine aI ?_
      refine aD ?_
      refine tr1 rfl (aU (aA rfl) rfl lK) ?_
      refine tr1 rfl (aW (aA rfl) rfl (i := 5) rfl rfl bG) ?_
      refine tr1 rfl (bI (aA rfl) rfl rfl rfl) ?_
      refine tr1 rfl (aC (v := .d (.lit (.bool ((!decide (x71.Kind = 5)))))) (aA rfl) rfl rfl) ?_
      obtain ⟨b74, h75, h⟩ := bind_some h
      refine cE 6 [4, 6, 8, 13, 14, 15, 16, 17] 121 b74 ?_ ?_
      ·refine bJ (!decide (x71.Kind = 5)) (fun c80 => ?_) (fun c80 => ?_)
       ·have h75 := aZ c80 h75
        refine aM rfl rfl (aA rfl) rfl c80 (aU (aA rfl) rfl lL) ?_
        refine aM rfl rfl (aA rfl) rfl c80 (aW (aA rfl) rfl (i := 5) rfl rfl bG) ?_
        refine aM rfl rfl (aA rfl) rfl c80 (aU (aA rfl) rfl lL) ?_
        refine aM rfl rfl (aA rfl) rfl c80 (aW (aA rfl) rfl (i := 4) rfl rfl bG) ?_
        refine aM rfl rfl (aA rfl) rfl c80 (bI (aA rfl) rfl rfl rfl) ?_
        refine tr1 rfl (bU (v := .d (.lit (.bool ((decide (x71.Round = x64.Round)))))) (aA rfl) rfl c80 rfl rfl) ?_
        have h75 := Option.some.inj h75
        subst h75
        refine aH (bD rfl ⟨rfl, rfl, rfl, rfl, rfl, rfl, rfl, rfl, trivial⟩ rfl)
       ·have h75 := aY c80 h75
        refine aN rfl rfl (aA rfl) rfl (aA rfl) rfl c80 ?_
        refine aN rfl rfl (aA rfl) rfl (aA rfl) rfl c80 ?_
        refine aN rfl rfl (aA rfl) rfl (aA rfl) rfl c80 ?_
        refine aN rfl rfl (aA rfl) rfl (aA rfl) rfl c80 ?_
        refine aN rfl rfl (aA rfl) rfl (aA rfl) rfl c80 ?_
        refine tr1 rfl (bS (v := .d (.lit (.bool false))) (aA rfl) rfl c80 rfl rfl) ?_
        have h75 := Option.some.inj h75
        subst h75
        refine aH (bD rfl ⟨rfl, rfl, rfl, rfl, rfl, rfl, rfl, rfl, trivial⟩ rfl)
      ·refine tr1 rfl (aC (v := .d (.lit (.bool b74))) (aA rfl) rfl rfl) ?_
       obtain ⟨b76, h77, h⟩ := bind_some h
       refine cE 6 [4, 6, 8, 13, 14, 15, 16] 128 b76 ?_ ?_
       ·refine bJ (b74) (fun c79 => ?_) (fun c79 => ?_)
        ·have h77 := aZ c79 h77
         refine aM rfl rfl (aA rfl) rfl c79 (aU (aA rfl) rfl iR) ?_
         refine aM rfl rfl (aA rfl) rfl c79 (aW (aA rfl) rfl (i := 5) rfl rfl bG) ?_
         refine aM rfl rfl (aA rfl) rfl c79 (aU (aA rfl) rfl iR) ?_
         refine aM rfl rfl (aA rfl) rfl c79 (aW (aA rfl) rfl (i := 4) rfl rfl bG) ?_
         refine aM rfl rfl (aA rfl) rfl c79 (bI (aA rfl) rfl rfl rfl) ?_
         refine tr1 rfl (bU (v := .d (.lit (.bool ((decide (x71.Place = x64.Place)))))) (aA rfl) rfl c79 rfl rfl) ?_
         have h77 := Option.some.inj h77
         subst h77
         refine aH (bD rfl ⟨rfl, rfl, rfl, rfl, rfl, rfl, rfl, trivial⟩ rfl)
        ·have h77 := aY c79 h77
         refine aN rfl rfl (aA rfl) rfl (aA rfl) rfl c79 ?_
         refine aN rfl rfl (aA rfl) rfl (aA rfl) rfl c79 ?_
         refine aN rfl rfl (aA rfl) rfl (aA rfl) rfl c79 ?_
         refine aN rfl rfl (aA rfl) rfl (aA rfl) rfl c79 ?_
         refine aN rfl rfl (aA rfl) rfl (aA rfl) rfl c79 ?_
         refine tr1 rfl (bS (v := .d (.lit (.bool false))) (aA rfl) rfl c79 rfl rfl) ?_
         have h77 := Option.some.inj h77
         subst h77
         refine aH (bD rfl ⟨rfl, rfl, rfl, rfl, rfl, rfl, rfl, trivial⟩ rfl)
       ·refine aH ?_
        refine bX rfl (fun c78 => ?_) (fun c78 => ?_)
        ·have h := aZ c78 h
         refine aI ?_
         refine aD ?_
         refine tr1 rfl (eV (aA rfl) yC (zs := [.sl 1 ((([] : List Int)).map aP), .sl 1 ((([] : List (List Int))).map lH)]) rfl rfl rfl rfl (es := [.sl 1 ((([] : List Int)).map aP), .sl 1 ((([] : List (List Int))).map lH)]) rfl) ?_
         refine tr1 rfl (cI (i := 0) rfl rfl rfl rfl rfl Try.sizeOf89 rfl (aA rfl) (Nat.le_of_ble_eq_true rfl) (ds' := (cL (aQ.mk ([] : List Int) ([] : List (List Int))))) rfl) ?_
         refine tr1 rfl (aK (v := .d (.lit (.bool false))) (aA rfl) rfl rfl) ?_
         refine aH ?_
         have h := Option.some.inj h
         subst h
         exact bQ ⟨rfl, _, [.box b2 0 (cL (aQ.mk ([] : List Int) ([] : List (List Int)))), .fam 3 1 vs61 (d_4_60.map fun r => r.map aP), .arr w9 22 1 (vs61.map fun v => [.lit v]), .box b6 0 [.sl 1 (d_0_7_2.map aP), .lit w9], .box b66 0 (aL x64), .box b73 0 (aL x71)], .two (.cell 4 89 rfl (i := 0) rfl vA (es := (cL (aQ.mk ([] : List Int) ([] : List (List Int))))) rfl rfl) (.tmp 5 (v := .d (.lit (.bool false))) rfl), .refl _, .same _⟩
        ·have h := aY c78 h
         refine eM ?_
         refine aD ?_
         refine tr1 rfl (aC (v := .d (.lit (.int .i64 k_6_68))) (aA rfl) rfl rfl) ?_
         refine tr1 rfl (bT (aA rfl) rfl rfl rfl) ?_
         refine tr1 rfl (aK (v := .d (.lit (.int .i64 ((w64 (k_6_68 + 1)))))) (aA rfl) rfl rfl) ?_
         refine aH ?_
         exact ⟨(w64 (k_6_68 + 1), o4_6_68), h, bF [0, 1, 2, 3, 4] rfl rfl (aV rfl (bC ⟨rfl, rfl, rfl, rfl, rfl, rfl, trivial⟩))⟩
     ·have h := aY c70 h
      refine dD ?_
      refine .inl ⟨rfl, ?_⟩
      simp only [lV] at h
      refine aI ?_
      refine aD ?_
      refine tr1 rfl (aK (v := .d (.lit (.int .i64 (-1)))) (aA rfl) rfl rfl) ?_
      refine aH ?_
      refine aI ?_
      refine aI ?_
      refine aD ?_
      refine tr1 rfl (aK (v := .d (.lit (.int .i64 0))) (aA rfl) rfl rfl) ?_
      refine aH ?_
      refine cG ?_
      refine dR [4, 6, 8, 13, 14, 15] (fun (s81 : Int × Int) => [(18, .d (.lit (.int .i64 s81.1))), (19, .d (.lit (.int .i64 s81.2)))]) (fun (s81 : Int × Int) => [.box b2 0 (cL o4_6_68), .fam 3 1 vs61 (d_4_60.map fun r => r.map aP), .arr w9 22 1 (vs61.map fun v => [.lit v]), .box b6 0 [.sl 1 (d_0_7_2.map aP), .lit w9], .box b66 0 (aL x64)]) (fun (k : Nat) (s81 : Int × Int) => dP (dB r3.1 r58 d_0_7_2 k62) r3.1 r58 i_4_60 o4_6_68 d_4_60 d_0_7_2 x64 k s81.1 s81.2) (fun _ => rfl) ((-1), 0) h (bF [0, 1, 2, 3, 4] rfl rfl (aV rfl (aV rfl (bC ⟨rfl, rfl, rfl, rfl, rfl, rfl, trivial⟩)))) ?_
      rintro k82 ⟨atv_8_81, s_8_81⟩ h
      simp only [dP] at h
      refine aI ?_
      refine aI ?_
      refine aD ?_
      refine tr1 rfl (aC (v := .d (.lit (.int .i64 s_8_81))) (aA rfl) rfl rfl) ?_
      refine tr1 rfl (aC (v := .d (.sl 1 (r3.1.map aP))) (aA rfl) rfl rfl) ?_
      refine tr1 rfl (dV (aA rfl) rfl bZ.of) ?_
      refine tr1 rfl (bI (aA rfl) rfl rfl rfl) ?_
      refine aH ?_
      refine bX rfl (fun c83 => ?_) (fun c83 => ?_)
      ·have h := aZ c83 h
       refine bV ?_
       refine aI ?_
       refine cG ?_
       refine aI ?_
       obtain ⟨x84, h85, h⟩ := bind_some h
       refine dW mix 6 [4, 6, 8, 13, 14, 15, 18, 19] [(139, .d (.lit (.int .i64 x84))), (141, .d (.lit (.int .i64 x64.Player)))] ?_ ?_
       ·refine ⟨[(136, 0, .d (.sl 1 (r3.1.map aP))), (137, 1, .d (.lit (.int .i64 s_8_81))), (138, 2, .cp [.lit (.int .i64 x84)]), (139, 3, .d (.lit (.int .i64 x84))), (140, 4, .bp b66 0 3), (141, 5, .d (.lit (.int .i64 x64.Player)))], ?_, ?_⟩
        · exact ⟨by kernel_rfl, by kernel_rfl, by kernel_rfl, by kernel_rfl, by kernel_rfl, [([], []), ([], []), ([0, 1], []), ([2], []), ([], []), ([4], [])], by kernel_rfl, ⟨fun S hS => aG rfl (aR rfl (aC (v := .d (.sl 1 (r3.1.map aP))) (aA rfl) (aF hS rfl) rfl)),
      fun S hS => aG rfl (aR rfl (aC (v := .d (.lit (.int .i64 s_8_81))) (aA rfl) (aF hS rfl) rfl)),
      fun S hS => aG rfl (aR rfl (bL (aA rfl) (aF hS rfl) (aF hS rfl) bZ.of (bW aP h85))),
      fun S hS => aG rfl (aR rfl (bM (aA rfl) (aF hS rfl) bG)),
      fun S hS => aG rfl (aR rfl (aU (aA rfl) (aF hS rfl) jI)),
      fun S hS => aG rfl (aR rfl (aW (aA rfl) (aF hS rfl) (i := 4) rfl rfl bG)), trivial⟩⟩
        · exact cW (aV rfl (aV rfl (bC ⟨rfl, rfl, rfl, rfl, rfl, rfl, rfl, rfl, trivial⟩)))
       ·refine tr1 rfl (bI (aA rfl) rfl rfl rfl) ?_
        refine aH ?_
        refine bX rfl (fun c86 => ?_) (fun c86 => ?_)
        ·have h := aZ c86 h
         refine aD ?_
         refine tr1 rfl (aC (v := .d (.lit (.int .i64 s_8_81))) (aA rfl) rfl rfl) ?_
         refine tr1 rfl (aK (v := .d (.lit (.int .i64 s_8_81))) (aA rfl) rfl rfl) ?_
         refine fX ?_
         refine aD ?_
         refine tr1 rfl (aC (v := .d (.lit (.int .i64 s_8_81))) (aA rfl) rfl rfl) ?_
         refine tr1 rfl (bT (aA rfl) rfl rfl rfl) ?_
         refine tr1 rfl (aK (v := .d (.lit (.int .i64 ((w64 (s_8_81 + 1)))))) (aA rfl) rfl rfl) ?_
         refine aH ?_
         exact ⟨(s_8_81, w64 (s_8_81 + 1)), h, bF [0, 1, 2, 3, 4] rfl rfl (aV rfl (aV rfl (bC ⟨rfl, rfl, rfl, rfl, rfl, rfl, trivial⟩)))⟩
        ·have h := aY c86 h
         refine eM ?_
         refine aD ?_
         refine tr1 rfl (aC (v := .d (.lit (.int .i64 s_8_81))) (aA rfl) rfl rfl) ?_
         refine tr1 rfl (bT (aA rfl) rfl rfl rfl) ?_
         refine tr1 rfl (aK (v := .d (.lit (.int .i64 ((w64 (s_8_81 + 1)))))) (aA rfl) rfl rfl) ?_
         refine aH ?_
         exact ⟨(atv_8_81, w64 (s_8_81 + 1)), h, bF [0, 1, 2, 3, 4] rfl rfl (aV rfl (aV rfl (bC ⟨rfl, rfl, rfl, rfl, rfl, rfl, trivial⟩)))⟩
      ·have h := aY c83 h
       refine dD ?_
       refine .inl ⟨rfl, ?_⟩
       simp only [fQ] at h
       refine aI ?_
       refine aI ?_
       refine aD ?_
       refine tr1 rfl (aC (v := .d (.lit (.int .i64 atv_8_81))) (aA rfl) rfl rfl) ?_
       refine tr1 rfl (bI (aA rfl) rfl rfl rfl) ?_
       refine tr1 rfl (aC (v := .d (.lit (.bool ((decide (atv_8_81 < 0)))))) (aA rfl) rfl rfl) ?_
       obtain ⟨b87, h88, h⟩ := bind_some h
       refine cE 10 [4, 6, 8, 13, 14, 15, 18] 156 b87 ?_ ?_
       ·refine bJ (decide (atv_8_81 < 0)) (fun c112 => ?_) (fun c112 => ?_)
        ·have h88 := aZ c112 h88
         refine aN rfl rfl (aA rfl) rfl (aA rfl) rfl c112 ?_
         refine aN rfl rfl (aA rfl) rfl (aA rfl) rfl c112 ?_
         refine aN rfl rfl (aA rfl) rfl (aA rfl) rfl c112 ?_
         refine aN rfl rfl (aA rfl) rfl (aA rfl) rfl c112 ?_
         refine aN rfl rfl (aA rfl) rfl (aA rfl) rfl c112 ?_
         refine aN rfl rfl (aA rfl) rfl (aA rfl) rfl c112 ?_
         refine aN rfl rfl (aA rfl) rfl (aA rfl) rfl c112 ?_
         refine aN rfl rfl (aA rfl) rfl (aA rfl) rfl c112 ?_
         refine aN rfl rfl (aA rfl) rfl (aA rfl) rfl c112 ?_
         refine tr1 rfl (bU (v := .d (.lit (.bool true))) (aA rfl) rfl c112 rfl rfl) ?_
         have h88 := Option.some.inj h88
         subst h88
         refine aH (bD rfl ⟨rfl, rfl, rfl, rfl, rfl, rfl, rfl, trivial⟩ rfl)
        ·have h88 := aY c112 h88
         refine aM rfl rfl (aA rfl) rfl c112 (aC (v := .d (.lit (.int .i64 atv_8_81))) (aA rfl) rfl rfl) ?_
         refine aM rfl rfl (aA rfl) rfl c112 (aU (aA rfl) rfl lL) ?_
         refine aM rfl rfl (aA rfl) rfl c112 (aW (aA rfl) rfl (i := 4) rfl rfl bG) ?_
         refine aM rfl rfl (aA rfl) rfl c112 (bT (aA rfl) rfl rfl rfl) ?_
         refine aM rfl rfl (aA rfl) rfl c112 (aBb (aA rfl) rfl Try.runUnderlying3 Try.runUnderlying45) ?_
         obtain ⟨u113, h114, h88⟩ := bind_some h88
         refine aM rfl rfl (aA rfl) rfl c112 (aBd (aA rfl) rfl rfl (uE h114)) ?_
         refine aM rfl rfl (aA rfl) rfl c112 (aU (aA rfl) rfl iR) ?_
         refine aM rfl rfl (aA rfl) rfl c112 (aW (aA rfl) rfl (i := 4) rfl rfl bG) ?_
         refine aM rfl rfl (aA rfl) rfl c112 (bI (aA rfl) rfl rfl rfl) ?_
         refine tr1 rfl (bS (v := .d (.lit (.bool ((!decide ((atv_8_81.fdiv (2 ^ (min (IntKind.u64.wrap (w64 (x64.Round + 1))).toNat 64))) = x64.Place)))))) (aA rfl) rfl c112 rfl rfl) ?_
         have h88 := Option.some.inj h88
         subst h88
         refine aH (bD rfl ⟨rfl, rfl, rfl, rfl, rfl, rfl, rfl, trivial⟩ rfl)
       ·refine aH ?_
        refine bX rfl (fun c89 => ?_) (fun c89 => ?_)
        ·have h := aZ c89 h
         refine aI ?_
         refine aD ?_
         refine tr1 rfl (eV (aA rfl) yC (zs := [.sl 1 ((([] : List Int)).map aP), .sl 1 ((([] : List (List Int))).map lH)]) rfl rfl rfl rfl (es := [.sl 1 ((([] : List Int)).map aP), .sl 1 ((([] : List (List Int))).map lH)]) rfl) ?_
         refine tr1 rfl (cI (i := 0) rfl rfl rfl rfl rfl Try.sizeOf89 rfl (aA rfl) (Nat.le_of_ble_eq_true rfl) (ds' := (cL (aQ.mk ([] : List Int) ([] : List (List Int))))) rfl) ?_
         refine tr1 rfl (aK (v := .d (.lit (.bool false))) (aA rfl) rfl rfl) ?_
         refine aH ?_
         have h := Option.some.inj h
         subst h
         exact bQ ⟨rfl, _, [.box b2 0 (cL (aQ.mk ([] : List Int) ([] : List (List Int)))), .fam 3 1 vs61 (d_4_60.map fun r => r.map aP), .arr w9 22 1 (vs61.map fun v => [.lit v]), .box b6 0 [.sl 1 (d_0_7_2.map aP), .lit w9], .box b66 0 (aL x64)], .two (.cell 4 89 rfl (i := 0) rfl vA (es := (cL (aQ.mk ([] : List Int) ([] : List (List Int))))) rfl rfl) (.tmp 5 (v := .d (.lit (.bool false))) rfl), .refl _, .same _⟩
        ·have h := aY c89 h
         refine bV ?_
         refine aI ?_
         refine aD ?_
         refine tr1 rfl (aK (v := .d (.lit (.int .i64 0))) (aA rfl) rfl rfl) ?_
         refine aH ?_
         refine yL ?_
         refine dR [4, 6, 8, 13, 14, 15, 18] (fun (s90 : Int × aQ × (List (List Int)) × (List Value)) => [(20, .d (.lit (.int .i64 s90.1)))]) (fun (s90 : Int × aQ × (List (List Int)) × (List Value)) => [.box b2 0 (cL s90.2.1), .fam 3 1 s90.2.2.2 (s90.2.2.1.map fun r => r.map aP), .arr w9 22 1 (s90.2.2.2.map fun v => [.lit v]), .box b6 0 [.sl 1 (d_0_7_2.map aP), .lit w9], .box b66 0 (aL x64)]) (fun (k : Nat) (s90 : Int × aQ × (List (List Int)) × (List Value)) => fJ (dB r3.1 r58 d_0_7_2 k62) r3.1 r58 i_4_60 atv_8_81 d_0_7_2 x64 k s90.1 s90.2.1 s90.2.2.1) (fun _ => rfl) (0, o4_6_68, d_4_60, vs61) h (bF [0, 1, 2, 3, 4] rfl rfl (aV rfl (bC ⟨rfl, rfl, rfl, rfl, rfl, rfl, rfl, trivial⟩))) ?_
         rintro k92 ⟨r_10_90, o4_10_90, d_10_90, vs91⟩ h
         simp only [fJ] at h
         refine aI ?_
         refine aI ?_
         refine aD ?_
         refine tr1 rfl (aC (v := .d (.lit (.int .i64 r_10_90))) (aA rfl) rfl rfl) ?_
         refine tr1 rfl (aU (aA rfl) rfl lL) ?_
         refine tr1 rfl (aW (aA rfl) rfl (i := 4) rfl rfl bG) ?_
         refine tr1 rfl (bI (aA rfl) rfl rfl rfl) ?_
         refine aH ?_
         refine bX rfl (fun c93 => ?_) (fun c93 => ?_)
         ·have h := aZ c93 h
          refine bV ?_
          refine aI ?_
          refine cG ?_
          refine aI ?_
          refine aD ?_
          refine tr1 rfl (aC (v := .d (.lit (.int .i64 atv_8_81))) (aA rfl) rfl rfl) ?_
          refine tr1 rfl (aC (v := .d (.lit (.int .i64 r_10_90))) (aA rfl) rfl rfl) ?_
          refine tr1 rfl (bT (aA rfl) rfl rfl rfl) ?_
          refine tr1 rfl (aBb (aA rfl) rfl Try.runUnderlying3 Try.runUnderlying45) ?_
          obtain ⟨u94, h95, h⟩ := bind_some h
          refine tr1 rfl (aBd (aA rfl) rfl rfl (uE h95)) ?_
          refine tr1 rfl (aK (v := .d (.lit (.int .i64 ((atv_8_81.fdiv (2 ^ (min (IntKind.u64.wrap (w64 (r_10_90 + 1))).toNat 64))))))) (aA rfl) rfl rfl) ?_
          refine aH ?_
          refine aI ?_
          refine aI ?_
          obtain ⟨x96, h97, h⟩ := bind_some h
          obtain ⟨x98, h99, h⟩ := bind_some h
          obtain ⟨b100, h101, h⟩ := bind_some h
          refine dW mix 22 [4, 6, 8, 13, 14, 15, 18, 20, 21] [(190, .d (.lit (.bool b100)))] ?_ ?_
          ·refine bJ (!decide (x98 = (-2))) (fun c102 => ?_) (fun c102 => ?_)
           ·have h101 := aZ c102 h101
            obtain ⟨x103, h104, h101⟩ := bind_some h101
            obtain ⟨x105, h106, h101⟩ := bind_some h101
            have h101 := Option.some.inj h101
            subst h101
            refine ⟨[(169, 0, .bp b6 0 1), (170, 1, .d (.lit w9)), (171, 2, .d (.lit (.int .i64 r_10_90))), (172, 3, .ep w9 1 r_10_90.toNat 0), (173, 4, .d (.lit (pN vs91 r_10_90))), (174, 5, .d (.lit (.int .i64 ((atv_8_81.fdiv (2 ^ (min (IntKind.u64.wrap (w64 (r_10_90 + 1))).toNat 64))))))), (175, 6, .ep (pN vs91 r_10_90) 1 (atv_8_81.fdiv (2 ^ (min (IntKind.u64.wrap (w64 (r_10_90 + 1))).toNat 64))).toNat 0), (176, 7, .d (.lit (.int .i64 x98))), (177, 8, .d (.lit (.bool ((!decide (x98 = (-2))))))), (178, 9, .d (.lit (.bool ((!decide (x98 = (-2))))))), (179, 10, .bp b6 0 1), (180, 11, .d (.lit w9)), (181, 12, .d (.lit (.int .i64 r_10_90))), (182, 13, .ep w9 1 r_10_90.toNat 0), (183, 14, .d (.lit (pN vs91 r_10_90))), (184, 15, .d (.lit (.int .i64 ((atv_8_81.fdiv (2 ^ (min (IntKind.u64.wrap (w64 (r_10_90 + 1))).toNat 64))))))), (185, 16, .ep (pN vs91 r_10_90) 1 (atv_8_81.fdiv (2 ^ (min (IntKind.u64.wrap (w64 (r_10_90 + 1))).toNat 64))).toNat 0), (186, 17, .d (.lit (.int .i64 x105))), (187, 18, .bp b66 0 3), (188, 19, .d (.lit (.int .i64 x64.Player))), (189, 20, .d (.lit (.bool ((!decide (x105 = x64.Player)))))), (190, 21, .d (.lit (.bool ((!decide (x105 = x64.Player))))))], ?_, ?_⟩
            · exact ⟨by kernel_rfl, by kernel_rfl, by kernel_rfl, by kernel_rfl, by kernel_rfl, [([], []), ([0], []), ([], []), ([1, 2], []), ([3], []), ([], []), ([4, 5], []), ([6], []), ([7], []), ([8], []), ([9], []), ([9, 10], []), ([9], []), ([9, 11, 12], []), ([9, 13], []), ([9], []), ([9, 14, 15], []), ([9, 16], []), ([9], []), ([9, 18], []), ([9, 17, 19], []), ([9, 20], [])], by kernel_rfl, ⟨fun S hS => aG rfl (aR rfl (aU (aA rfl) (aF hS rfl) rG)),
      fun S hS => aG rfl (aR rfl (aW (aA rfl) (aF hS rfl) (i := 3) rfl rfl xS)),
      fun S hS => aG rfl (aR rfl (aC (v := .d (.lit (.int .i64 r_10_90))) (aA rfl) (aF hS rfl) rfl)),
      fun S hS => aG rfl (aR rfl (qN (m := 2) (f := 1) (aA rfl) (aF hS rfl) rfl rfl (aF hS rfl) yJ.of h97)),
      fun S hS => aG rfl (aR rfl (rO (m := 2) (f := 1) (aA rfl) (aF hS rfl) rfl rfl h97 cZ)),
      fun S hS => aG rfl (aR rfl (aC (v := .d (.lit (.int .i64 ((atv_8_81.fdiv (2 ^ (min (IntKind.u64.wrap (w64 (r_10_90 + 1))).toNat 64))))))) (aA rfl) (aF hS rfl) rfl)),
      fun S hS => aG rfl (aR rfl (rN (f := 1) (g := aP) (aA rfl) (aF hS rfl) rfl h97 (aF hS rfl) bZ.of h99)),
      fun S hS => aG rfl (aR rfl (wI (f := 1) (g := aP) (aA rfl) (aF hS rfl) rfl h97 h99 rfl bG)),
      fun S hS => aG rfl (aR rfl (bI (aA rfl) (aF hS rfl) rfl rfl)),
      fun S hS => aG rfl (aR rfl (aC (v := .d (.lit (.bool ((!decide (x98 = (-2))))))) (aA rfl) (aF hS rfl) rfl)),
      fun S hS => aG rfl (bB rfl rfl (aA rfl) (aS hS rfl) c102 (aU (aA rfl) (aF hS rfl) rG)),
      fun S hS => aG rfl (bB rfl rfl (aA rfl) (aS hS rfl) c102 (aW (aA rfl) (aF hS rfl) (i := 3) rfl rfl xS)),
      fun S hS => aG rfl (bB rfl rfl (aA rfl) (aS hS rfl) c102 (aC (v := .d (.lit (.int .i64 r_10_90))) (aA rfl) (aF hS rfl) rfl)),
      fun S hS => aG rfl (bB rfl rfl (aA rfl) (aS hS rfl) c102 (qN (m := 2) (f := 1) (aA rfl) (aF hS rfl) rfl rfl (aF hS rfl) yJ.of h104)),
      fun S hS => aG rfl (bB rfl rfl (aA rfl) (aS hS rfl) c102 (rO (m := 2) (f := 1) (aA rfl) (aF hS rfl) rfl rfl h104 cZ)),
      fun S hS => aG rfl (bB rfl rfl (aA rfl) (aS hS rfl) c102 (aC (v := .d (.lit (.int .i64 ((atv_8_81.fdiv (2 ^ (min (IntKind.u64.wrap (w64 (r_10_90 + 1))).toNat 64))))))) (aA rfl) (aF hS rfl) rfl)),
      fun S hS => aG rfl (bB rfl rfl (aA rfl) (aS hS rfl) c102 (rN (f := 1) (g := aP) (aA rfl) (aF hS rfl) rfl h104 (aF hS rfl) bZ.of h106)),
      fun S hS => aG rfl (bB rfl rfl (aA rfl) (aS hS rfl) c102 (wI (f := 1) (g := aP) (aA rfl) (aF hS rfl) rfl h104 h106 rfl bG)),
      fun S hS => aG rfl (bB rfl rfl (aA rfl) (aS hS rfl) c102 (aU (aA rfl) (aF hS rfl) jI)),
      fun S hS => aG rfl (bB rfl rfl (aA rfl) (aS hS rfl) c102 (aW (aA rfl) (aF hS rfl) (i := 4) rfl rfl bG)),
      fun S hS => aG rfl (bB rfl rfl (aA rfl) (aS hS rfl) c102 (bI (aA rfl) (aF hS rfl) (aF hS rfl) rfl)),
      fun S hS => aG rfl (aR rfl (bU (v := .d (.lit (.bool ((!decide (x105 = x64.Player)))))) (aA rfl) (aF hS rfl) c102 (aF hS rfl) rfl)), trivial⟩⟩
            · exact cW (aV rfl (bC ⟨rfl, rfl, rfl, rfl, rfl, rfl, rfl, rfl, rfl, trivial⟩))
           ·have h101 := aY c102 h101
            have h101 := Option.some.inj h101
            subst h101
            refine ⟨[(169, 0, .bp b6 0 1), (170, 1, .d (.lit w9)), (171, 2, .d (.lit (.int .i64 r_10_90))), (172, 3, .ep w9 1 r_10_90.toNat 0), (173, 4, .d (.lit (pN vs91 r_10_90))), (174, 5, .d (.lit (.int .i64 ((atv_8_81.fdiv (2 ^ (min (IntKind.u64.wrap (w64 (r_10_90 + 1))).toNat 64))))))), (175, 6, .ep (pN vs91 r_10_90) 1 (atv_8_81.fdiv (2 ^ (min (IntKind.u64.wrap (w64 (r_10_90 + 1))).toNat 64))).toNat 0), (176, 7, .d (.lit (.int .i64 x98))), (177, 8, .d (.lit (.bool ((!decide (x98 = (-2))))))), (178, 9, .d (.lit (.bool ((!decide (x98 = (-2))))))), (179, 10, .tup []), (180, 11, .tup []), (181, 12, .tup []), (182, 13, .tup []), (183, 14, .tup []), (184, 15, .tup []), (185, 16, .tup []), (186, 17, .tup []), (187, 18, .tup []), (188, 19, .tup []), (189, 20, .tup []), (190, 21, .d (.lit (.bool false)))], ?_, ?_⟩
            · exact ⟨by kernel_rfl, by kernel_rfl, by kernel_rfl, by kernel_rfl, by kernel_rfl, [([], []), ([0], []), ([], []), ([1, 2], []), ([3], []), ([], []), ([4, 5], []), ([6], []), ([7], []), ([8], []), ([9], []), ([9, 10], []), ([9], []), ([9, 11, 12], []), ([9, 13], []), ([9], []), ([9, 14, 15], []), ([9, 16], []), ([9], []), ([9, 18], []), ([9, 17, 19], []), ([9, 20], [])], by kernel_rfl, ⟨fun S hS => aG rfl (aR rfl (aU (aA rfl) (aF hS rfl) rG)),
      fun S hS => aG rfl (aR rfl (aW (aA rfl) (aF hS rfl) (i := 3) rfl rfl xS)),
      fun S hS => aG rfl (aR rfl (aC (v := .d (.lit (.int .i64 r_10_90))) (aA rfl) (aF hS rfl) rfl)),
      fun S hS => aG rfl (aR rfl (qN (m := 2) (f := 1) (aA rfl) (aF hS rfl) rfl rfl (aF hS rfl) yJ.of h97)),
      fun S hS => aG rfl (aR rfl (rO (m := 2) (f := 1) (aA rfl) (aF hS rfl) rfl rfl h97 cZ)),
      fun S hS => aG rfl (aR rfl (aC (v := .d (.lit (.int .i64 ((atv_8_81.fdiv (2 ^ (min (IntKind.u64.wrap (w64 (r_10_90 + 1))).toNat 64))))))) (aA rfl) (aF hS rfl) rfl)),
      fun S hS => aG rfl (aR rfl (rN (f := 1) (g := aP) (aA rfl) (aF hS rfl) rfl h97 (aF hS rfl) bZ.of h99)),
      fun S hS => aG rfl (aR rfl (wI (f := 1) (g := aP) (aA rfl) (aF hS rfl) rfl h97 h99 rfl bG)),
      fun S hS => aG rfl (aR rfl (bI (aA rfl) (aF hS rfl) rfl rfl)),
      fun S hS => aG rfl (aR rfl (aC (v := .d (.lit (.bool ((!decide (x98 = (-2))))))) (aA rfl) (aF hS rfl) rfl)),
      fun S hS => aG rfl (bE rfl rfl (aA rfl) rfl (aA rfl) (aS hS rfl) c102),
      fun S hS => aG rfl (bE rfl rfl (aA rfl) rfl (aA rfl) (aS hS rfl) c102),
      fun S hS => aG rfl (bE rfl rfl (aA rfl) rfl (aA rfl) (aS hS rfl) c102),
      fun S hS => aG rfl (bE rfl rfl (aA rfl) rfl (aA rfl) (aS hS rfl) c102),
      fun S hS => aG rfl (bE rfl rfl (aA rfl) rfl (aA rfl) (aS hS rfl) c102),
      fun S hS => aG rfl (bE rfl rfl (aA rfl) rfl (aA rfl) (aS hS rfl) c102),
      fun S hS => aG rfl (bE rfl rfl (aA rfl) rfl (aA rfl) (aS hS rfl) c102),
      fun S hS => aG rfl (bE rfl rfl (aA rfl) rfl (aA rfl) (aS hS rfl) c102),
      fun S hS => aG rfl (bE rfl rfl (aA rfl) rfl (aA rfl) (aS hS rfl) c102),
      fun S hS => aG rfl (bE rfl rfl (aA rfl) rfl (aA rfl) (aS hS rfl) c102),
      fun S hS => aG rfl (bE rfl rfl (aA rfl) rfl (aA rfl) (aS hS rfl) c102),
      fun S hS => aG rfl (aR rfl (bS (v := .d (.lit (.bool false))) (aA rfl) (aF hS rfl) c102 rfl rfl)), trivial⟩⟩
            · exact cW (aV rfl (bC ⟨rfl, rfl, rfl, rfl, rfl, rfl, rfl, rfl, rfl, trivial⟩))
          ·refine aH ?_
           refine bX rfl (fun c107 => ?_) (fun c107 => ?_)
           ·have h := aZ c107 h
            refine aI ?_
            refine aD ?_
            refine tr1 rfl (eV (aA rfl) yC (zs := [.sl 1 ((([] : List Int)).map aP), .sl 1 ((([] : List (List Int))).map lH)]) rfl rfl rfl rfl (es := [.sl 1 ((([] : List Int)).map aP), .sl 1 ((([] : List (List Int))).map lH)]) rfl) ?_
            refine tr1 rfl (cI (i := 0) rfl rfl rfl rfl rfl Try.sizeOf89 rfl (aA rfl) (Nat.le_of_ble_eq_true rfl) (ds' := (cL (aQ.mk ([] : List Int) ([] : List (List Int))))) rfl) ?_
            refine tr1 rfl (aK (v := .d (.lit (.bool false))) (aA rfl) rfl rfl) ?_
            refine aH ?_
            have h := Option.some.inj h
            subst h
            exact bQ ⟨rfl, _, [.box b2 0 (cL (aQ.mk ([] : List Int) ([] : List (List Int)))), .fam 3 1 vs91 (d_10_90.map fun r => r.map aP), .arr w9 22 1 (vs91.map fun v => [.lit v]), .box b6 0 [.sl 1 (d_0_7_2.map aP), .lit w9], .box b66 0 (aL x64)], .two (.cell 4 89 rfl (i := 0) rfl vA (es := (cL (aQ.mk ([] : List Int) ([] : List (List Int))))) rfl rfl) (.tmp 5 (v := .d (.lit (.bool false))) rfl), .refl _, .same _⟩
           ·have h := aY c107 h
            refine bV ?_
            obtain ⟨x108, h109, h⟩ := bind_some h
            refine dW mix 8 [4, 6, 8, 13, 14, 15, 18, 20] [(196, .d (.lit (pN vs91 r_10_90))), (197, .d (.lit (.int .i64 ((atv_8_81.fdiv (2 ^ (min (IntKind.u64.wrap (w64 (r_10_90 + 1))).toNat 64))))))), (199, .d (.lit (.int .i64 x64.Player)))] ?_ ?_
            ·refine ⟨[(192, 0, .bp b6 0 1), (193, 1, .d (.lit w9)), (194, 2, .d (.lit (.int .i64 r_10_90))), (195, 3, .ep w9 1 r_10_90.toNat 0), (196, 4, .d (.lit (pN vs91 r_10_90))), (197, 5, .d (.lit (.int .i64 ((atv_8_81.fdiv (2 ^ (min (IntKind.u64.wrap (w64 (r_10_90 + 1))).toNat 64))))))), (198, 6, .bp b66 0 3), (199, 7, .d (.lit (.int .i64 x64.Player)))], ?_, ?_⟩
             · exact ⟨by kernel_rfl, by kernel_rfl, by kernel_rfl, by kernel_rfl, by kernel_rfl, [([], []), ([0], []), ([], []), ([1, 2], []), ([3], []), ([], []), ([], []), ([6], [])], by kernel_rfl, ⟨fun S hS => aG rfl (aR rfl (aU (aA rfl) (aF hS rfl) rG)),
      fun S hS => aG rfl (aR rfl (aW (aA rfl) (aF hS rfl) (i := 3) rfl rfl xS)),
      fun S hS => aG rfl (aR rfl (aC (v := .d (.lit (.int .i64 r_10_90))) (aA rfl) (aF hS rfl) rfl)),
      fun S hS => aG rfl (aR rfl (qN (m := 2) (f := 1) (aA rfl) (aF hS rfl) rfl rfl (aF hS rfl) yJ.of h109)),
      fun S hS => aG rfl (aR rfl (rO (m := 2) (f := 1) (aA rfl) (aF hS rfl) rfl rfl h109 cZ)),
      fun S hS => aG rfl (aR rfl (aC (v := .d (.lit (.int .i64 ((atv_8_81.fdiv (2 ^ (min (IntKind.u64.wrap (w64 (r_10_90 + 1))).toNat 64))))))) (aA rfl) (aF hS rfl) rfl)),
      fun S hS => aG rfl (aR rfl (aU (aA rfl) (aF hS rfl) jI)),
      fun S hS => aG rfl (aR rfl (aW (aA rfl) (aF hS rfl) (i := 4) rfl rfl bG)), trivial⟩⟩
             · exact cW (aV rfl (aV rfl (aV rfl (bC ⟨rfl, rfl, rfl, rfl, rfl, rfl, rfl, rfl, trivial⟩))))
            ·obtain ⟨x110, h111, h⟩ := bind_some h
             refine tr1 rfl (rN (f := 1) (g := aP) (aA rfl) rfl rfl h109 rfl bZ.of h111) ?_
             refine tr1 rfl (aFo (f := 1) (g := aP) rfl rfl h109 h111 rfl rfl rfl Try.sizeOf3 rfl (aA rfl) (Nat.le_of_ble_eq_true rfl) (a' := x64.Player) rfl (c' := (d_10_90.set r_10_90.toNat (x108.set (atv_8_81.fdiv (2 ^ (min (IntKind.u64.wrap (w64 (r_10_90 + 1))).toNat 64))).toNat x64.Player))) rfl) ?_
             refine fX ?_
             refine aD ?_
             refine tr1 rfl (aC (v := .d (.lit (.int .i64 r_10_90))) (aA rfl) rfl rfl) ?_
             refine tr1 rfl (bT (aA rfl) rfl rfl rfl) ?_
             refine tr1 rfl (aK (v := .d (.lit (.int .i64 ((w64 (r_10_90 + 1)))))) (aA rfl) rfl rfl) ?_
             refine aH ?_
             exact ⟨(w64 (r_10_90 + 1), o4_10_90, (d_10_90.set r_10_90.toNat (x108.set (atv_8_81.fdiv (2 ^ (min (IntKind.u64.wrap (w64 (r_10_90 + 1))).toNat 64))).toNat x64.Player)), vs91), h, bF [0, 1, 2, 3, 4] rfl rfl (aV rfl (bC ⟨rfl, rfl, rfl, rfl, rfl, rfl, rfl, trivial⟩))⟩
         ·have h := aY c93 h
          refine dD ?_
          refine .inl ⟨rfl, ?_⟩
          simp only [nR] at h
          simp only [iZ] at h
          refine aD ?_
          refine tr1 rfl (aC (v := .d (.lit (.int .i64 i_4_60))) (aA rfl) rfl rfl) ?_
          refine tr1 rfl (bT (aA rfl) rfl rfl rfl) ?_
          refine tr1 rfl (aK (v := .d (.lit (.int .i64 ((w64 (i_4_60 + 1)))))) (aA rfl) rfl rfl) ?_
          refine aH ?_
          exact ⟨(w64 (i_4_60 + 1), o4_10_90, d_10_90, vs91), h, bF [0, 1, 2, 3] rfl rfl (aV rfl (bC ⟨rfl, rfl, rfl, rfl, trivial⟩))⟩
   ·have h := aY c63 h
    refine dD ?_
    refine .inl ⟨rfl, ?_⟩
    simp only [oF] at h
    refine aI ?_
    refine aD ?_
    refine tr1 rfl (bP (aA rfl) rfl (i := 3) rfl vA (es := [.sl 1 (d_0_7_2.map aP), .lit w9]) rfl rfl) ?_
    refine tr1 rfl (cI (i := 0) rfl rfl rfl rfl rfl Try.sizeOf89 rfl (aA rfl) (Nat.le_of_ble_eq_true rfl) (ds' := [.sl 1 (d_0_7_2.map aP), .lit w9]) rfl) ?_
    refine tr1 rfl (aK (v := .d (.lit (.bool true))) (aA rfl) rfl rfl) ?_
    refine aH ?_
    have h := Option.some.inj h
    subst h
    exact bQ ⟨rfl, _, [.box b2 0 [.sl 1 (d_0_7_2.map aP), .lit w9], .fam 3 1 vs61 (d_4_60.map fun r => r.map aP), .arr w9 22 1 (vs61.map fun v => [.lit v]), .box b6 0 [.sl 1 (d_0_7_2.map aP), .lit w9]], .two (.cell 4 89 rfl (i := 0) rfl vA (es := [.sl 1 (d_0_7_2.map aP), .lit w9]) rfl rfl) (.tmp 5 (v := .d (.lit (.bool true))) rfl), .refl _, tH (.cons (.agg (dvc (.same _) (dvc (aMe 2 1 rfl rfl (h := lH) (fun _ => rfl)) dvn))) (.cons (.same _) .nil))⟩

theorem wZ (t_0 : aO) (l_1 : List aE) {r : Int} (h : eQ t_0 l_1 = some r) : Fn Try.prog 29 [.agg (aT t_0), .d (.sl 5 (l_1.map aL))] (.d (.lit (.int .i64 r))) := by
 unfold eQ at h
 refine Fn.of_tr Try.func29 rfl (rs := [.tmp 4]) Try.results29 Try.ntmps29 (Nat.le_of_ble_eq_true rfl) ?_
 refine aI ?_
 refine aD ?_
 refine cB rfl (gD (v := .agg (aT t_0)) (aA rfl) rfl rfl rfl) ?_
 rintro _ ⟨b1, rfl⟩
 refine tr1 rfl (aK (v := .d (.lit (.int .i64 0))) (aA rfl) rfl rfl) ?_
 refine aH ?_
 refine aI ?_
 refine aI ?_
 refine aD ?_
 refine tr1 rfl (bP (aA rfl) rfl (i := 0) rfl dY (es := (aT t_0)) rfl rfl) ?_
 obtain ⟨r2, h3, h⟩ := bind_some h
 refine tr1 rfl (cP (aA rfl) (.func _ _ Try.call53) rfl rfl (BVs.refl _ _) (wP _ h3) rfl) ?_
 refine tr1 rfl (fP (aA rfl) rfl) ?_
 refine aH ?_
 refine bX rfl (fun c4 => ?_) (fun c4 => ?_)
 ·have h := aZ c4 h
  refine aI ?_
  refine aD ?_
  refine tr1 rfl (aK (v := .d (.lit (.int .i64 70))) (aA rfl) rfl rfl) ?_
  refine aH ?_
  have h := Option.some.inj h
  subst h
  refine cR (cO (cV (l := [4]) ⟨rfl, trivial⟩)) ?_
  exact bQ ⟨rfl, _, .one _, rfl, rfl⟩
 ·have h := aY c4 h
  refine bV ?_
  refine aI ?_
  refine aI ?_
  refine aD ?_
  refine tr1 rfl (aC (v := .d (.sl 5 (l_1.map aL))) (aA rfl) rfl rfl) ?_
  refine tr1 rfl (dV (aA rfl) rfl eK.of) ?_
  refine tr1 rfl (bI (aA rfl) rfl rfl rfl) ?_
  refine aH ?_
  refine bX rfl (fun c5 => ?_) (fun c5 => ?_)
  ·have h := aZ c5 h
   refine aI ?_
   refine aD ?_
   refine tr1 rfl (aK (v := .d (.lit (.int .i64 71))) (aA rfl) rfl rfl) ?_
   refine aH ?_
   have h := Option.some.inj h
   subst h
   refine cR (cO (cV (l := [4]) ⟨rfl, trivial⟩)) ?_
   exact bQ ⟨rfl, _, .one _, rfl, rfl⟩
  ·have h := aY c5 h
   refine bV ?_
   refine aI ?_
   refine aI ?_
   refine aD ?_
   refine tr1 rfl (aK (v := .d (.lit (.int .i64 0))) (aA rfl) rfl rfl) ?_
   refine aH ?_
   refine cG ?_
   refine dR [1, 2] (fun (s6 : Int) => [(5, .d (.lit (.int .i64 s6)))]) (fun (s6 : Int) => [.box b1 0 (aT t_0)]) (fun (k : Nat) (s6 : Int) => fI l_1 t_0 k s6) (fun _ => rfl) (0) h (bF [0] rfl rfl (aV rfl (bC ⟨rfl, rfl, trivial⟩))) ?_
   rintro k7 i_0_6 h
   simp only [fI] at h
   refine aI ?_
   refine aI ?_
   refine aD ?_
   refine tr1 rfl (aC (v := .d (.lit (.int .i64 i_0_6))) (aA rfl) rfl rfl) ?_
   refine tr1 rfl (aC (v := .d (.sl 5 (l_1.map aL))) (aA rfl) rfl rfl) ?_
   refine tr1 rfl (dV (aA rfl) rfl eK.of) ?_
   refine tr1 rfl (bI (aA rfl) rfl rfl rfl) ?_
   refine aH ?_
   refine bX rfl (fun c8 => ?_) (fun c8 => ?_)
   ·have h := aZ c8 h
    refine bV ?_
    refine aI ?_
    refine cG ?_
    refine aI ?_
    obtain ⟨x9, h10, h⟩ := bind_some h
    refine dW mix 5 [1, 2, 5] [(20, .agg (aT t_0)), (24, .agg (aL x9))] ?_ ?_
    ·refine ⟨[(20, 0, .agg (aT t_0)), (21, 1, .d (.sl 5 (l_1.map aL))), (22, 2, .d (.lit (.int .i64 i_0_6))), (23, 3, .cp [.lit (.int .i64 x9.Kind), .lit (.int .i64 x9.Round), .lit (.int .i64 x9.Place), .lit (.int .i64 x9.Player), .lit (.int .i64 x9.Old)]), (24, 4, .agg (aL x9))], ?_, ?_⟩
     · exact ⟨by kernel_rfl, by kernel_rfl, by kernel_rfl, by kernel_rfl, by kernel_rfl, [([], []), ([], []), ([], []), ([1, 2], []), ([3], [])], by kernel_rfl, ⟨fun S hS => aG rfl (aR rfl (bP (aA rfl) (aF hS rfl) (i := 0) rfl dY (es := (aT t_0)) rfl rfl)),
      fun S hS => aG rfl (aR rfl (aC (v := .d (.sl 5 (l_1.map aL))) (aA rfl) (aF hS rfl) rfl)),
      fun S hS => aG rfl (aR rfl (aC (v := .d (.lit (.int .i64 i_0_6))) (aA rfl) (aF hS rfl) rfl)),
      fun S hS => aG rfl (aR rfl (bL (aA rfl) (aF hS rfl) (aF hS rfl) eK.of (bW aL h10))),
      fun S hS => aG rfl (aR rfl (kE (aA rfl) (aF hS rfl) jS (es := (aL x9)) rfl rfl)), trivial⟩⟩
     · exact cW (aV rfl (aV rfl (bC ⟨rfl, rfl, rfl, trivial⟩)))
    ·obtain ⟨r11, h12, h⟩ := bind_some h
     refine tr1 rfl (cP (aA rfl) (.func _ _ Try.call54) rfl rfl (BVs.refl _ _) (wQ _ _ h12) rfl) ?_
     refine tr1 rfl (fP (aA rfl) rfl) ?_
     refine aH ?_
     refine bX rfl (fun c13 => ?_) (fun c13 => ?_)
     ·have h := aZ c13 h
      refine aI ?_
      refine aD ?_
      refine tr1 rfl (aK (v := .d (.lit (.int .i64 71))) (aA rfl) rfl rfl) ?_
      refine aH ?_
      have h := Option.some.inj h
      subst h
      refine cR (cO (cV (l := [4]) ⟨rfl, trivial⟩)) ?_
      exact bQ ⟨rfl, _, .one _, rfl, rfl⟩
     ·have h := aY c13 h
      refine eM ?_
      refine aD ?_
      refine tr1 rfl (aC (v := .d (.lit (.int .i64 i_0_6))) (aA rfl) rfl rfl) ?_
      refine tr1 rfl (bT (aA rfl) rfl rfl rfl) ?_
      refine tr1 rfl (aK (v := .d (.lit (.int .i64 ((w64 (i_0_6 + 1)))))) (aA rfl) rfl rfl) ?_
      refine aH ?_
      exact ⟨(w64 (i_0_6 + 1)), h, bF [0] rfl rfl (aV rfl (bC ⟨rfl, rfl, trivial⟩))⟩
   ·have h := aY c8 h
    refine dD ?_
    refine .inl ⟨rfl, ?_⟩
    simp only [iF] at h
    refine aI ?_
    refine aI ?_
    refine aD ?_
    refine tr1 rfl (bP (aA rfl) rfl (i := 0) rfl dY (es := (aT t_0)) rfl rfl) ?_
    refine tr1 rfl (aC (v := .d (.sl 5 (l_1.map aL))) (aA rfl) rfl rfl) ?_
    obtain ⟨r14, h15, h⟩ := bind_some h
    refine tr1 rfl (fW (aA rfl) (.func _ _ Try.call55) rfl rfl (yP _ _ h15)) ?_
    refine tr1 rfl (aC (v := .tup [.agg (cL r14.1), .d (.lit (.bool r14.2))]) (aA rfl) rfl rfl) ?_
    refine tr1 rfl (bN (aA rfl) rfl rfl) ?_
    refine tr1 rfl (bN (aA rfl) rfl rfl) ?_
    refine cB rfl (dX (zs := [.sl 1 ((([] : List Int)).map aP), .sl 1 ((([] : List (List Int))).map lH)]) (aA rfl) Try.zeroValue89 rfl rfl) ?_
    rintro _ ⟨b16, rfl⟩
    refine tr1 rfl (cI (i := 1) rfl rfl rfl rfl rfl Try.sizeOf89 rfl (aA rfl) (Nat.le_of_ble_eq_true rfl) (ds' := (cL r14.1)) rfl) ?_
    refine tr1 rfl (aK (v := .d (.lit (.bool r14.2))) (aA rfl) rfl rfl) ?_
    refine aH ?_
    refine aI ?_
    refine aD ?_
    refine tr1 rfl (aC (v := .d (.lit (.bool r14.2))) (aA rfl) rfl rfl) ?_
    refine tr1 rfl (fP (aA rfl) rfl) ?_
    refine aH ?_
    refine bX rfl (fun c17 => ?_) (fun c17 => ?_)
    ·have h := aZ c17 h
     refine aI ?_
     refine aD ?_
     refine tr1 rfl (aK (v := .d (.lit (.int .i64 72))) (aA rfl) rfl rfl) ?_
     refine aH ?_
     have h := Option.some.inj h
     subst h
     refine cR (cO (cV (l := [4]) ⟨rfl, trivial⟩)) ?_
     exact bQ ⟨rfl, _, .one _, rfl, rfl⟩
    ·have h := aY c17 h
     refine bV ?_
     refine aI ?_
     refine aD ?_
     refine tr1 rfl (aK (v := .d (.lit (.int .i64 0))) (aA rfl) rfl rfl) ?_
     refine aH ?_
     have h := Option.some.inj h
     subst h
     refine cR (cO (cV (l := [4]) ⟨rfl, trivial⟩)) ?_
     exact bQ ⟨rfl, _, .one _, rfl, rfl⟩

theorem uD (a0 : aO) (a1 : List aE) {r : (List bO) × Int} (h : lU a0 a1 = some r) : Fn Try.prog 30 [.agg (aT a0), .d (.sl 5 (a1.map aL))] ((fun x : (List bO) × Int => .tup [.d (.sl 4 (x.1.map bH)), .d (.lit (.int .i64 x.2))]) r) := tM (enc := fun x : (List bO) × Int => .tup [.d (.sl 4 (x.1.map bH)), .d (.lit (.int .i64 x.2))]) (zZ a0 a1 (yN a0 a1 h (fun x => x = r) rfl))

theorem aCq (a0 : aO) (a1 : List aE) (a2 : Int) (a3 : Int) {r : (List Int) × Int} (h : sI a0 a1 a2 a3 = some r) : Fn Try.prog 15 [.agg (aT a0), .d (.sl 5 (a1.map aL)), .d (.lit (.int .i64 a2)), .d (.lit (.int .i64 a3))] ((fun x : (List Int) × Int => .tup [.d (.sl 1 (x.1.map aP)), .d (.lit (.int .i64 x.2))]) r) := tM (enc := fun x : (List Int) × Int => .tup [.d (.sl 1 (x.1.map aP)), .d (.lit (.int .i64 x.2))]) (aCp a0 a1 a2 a3 (aAa a0 a1 a2 a3 h (fun x => x = r) rfl))

theorem aBm (a0 : aO) (a1 : List aE) {r : Int × Int} (h : rB a0 a1 = some r) : Fn Try.prog 34 [.agg (aT a0), .d (.sl 5 (a1.map aL))] ((fun x : Int × Int => .tup [.d (.lit (.int .i64 x.1)), .d (.lit (.int .i64 x.2))]) r) := tM (enc := fun x : Int × Int => .tup [.d (.lit (.int .i64 x.1)), .d (.lit (.int .i64 x.2))]) (aBl a0 a1 (zD a0 a1 h (fun x => x = r) rfl))

theorem mI (a0 : aO) (a1 : List aE) (a2 : Int) {r : dN × Int} (h : iC a0 a1 a2 = some r) : Fn Try.prog 17 [.agg (aT a0), .d (.sl 5 (a1.map aL)), .d (.lit (.int .i64 a2))] ((fun x : dN × Int => .tup [.agg (dJ x.1), .d (.lit (.int .i64 x.2))]) r) := tM (enc := fun x : dN × Int => .tup [.agg (dJ x.1), .d (.lit (.int .i64 x.2))]) (yO a0 a1 a2 (wO a0 a1 a2 h (fun x => x = r) rfl))

theorem kG {r : Bool} (h : gV = some r) : Fn Try.prog 14 [] (.d (.lit (.bool r))) := by
 unfold gV at h
 refine Fn.of_tr Try.func14 rfl (rs := [.tmp 0]) Try.results14 Try.ntmps14 (Nat.le_of_ble_eq_true rfl) ?_
 refine aI ?_
 refine aD ?_
 refine tr1 rfl (aK (v := .d (.lit (.bool false))) (aA rfl) rfl rfl) ?_
 refine aH ?_
 refine aI ?_
 refine aD ?_
 obtain ⟨r1, h2, h⟩ := bind_some h
 refine tr1 rfl (fW (aA rfl) (.func _ _ Try.call43) rfl rfl (vR h2)) ?_
 refine tr1 rfl (aC (v := .tup [.agg (aT r1.1), .d (.sl 5 (r1.2.map aL))]) (aA rfl) rfl rfl) ?_
 refine tr1 rfl (bN (aA rfl) rfl rfl) ?_
 refine tr1 rfl (bN (aA rfl) rfl rfl) ?_
 refine cB rfl (dX (zs := [.lit (.int .i64 0), .sl 1 ((([] : List Int)).map aP)]) (aA rfl) Try.zeroValue24 rfl rfl) ?_
 rintro _ ⟨b3, rfl⟩
 refine tr1 rfl (cI (i := 0) rfl rfl rfl rfl rfl Try.sizeOf24 rfl (aA rfl) (Nat.le_of_ble_eq_true rfl) (ds' := (aT r1.1)) rfl) ?_
 refine tr1 rfl (aK (v := .d (.sl 5 (r1.2.map aL))) (aA rfl) rfl rfl) ?_
 refine aH ?_
 refine aI ?_
 refine aD ?_
 refine tr1 rfl (bP (aA rfl) rfl (i := 0) rfl dY (es := (aT r1.1)) rfl rfl) ?_
 refine tr1 rfl (aC (v := .d (.sl 5 (r1.2.map aL))) (aA rfl) rfl rfl) ?_
 obtain ⟨r4, h5, h⟩ := bind_some h
 refine tr1 rfl (fW (aA rfl) (.func _ _ Try.call30) rfl rfl (uD _ _ h5)) ?_
 refine tr1 rfl (aC (v := .tup [.d (.sl 4 (r4.1.map bH)), .d (.lit (.int .i64 r4.2))]) (aA rfl) rfl rfl) ?_
 refine tr1 rfl (bN (aA rfl) rfl rfl) ?_
 refine tr1 rfl (bN (aA rfl) rfl rfl) ?_
 refine tr1 rfl (aK (v := .d (.sl 4 (r4.1.map bH))) (aA rfl) rfl rfl) ?_
 refine tr1 rfl (aK (v := .d (.lit (.int .i64 r4.2))) (aA rfl) rfl rfl) ?_
 refine aH ?_
 refine aI ?_
 refine aD ?_
 refine tr1 rfl (bP (aA rfl) rfl (i := 0) rfl dY (es := (aT r1.1)) rfl rfl) ?_
 refine tr1 rfl (aC (v := .d (.sl 5 (r1.2.map aL))) (aA rfl) rfl rfl) ?_
 obtain ⟨r6, h7, h⟩ := bind_some h
 refine tr1 rfl (fW (aA rfl) (.func _ _ Try.call15) rfl rfl (aCq _ _ _ _ h7)) ?_
 refine tr1 rfl (aC (v := .tup [.d (.sl 1 (r6.1.map aP)), .d (.lit (.int .i64 r6.2))]) (aA rfl) rfl rfl) ?_
 refine tr1 rfl (bN (aA rfl) rfl rfl) ?_
 refine tr1 rfl (bN (aA rfl) rfl rfl) ?_
 refine tr1 rfl (aK (v := .d (.sl 1 (r6.1.map aP))) (aA rfl) rfl rfl) ?_
 refine tr1 rfl (aK (v := .d (.lit (.int .i64 r6.2))) (aA rfl) rfl rfl) ?_
 refine aH ?_
 refine aI ?_
 refine aD ?_
 refine tr1 rfl (bP (aA rfl) rfl (i := 0) rfl dY (es := (aT r1.1)) rfl rfl) ?_
 refine tr1 rfl (aC (v := .d (.sl 5 (r1.2.map aL))) (aA rfl) rfl rfl) ?_
 obtain ⟨r8, h9, h⟩ := bind_some h
 refine tr1 rfl (cP (aA rfl) (.func _ _ Try.call34) rfl rfl (BVs.refl _ _) (aBm _ _ h9) rfl) ?_
 refine tr1 rfl (aC (v := .tup [.d (.lit (.int .i64 r8.1)), .d (.lit (.int .i64 r8.2))]) (aA rfl) rfl rfl) ?_
 refine tr1 rfl (bN (aA rfl) rfl rfl) ?_
 refine tr1 rfl (bN (aA rfl) rfl rfl) ?_
 refine tr1 rfl (aK (v := .d (.lit (.int .i64 r8.1))) (aA rfl) rfl rfl) ?_
 refine tr1 rfl (aK (v := .d (.lit (.int .i64 r8.2))) (aA rfl) rfl rfl) ?_
 refine aH ?_
 refine aI ?_
 refine aD ?_
 refine tr1 rfl (bP (aA rfl) rfl (i := 0) rfl dY (es := (aT r1.1)) rfl rfl) ?_
 refine tr1 rfl (aC (v := .d (.sl 5 (r1.2.map aL))) (aA rfl) rfl rfl) ?_
 obtain ⟨r10, h11, h⟩ := bind_some h
 refine tr1 rfl (fW (aA rfl) (.func _ _ Try.call17) rfl rfl (mI _ _ _ h11)) ?_
 refine tr1 rfl (aC (v := .tup [.agg (dJ r10.1), .d (.lit (.int .i64 r10.2))]) (aA rfl) rfl rfl) ?_
 refine tr1 rfl (bN (aA rfl) rfl rfl) ?_
 refine tr1 rfl (bN (aA rfl) rfl rfl) ?_
 refine cB rfl (dX (zs := [.lit (.int .i64 0), .lit (.int .i64 0)]) (aA rfl) Try.zeroValue39 rfl rfl) ?_
 rintro _ ⟨b12, rfl⟩
 refine tr1 rfl (cI (i := 1) rfl rfl rfl rfl rfl Try.sizeOf39 rfl (aA rfl) (Nat.le_of_ble_eq_true rfl) (ds' := (dJ r10.1)) rfl) ?_
 refine tr1 rfl (aK (v := .d (.lit (.int .i64 r10.2))) (aA rfl) rfl rfl) ?_
 refine aH ?_
 refine aI ?_
 refine aD ?_
 refine tr1 rfl (aC (v := .d (.lit (.int .i64 r4.2))) (aA rfl) rfl rfl) ?_
 refine tr1 rfl (bI (aA rfl) rfl rfl rfl) ?_
 refine tr1 rfl (aC (v := .d (.lit (.bool ((decide (r4.2 = 0)))))) (aA rfl) rfl rfl) ?_
 obtain ⟨b13, h14, h⟩ := bind_some h
 refine cE 3 [3, 5, 7, 8, 9, 10] 44 b13 ?_ ?_
 ·refine bJ (decide (r4.2 = 0)) (fun c45 => ?_) (fun c45 => ?_)
  ·have h14 := aZ c45 h14
   refine aM rfl rfl (aA rfl) rfl c45 (aC (v := .d (.lit (.int .i64 r6.2))) (aA rfl) rfl rfl) ?_
   refine aM rfl rfl (aA rfl) rfl c45 (bI (aA rfl) rfl rfl rfl) ?_
   refine tr1 rfl (bU (v := .d (.lit (.bool ((decide (r6.2 = 0)))))) (aA rfl) rfl c45 rfl rfl) ?_
   have h14 := Option.some.inj h14
   subst h14
   refine aH (bD rfl ⟨rfl, rfl, rfl, rfl, rfl, rfl, trivial⟩ rfl)
  ·have h14 := aY c45 h14
   refine aN rfl rfl (aA rfl) rfl (aA rfl) rfl c45 ?_
   refine aN rfl rfl (aA rfl) rfl (aA rfl) rfl c45 ?_
   refine tr1 rfl (bS (v := .d (.lit (.bool false))) (aA rfl) rfl c45 rfl rfl) ?_
   have h14 := Option.some.inj h14
   subst h14
   refine aH (bD rfl ⟨rfl, rfl, rfl, rfl, rfl, rfl, trivial⟩ rfl)
 ·refine tr1 rfl (aC (v := .d (.lit (.bool b13))) (aA rfl) rfl rfl) ?_
  obtain ⟨b15, h16, h⟩ := bind_some h
  refine cE 3 [3, 5, 7, 9, 10] 48 b15 ?_ ?_
  ·refine bJ (b13) (fun c44 => ?_) (fun c44 => ?_)
   ·have h16 := aZ c44 h16
    refine aM rfl rfl (aA rfl) rfl c44 (aC (v := .d (.lit (.int .i64 r8.2))) (aA rfl) rfl rfl) ?_
    refine aM rfl rfl (aA rfl) rfl c44 (bI (aA rfl) rfl rfl rfl) ?_
    refine tr1 rfl (bU (v := .d (.lit (.bool ((decide (r8.2 = 0)))))) (aA rfl) rfl c44 rfl rfl) ?_
    have h16 := Option.some.inj h16
    subst h16
    refine aH (bD rfl ⟨rfl, rfl, rfl, rfl, rfl, trivial⟩ rfl)
   ·have h16 := aY c44 h16
    refine aN rfl rfl (aA rfl) rfl (aA rfl) rfl c44 ?_
    refine aN rfl rfl (aA rfl) rfl (aA rfl) rfl c44 ?_
    refine tr1 rfl (bS (v := .d (.lit (.bool false))) (aA rfl) rfl c44 rfl rfl) ?_
    have h16 := Option.some.inj h16
    subst h16
    refine aH (bD rfl ⟨rfl, rfl, rfl, rfl, rfl, trivial⟩ rfl)
  ·refine tr1 rfl (aC (v := .d (.lit (.bool b15))) (aA rfl) rfl rfl) ?_
   obtain ⟨b17, h18, h⟩ := bind_some h
   refine cE 3 [3, 5, 7, 9] 52 b17 ?_ ?_
   ·refine bJ (b15) (fun c43 => ?_) (fun c43 => ?_)
    ·have h18 := aZ c43 h18
     refine aM rfl rfl (aA rfl) rfl c43 (aC (v := .d (.lit (.int .i64 r10.2))) (aA rfl) rfl rfl) ?_
     refine aM rfl rfl (aA rfl) rfl c43 (bI (aA rfl) rfl rfl rfl) ?_
     refine tr1 rfl (bU (v := .d (.lit (.bool ((decide (r10.2 = 0)))))) (aA rfl) rfl c43 rfl rfl) ?_
     have h18 := Option.some.inj h18
     subst h18
     refine aH (bD rfl ⟨rfl, rfl, rfl, rfl, trivial⟩ rfl)
    ·have h18 := aY c43 h18
     refine aN rfl rfl (aA rfl) rfl (aA rfl) rfl c43 ?_
     refine aN rfl rfl (aA rfl) rfl (aA rfl) rfl c43 ?_
     refine tr1 rfl (bS (v := .d (.lit (.bool false))) (aA rfl) rfl c43 rfl rfl) ?_
     have h18 := Option.some.inj h18
     subst h18
     refine aH (bD rfl ⟨rfl, rfl, rfl, rfl, trivial⟩ rfl)
   ·refine tr1 rfl (aC (v := .d (.lit (.bool b17))) (aA rfl) rfl rfl) ?_
    obtain ⟨b19, h20, h⟩ := bind_some h
    refine cE 4 [3, 5, 7, 9] 57 b19 ?_ ?_
    ·refine bJ (b17) (fun c42 => ?_) (fun c42 => ?_)
     ·have h20 := aZ c42 h20
      refine aM rfl rfl (aA rfl) rfl c42 (aC (v := .d (.sl 4 (r4.1.map bH))) (aA rfl) rfl rfl) ?_
      refine aM rfl rfl (aA rfl) rfl c42 (dV (aA rfl) rfl kT.of) ?_
      refine aM rfl rfl (aA rfl) rfl c42 (bI (aA rfl) rfl rfl rfl) ?_
      refine tr1 rfl (bU (v := .d (.lit (.bool ((decide ((r4.1.length : Int) = 7)))))) (aA rfl) rfl c42 rfl rfl) ?_
      have h20 := Option.some.inj h20
      subst h20
      refine aH (bD rfl ⟨rfl, rfl, rfl, rfl, trivial⟩ rfl)
     ·have h20 := aY c42 h20
      refine aN rfl rfl (aA rfl) rfl (aA rfl) rfl c42 ?_
      refine aN rfl rfl (aA rfl) rfl (aA rfl) rfl c42 ?_
      refine aN rfl rfl (aA rfl) rfl (aA rfl) rfl c42 ?_
      refine tr1 rfl (bS (v := .d (.lit (.bool false))) (aA rfl) rfl c42 rfl rfl) ?_
      have h20 := Option.some.inj h20
      subst h20
      refine aH (bD rfl ⟨rfl, rfl, rfl, rfl, trivial⟩ rfl)
    ·refine tr1 rfl (aC (v := .d (.lit (.bool b19))) (aA rfl) rfl rfl) ?_
     obtain ⟨b21, h22, h⟩ := bind_some h
     refine cE 6 [3, 5, 7, 9] 64 b21 ?_ ?_
     ·refine bJ (b19) (fun c39 => ?_) (fun c39 => ?_)
      ·have h22 := aZ c39 h22
       refine aM rfl rfl (aA rfl) rfl c39 (aC (v := .d (.sl 4 (r4.1.map bH))) (aA rfl) rfl rfl) ?_
       obtain ⟨x40, h41, h22⟩ := bind_some h22
       refine aM rfl rfl (aA rfl) rfl c39 (bL (aA rfl) rfl rfl kT.of (bW bH h41)) ?_
       refine aM rfl rfl (aA rfl) rfl c39 (kE (aA rfl) rfl aDa (es := (bH x40)) rfl rfl) ?_
       refine aM rfl rfl (aA rfl) rfl c39 (eV (aA rfl) aEl (zs := [.lit (.int .i64 0), .lit (.int .i64 0), .lit (.int .i64 0), .lit (.int .i64 0)]) rfl rfl rfl rfl (es := [.lit (.int .i64 1), .lit (.int .i64 0), .lit (.int .i64 1), .lit (.int .i64 2)]) rfl) ?_
       refine aM rfl rfl (aA rfl) rfl c39 (wH (a := x40) (b := (bO.mk 1 0 1 2)) (aA rfl) rfl rfl rfl rfl Try.eqGuardType57 aIh) ?_
       refine tr1 rfl (bU (v := .d (.lit (.bool ((decide (x40 = (bO.mk 1 0 1 2))))))) (aA rfl) rfl c39 rfl rfl) ?_
       have h22 := Option.some.inj h22
       subst h22
       refine aH (bD rfl ⟨rfl, rfl, rfl, rfl, trivial⟩ rfl)
      ·have h22 := aY c39 h22
       refine aN rfl rfl (aA rfl) rfl (aA rfl) rfl c39 ?_
       refine aN rfl rfl (aA rfl) rfl (aA rfl) rfl c39 ?_
       refine aN rfl rfl (aA rfl) rfl (aA rfl) rfl c39 ?_
       refine aN rfl rfl (aA rfl) rfl (aA rfl) rfl c39 ?_
       refine aN rfl rfl (aA rfl) rfl (aA rfl) rfl c39 ?_
       refine tr1 rfl (bS (v := .d (.lit (.bool false))) (aA rfl) rfl c39 rfl rfl) ?_
       have h22 := Option.some.inj h22
       subst h22
       refine aH (bD rfl ⟨rfl, rfl, rfl, rfl, trivial⟩ rfl)
     ·refine tr1 rfl (aC (v := .d (.lit (.bool b21))) (aA rfl) rfl rfl) ?_
      obtain ⟨b23, h24, h⟩ := bind_some h
      refine cE 6 [5, 7, 9] 71 b23 ?_ ?_
      ·refine bJ (b21) (fun c36 => ?_) (fun c36 => ?_)
       ·have h24 := aZ c36 h24
        refine aM rfl rfl (aA rfl) rfl c36 (aC (v := .d (.sl 4 (r4.1.map bH))) (aA rfl) rfl rfl) ?_
        obtain ⟨x37, h38, h24⟩ := bind_some h24
        refine aM rfl rfl (aA rfl) rfl c36 (bL (aA rfl) rfl rfl kT.of (bW bH h38)) ?_
        refine aM rfl rfl (aA rfl) rfl c36 (kE (aA rfl) rfl aDa (es := (bH x37)) rfl rfl) ?_
        refine aM rfl rfl (aA rfl) rfl c36 (eV (aA rfl) aEl (zs := [.lit (.int .i64 0), .lit (.int .i64 0), .lit (.int .i64 0), .lit (.int .i64 0)]) rfl rfl rfl rfl (es := [.lit (.int .i64 2), .lit (.int .i64 0), .lit (.int .i64 2), .lit (.int .i64 (-2))]) rfl) ?_
        refine aM rfl rfl (aA rfl) rfl c36 (wH (a := x37) (b := (bO.mk 2 0 2 (-2))) (aA rfl) rfl rfl rfl rfl Try.eqGuardType57 aIh) ?_
        refine tr1 rfl (bU (v := .d (.lit (.bool ((decide (x37 = (bO.mk 2 0 2 (-2)))))))) (aA rfl) rfl c36 rfl rfl) ?_
        have h24 := Option.some.inj h24
        subst h24
        refine aH (bD rfl ⟨rfl, rfl, rfl, trivial⟩ rfl)
       ·have h24 := aY c36 h24
        refine aN rfl rfl (aA rfl) rfl (aA rfl) rfl c36 ?_
        refine aN rfl rfl (aA rfl) rfl (aA rfl) rfl c36 ?_
        refine aN rfl rfl (aA rfl) rfl (aA rfl) rfl c36 ?_
        refine aN rfl rfl (aA rfl) rfl (aA rfl) rfl c36 ?_
        refine aN rfl rfl (aA rfl) rfl (aA rfl) rfl c36 ?_
        refine tr1 rfl (bS (v := .d (.lit (.bool false))) (aA rfl) rfl c36 rfl rfl) ?_
        have h24 := Option.some.inj h24
        subst h24
        refine aH (bD rfl ⟨rfl, rfl, rfl, trivial⟩ rfl)
      ·refine tr1 rfl (aC (v := .d (.lit (.bool b23))) (aA rfl) rfl rfl) ?_
       obtain ⟨b25, h26, h⟩ := bind_some h
       refine cE 4 [7, 9] 76 b25 ?_ ?_
       ·refine bJ (b23) (fun c33 => ?_) (fun c33 => ?_)
        ·have h26 := aZ c33 h26
         refine aM rfl rfl (aA rfl) rfl c33 (aC (v := .d (.sl 1 (r6.1.map aP))) (aA rfl) rfl rfl) ?_
         refine aM rfl rfl (aA rfl) rfl c33 (fN (aA rfl) bZ rfl rfl (rows := ([2, 5, 7, 8]).map aP) rfl (dF (f := aP) fun _ => rfl) rfl (by decide)) ?_
         obtain ⟨r34, h35, h26⟩ := bind_some h26
         refine aM rfl rfl (aA rfl) rfl c33 (cP (aA rfl) (.func _ _ Try.call23) rfl rfl (BVs.refl _ _) (vD _ _ h35) rfl) ?_
         refine tr1 rfl (bU (v := .d (.lit (.bool r34))) (aA rfl) rfl c33 rfl rfl) ?_
         have h26 := Option.some.inj h26
         subst h26
         refine aH (bD rfl ⟨rfl, rfl, trivial⟩ rfl)
        ·have h26 := aY c33 h26
         refine aN rfl rfl (aA rfl) rfl (aA rfl) rfl c33 ?_
         refine aN rfl rfl (aA rfl) rfl (aA rfl) rfl c33 ?_
         refine aN rfl rfl (aA rfl) rfl (aA rfl) rfl c33 ?_
         refine tr1 rfl (bS (v := .d (.lit (.bool false))) (aA rfl) rfl c33 rfl rfl) ?_
         have h26 := Option.some.inj h26
         subst h26
         refine aH (bD rfl ⟨rfl, rfl, trivial⟩ rfl)
       ·refine tr1 rfl (aC (v := .d (.lit (.bool b25))) (aA rfl) rfl rfl) ?_
        obtain ⟨b27, h28, h⟩ := bind_some h
        refine cE 3 [9] 80 b27 ?_ ?_
        ·refine bJ (b25) (fun c32 => ?_) (fun c32 => ?_)
         ·have h28 := aZ c32 h28
          refine aM rfl rfl (aA rfl) rfl c32 (aC (v := .d (.lit (.int .i64 r8.1))) (aA rfl) rfl rfl) ?_
          refine aM rfl rfl (aA rfl) rfl c32 (bI (aA rfl) rfl rfl rfl) ?_
          refine tr1 rfl (bU (v := .d (.lit (.bool ((decide (r8.1 = 3)))))) (aA rfl) rfl c32 rfl rfl) ?_
          have h28 := Option.some.inj h28
          subst h28
          refine aH (bD rfl ⟨rfl, trivial⟩ rfl)
         ·have h28 := aY c32 h28
          refine aN rfl rfl (aA rfl) rfl (aA rfl) rfl c32 ?_
          refine aN rfl rfl (aA rfl) rfl (aA rfl) rfl c32 ?_
          refine tr1 rfl (bS (v := .d (.lit (.bool false))) (aA rfl) rfl c32 rfl rfl) ?_
          have h28 := Option.some.inj h28
          subst h28
          refine aH (bD rfl ⟨rfl, trivial⟩ rfl)
        ·refine tr1 rfl (aC (v := .d (.lit (.bool b27))) (aA rfl) rfl rfl) ?_
         obtain ⟨b29, h30, h⟩ := bind_some h
         refine cE 4 [] 85 b29 ?_ ?_
         ·refine bJ (b27) (fun c31 => ?_) (fun c31 => ?_)
          ·have h30 := aZ c31 h30
           refine aM rfl rfl (aA rfl) rfl c31 (bP (aA rfl) rfl (i := 1) rfl uZ (es := (dJ r10.1)) rfl rfl) ?_
           refine aM rfl rfl (aA rfl) rfl c31 (eV (aA rfl) aBg (zs := [.lit (.int .i64 0), .lit (.int .i64 0)]) rfl rfl rfl rfl (es := [.lit (.int .i64 2), .lit (.int .i64 3)]) rfl) ?_
           refine aM rfl rfl (aA rfl) rfl c31 (wH (a := r10.1) (b := (dN.mk 2 3)) (aA rfl) rfl rfl rfl rfl Try.eqGuardType39 aIg) ?_
           refine tr1 rfl (bU (v := .d (.lit (.bool ((decide (r10.1 = (dN.mk 2 3))))))) (aA rfl) rfl c31 rfl rfl) ?_
           have h30 := Option.some.inj h30
           subst h30
           refine aH (bD rfl trivial rfl)
          ·have h30 := aY c31 h30
           refine aN rfl rfl (aA rfl) rfl (aA rfl) rfl c31 ?_
           refine aN rfl rfl (aA rfl) rfl (aA rfl) rfl c31 ?_
           refine aN rfl rfl (aA rfl) rfl (aA rfl) rfl c31 ?_
           refine tr1 rfl (bS (v := .d (.lit (.bool false))) (aA rfl) rfl c31 rfl rfl) ?_
           have h30 := Option.some.inj h30
           subst h30
           refine aH (bD rfl trivial rfl)
         ·refine tr1 rfl (aK (v := .d (.lit (.bool b29))) (aA rfl) rfl rfl) ?_
          refine aH ?_
          have h := Option.some.inj h
          subst h
          refine cR (cO (cV (l := [0]) ⟨rfl, trivial⟩)) ?_
          exact bQ ⟨rfl, _, .one _, rfl, rfl⟩

theorem zE (t_0 : aO) (l_1 : List aE) (round_2 : Int) (place_3 : Int) {Q : (Int × Int) → Prop} (h : mJ t_0 l_1 round_2 place_3 Q) : eW Try.prog 20 [.agg (aT t_0), .d (.sl 5 (l_1.map aL)), .d (.lit (.int .i64 round_2)), .d (.lit (.int .i64 place_3))] [] (fun r' o' => ∃ (r : Int × Int), Q r ∧ r' = .tup [.d (.lit (.int .i64 r.1)), .d (.lit (.int .i64 r.2))] ∧ o' = []) := by
 unfold mJ at h
 refine gO Try.func20 rfl (rs := [.tmp 8, .tmp 9]) Try.results20 Try.ntmps20 (Nat.le_of_ble_eq_true rfl) ?_
 refine aI ?_
 refine aD ?_
 refine cB rfl (gD (v := .agg (aT t_0)) (aA rfl) rfl rfl rfl) ?_
 rintro _ ⟨b1, rfl⟩
 refine tr1 rfl (aK (v := .d (.lit (.int .i64 0))) (aA rfl) rfl rfl) ?_
 refine tr1 rfl (aK (v := .d (.lit (.int .i64 0))) (aA rfl) rfl rfl) ?_
 refine aH ?_
 refine aI ?_
 refine aD ?_
 refine tr1 rfl (bP (aA rfl) rfl (i := 0) rfl dY (es := (aT t_0)) rfl rfl) ?_
 refine tr1 rfl (aC (v := .d (.sl 5 (l_1.map aL))) (aA rfl) rfl rfl) ?_
 refine tr1 rfl (aC (v := .d (.lit (.int .i64 round_2))) (aA rfl) rfl rfl) ?_
 refine tr1 rfl (aC (v := .d (.lit (.int .i64 place_3))) (aA rfl) rfl rfl) ?_
 refine cB rfl (nM (aA rfl) (.func _ _ Try.call44) rfl rfl (wV _ _ _ _ h)) ?_
 rintro _ ⟨_, _, ⟨r2, h, rfl, rfl⟩, rfl⟩
 refine tr1 rfl (aC (v := .tup [cN aX r2.1, .agg (aJ r2.2.1), .d (.lit (.int .i64 r2.2.2))]) (aA rfl) rfl rfl) ?_
 refine tr1 rfl (bN (aA rfl) rfl rfl) ?_
 refine tr1 rfl (bN (aA rfl) rfl rfl) ?_
 refine tr1 rfl (bN (aA rfl) rfl rfl) ?_
 refine cB rfl (dX (zs := [.lit (.int .i64 0), .lit (.int .i64 0)]) (aA rfl) Try.zeroValue70 rfl rfl) ?_
 rintro _ ⟨b3, rfl⟩
 refine tr1 rfl (aK (v := cN aX r2.1) (aA rfl) rfl rfl) ?_
 refine tr1 rfl (cI (i := 1) rfl rfl rfl rfl rfl Try.sizeOf70 rfl (aA rfl) (Nat.le_of_ble_eq_true rfl) (ds' := (aJ r2.2.1)) rfl) ?_
 refine tr1 rfl (aK (v := .d (.lit (.int .i64 r2.2.2))) (aA rfl) rfl rfl) ?_
 refine aH ?_
 refine aI ?_
 refine aI ?_
 refine aD ?_
 refine tr1 rfl (aC (v := .d (.lit (.int .i64 r2.2.2))) (aA rfl) rfl rfl) ?_
 refine tr1 rfl (bI (aA rfl) rfl rfl rfl) ?_
 refine aH ?_
 refine bX rfl (fun c4 => ?_) (fun c4 => ?_)
 ·have h := eH c4 h
  refine aI ?_
  refine aD ?_
  refine tr1 rfl (aC (v := .d (.lit (.int .i64 r2.2.2))) (aA rfl) rfl rfl) ?_
  refine tr1 rfl (aK (v := .d (.lit (.int .i64 0))) (aA rfl) rfl rfl) ?_
  refine tr1 rfl (aK (v := .d (.lit (.int .i64 r2.2.2))) (aA rfl) rfl rfl) ?_
  refine aH ?_
  exact bQ ⟨rfl, _, [], [.box b1 0 (aT t_0), .box b3 0 (aJ r2.2.1)], _, .two (.tmp 8 (v := .d (.lit (.int .i64 0))) rfl) (.tmp 9 (v := .d (.lit (.int .i64 r2.2.2))) rfl), .refl _, .same _, (0, r2.2.2), h, rfl, rfl⟩
 ·have h := eG c4 h
  refine bV ?_
  refine aI ?_
  obtain ⟨x5, h6, h⟩ := dE h
  refine dW mix 10 [] [(13, .d (.lit (.int .i64 ((cH r2.2.1 0 x5.won))))), (35, .d (.lit (.bool ((cQ r2.2.1 x5.won)))))] ?_ ?_
  ·refine ⟨[(28, 0, cN aX r2.1), (29, 1, .cp [.lit (.int .i64 x5.Tree.Rounds), .sl 1 (x5.Tree.Slots.map aP), .sl 1 (x5.players.map aP), .mp false (x5.won.map fun p : aB × Int => ((fun a : aB => Value.agg ((aJ a).map bK).toArray) p.1, aP p.2))]), (30, 2, .cp [.mp false (x5.won.map fun p : aB × Int => ((fun a : aB => Value.agg ((aJ a).map bK).toArray) p.1, aP p.2))]), (31, 3, .d (.mp false (x5.won.map fun p : aB × Int => ((fun a : aB => Value.agg ((aJ a).map bK).toArray) p.1, aP p.2)))), (32, 4, .agg (aJ r2.2.1)), (33, 5, .tup [.d (.lit (.int .i64 ((cH r2.2.1 0 x5.won)))), .d (.lit (.bool ((cQ r2.2.1 x5.won))))]), (27, 6, .tup [.d (.lit (.int .i64 ((cH r2.2.1 0 x5.won)))), .d (.lit (.bool ((cQ r2.2.1 x5.won))))]), (34, 7, .d (.lit (.int .i64 ((cH r2.2.1 0 x5.won))))), (35, 8, .d (.lit (.bool ((cQ r2.2.1 x5.won))))), (13, 9, .d (.lit (.int .i64 ((cH r2.2.1 0 x5.won)))))], ?_, ?_⟩
   · exact ⟨by kernel_rfl, by kernel_rfl, by kernel_rfl, by kernel_rfl, by kernel_rfl, [([], []), ([0], []), ([1], []), ([2], []), ([], []), ([3, 4], []), ([5], []), ([6], []), ([6], []), ([7], [])], by kernel_rfl, ⟨fun S hS => aG rfl (aR rfl (aC (v := cN aX r2.1) (aA rfl) (aF hS rfl) rfl)),
      fun S hS => aG rfl (aR rfl (pD (enc := aX) (aA rfl) (aF hS rfl) h6)),
      fun S hS => aG rfl (aR rfl (cC (aA rfl) (aF hS rfl) pP (es := [.mp false (x5.won.map fun p : aB × Int => ((fun a : aB => Value.agg ((aJ a).map bK).toArray) p.1, aP p.2))]) rfl)),
      fun S hS => aG rfl (aR rfl (bM (aA rfl) (aF hS rfl) tU)),
      fun S hS => aG rfl (aR rfl (bP (aA rfl) (aF hS rfl) (i := 1) rfl jD (es := (aJ r2.2.1)) rfl rfl)),
      fun S hS => aG rfl (aR rfl (pI (enc := aP) (agg := false) (l := x5.won) (z := 0) (a := r2.2.1) (aA rfl) rZ Try.underlying73 Try.zeroValue3 (fun _ _ => .d (.lit _ rfl)) (aF hS rfl) rfl rfl (aF hS rfl) (kL (enc := aJ) r2.2.1 rfl))),
      fun S hS => aG rfl (aR rfl (aC (v := .tup [.d (.lit (.int .i64 ((cH r2.2.1 0 x5.won)))), .d (.lit (.bool ((cQ r2.2.1 x5.won))))]) (aA rfl) (aF hS rfl) rfl)),
      fun S hS => aG rfl (aR rfl (bN (aA rfl) (aF hS rfl) rfl)),
      fun S hS => aG rfl (aR rfl (bN (aA rfl) (aF hS rfl) rfl)),
      fun S hS => aG rfl (aR rfl (aK (v := .d (.lit (.int .i64 ((cH r2.2.1 0 x5.won))))) (aA rfl) (aF hS rfl) rfl)), trivial⟩⟩
   · exact cW (aV rfl (aV rfl (bC trivial)))
  ·refine tr1 rfl (aK (v := .d (.lit (.bool ((cQ r2.2.1 x5.won))))) (aA rfl) rfl rfl) ?_
   refine aH ?_
   refine aI ?_
   refine aI ?_
   refine aD ?_
   refine tr1 rfl (aC (v := .d (.lit (.bool ((cQ r2.2.1 x5.won))))) (aA rfl) rfl rfl) ?_
   refine tr1 rfl (fP (aA rfl) rfl) ?_
   refine aH ?_
   refine bX rfl (fun c7 => ?_) (fun c7 => ?_)
   ·have h := eH c7 h
    refine aI ?_
    refine aD ?_
    refine tr1 rfl (aK (v := .d (.lit (.int .i64 0))) (aA rfl) rfl rfl) ?_
    refine tr1 rfl (aK (v := .d (.lit (.int .i64 3))) (aA rfl) rfl rfl) ?_
    refine aH ?_
    exact bQ ⟨rfl, _, [], [.box b1 0 (aT t_0), .box b3 0 (aJ r2.2.1)], _, .two (.tmp 8 (v := .d (.lit (.int .i64 0))) rfl) (.tmp 9 (v := .d (.lit (.int .i64 3))) rfl), .refl _, .same _, (0, 3), h, rfl, rfl⟩
   ·have h := eG c7 h
    refine bV ?_
    refine aI ?_
    refine aD ?_
    refine tr1 rfl (aC (v := .d (.lit (.int .i64 ((cH r2.2.1 0 x5.won))))) (aA rfl) rfl rfl) ?_
    refine tr1 rfl (aK (v := .d (.lit (.int .i64 ((cH r2.2.1 0 x5.won))))) (aA rfl) rfl rfl) ?_
    refine tr1 rfl (aK (v := .d (.lit (.int .i64 0))) (aA rfl) rfl rfl) ?_
    refine aH ?_
    exact bQ ⟨rfl, _, [], [.box b1 0 (aT t_0), .box b3 0 (aJ r2.2.1)], _, .two (.tmp 8 (v := .d (.lit (.int .i64 ((cH r2.2.1 0 x5.won))))) rfl) (.tmp 9 (v := .d (.lit (.int .i64 0))) rfl), .refl _, .same _, (cH r2.2.1 0 x5.won, 0), h, rfl, rfl⟩

theorem zF (a0 : aO) (a1 : List aE) (a2 : Int) (a3 : Int) {r : Int × Int} (h : mZ a0 a1 a2 a3 = some r) : Fn Try.prog 20 [.agg (aT a0), .d (.sl 5 (a1.map aL)), .d (.lit (.int .i64 a2)), .d (.lit (.int .i64 a3))] ((fun x : Int × Int => .tup [.d (.lit (.int .i64 x.1)), .d (.lit (.int .i64 x.2))]) r) := tM (enc := fun x : Int × Int => .tup [.d (.lit (.int .i64 x.1)), .d (.lit (.int .i64 x.2))]) (zE a0 a1 a2 a3 (wU a0 a1 a2 a3 h (fun x => x = r) rfl))

theorem wY (t_0 : aO) (l_1 : List aE) {r : Bool} (h : jX t_0 l_1 = some r) : Fn Try.prog 12 [.agg (aT t_0), .d (.sl 5 (l_1.map aL))] (.d (.lit (.bool r))) := by
 unfold jX at h
 refine Fn.of_tr Try.func12 rfl (rs := [.tmp 4]) Try.results12 Try.ntmps12 (Nat.le_of_ble_eq_true rfl) ?_
 refine aI ?_
 refine aD ?_
 refine cB rfl (gD (v := .agg (aT t_0)) (aA rfl) rfl rfl rfl) ?_
 rintro _ ⟨b1, rfl⟩
 refine tr1 rfl (aK (v := .d (.lit (.bool false))) (aA rfl) rfl rfl) ?_
 refine aH ?_
 refine aI ?_
 refine aD ?_
 refine tr1 rfl (bP (aA rfl) rfl (i := 0) rfl dY (es := (aT t_0)) rfl rfl) ?_
 refine tr1 rfl (aC (v := .d (.sl 5 (l_1.map aL))) (aA rfl) rfl rfl) ?_
 obtain ⟨r2, h3, h⟩ := bind_some h
 refine tr1 rfl (cP (aA rfl) (.func _ _ Try.call27) rfl rfl (BVs.refl _ _) (zK _ _ h3) rfl) ?_
 refine tr1 rfl (fP (aA rfl) rfl) ?_
 refine tr1 rfl (aC (v := .d (.lit (.bool (!r2)))) (aA rfl) rfl rfl) ?_
 obtain ⟨b4, h5, h⟩ := bind_some h
 refine cE 5 [] 14 b4 ?_ ?_
 ·refine bJ (!r2) (fun c6 => ?_) (fun c6 => ?_)
  ·have h5 := aZ c6 h5
   refine aM rfl rfl (aA rfl) rfl c6 (bP (aA rfl) rfl (i := 0) rfl dY (es := (aT t_0)) rfl rfl) ?_
   refine aM rfl rfl (aA rfl) rfl c6 (aC (v := .d (.sl 5 (l_1.map aL))) (aA rfl) rfl rfl) ?_
   obtain ⟨r7, h8, h5⟩ := bind_some h5
   refine aM rfl rfl (aA rfl) rfl c6 (cP (aA rfl) (.func _ _ Try.call29) rfl rfl (BVs.refl _ _) (wZ _ _ h8) rfl) ?_
   refine aM rfl rfl (aA rfl) rfl c6 (bI (aA rfl) rfl rfl rfl) ?_
   refine tr1 rfl (bU (v := .d (.lit (.bool ((decide (r7 = 0)))))) (aA rfl) rfl c6 rfl rfl) ?_
   have h5 := Option.some.inj h5
   subst h5
   refine aH (bD rfl trivial rfl)
  ·have h5 := aY c6 h5
   refine aN rfl rfl (aA rfl) rfl (aA rfl) rfl c6 ?_
   refine aN rfl rfl (aA rfl) rfl (aA rfl) rfl c6 ?_
   refine aN rfl rfl (aA rfl) rfl (aA rfl) rfl c6 ?_
   refine aN rfl rfl (aA rfl) rfl (aA rfl) rfl c6 ?_
   refine tr1 rfl (bS (v := .d (.lit (.bool false))) (aA rfl) rfl c6 rfl rfl) ?_
   have h5 := Option.some.inj h5
   subst h5
   refine aH (bD rfl trivial rfl)
 ·refine tr1 rfl (aK (v := .d (.lit (.bool b4))) (aA rfl) rfl rfl) ?_
  refine aH ?_
  have h := Option.some.inj h
  subst h
  refine cR (cO (cV (l := [4]) ⟨rfl, trivial⟩)) ?_
  exact bQ ⟨rfl, _, .one _, rfl, rfl⟩

theorem tI (t_0 : aO) (l_1 : List aE) {r : (List bO) × (List Int) × Bool} (h : lG t_0 l_1 = some r) : Fn Try.prog 21 [.agg (aT t_0), .d (.sl 5 (l_1.map aL))] (.tup [.d (.sl 4 (r.1.map bH)), .d (.sl 1 (r.2.1.map aP)), .d (.lit (.bool r.2.2))]) := by
 unfold lG at h
 refine Fn.of_tr Try.func21 rfl (rs := [.tmp 4, .tmp 5, .tmp 6]) Try.results21 Try.ntmps21 (Nat.le_of_ble_eq_true rfl) ?_
 refine aI ?_
 refine aD ?_
 refine cB rfl (gD (v := .agg (aT t_0)) (aA rfl) rfl rfl rfl) ?_
 rintro _ ⟨b1, rfl⟩
 refine tr1 rfl (qO 4 (aA rfl)) ?_
 refine tr1 rfl (jB 3 1 (.inl rfl) (aA rfl)) ?_
 refine tr1 rfl (aK (v := .d (.lit (.bool false))) (aA rfl) rfl rfl) ?_
 refine aH ?_
 refine aI ?_
 refine aD ?_
 refine tr1 rfl (bP (aA rfl) rfl (i := 0) rfl dY (es := (aT t_0)) rfl rfl) ?_
 refine tr1 rfl (aC (v := .d (.sl 5 (l_1.map aL))) (aA rfl) rfl rfl) ?_
 obtain ⟨r3, h4, h⟩ := bind_some h
 refine tr1 rfl (fW (aA rfl) (.func _ _ Try.call30) rfl rfl (uD _ _ h4)) ?_
 refine tr1 rfl (aC (v := .tup [.d (.sl 4 (r3.1.map bH)), .d (.lit (.int .i64 r3.2))]) (aA rfl) rfl rfl) ?_
 refine tr1 rfl (bN (aA rfl) rfl rfl) ?_
 refine tr1 rfl (bN (aA rfl) rfl rfl) ?_
 refine tr1 rfl (aK (v := .d (.sl 4 (r3.1.map bH))) (aA rfl) rfl rfl) ?_
 refine tr1 rfl (aK (v := .d (.lit (.int .i64 r3.2))) (aA rfl) rfl rfl) ?_
 refine aH ?_
 refine aI ?_
 refine aI ?_
 refine aD ?_
 refine tr1 rfl (aC (v := .d (.lit (.int .i64 r3.2))) (aA rfl) rfl rfl) ?_
 refine tr1 rfl (bI (aA rfl) rfl rfl rfl) ?_
 refine tr1 rfl (aC (v := .d (.lit (.bool ((!decide (r3.2 = 0)))))) (aA rfl) rfl rfl) ?_
 obtain ⟨b5, h6, h⟩ := bind_some h
 refine cE 8 [1, 2, 4, 5] 27 b5 ?_ ?_
 ·refine bJ (!decide (r3.2 = 0)) (fun c28 => ?_) (fun c28 => ?_)
  ·have h6 := aZ c28 h6
   refine aN rfl rfl (aA rfl) rfl (aA rfl) rfl c28 ?_
   refine aN rfl rfl (aA rfl) rfl (aA rfl) rfl c28 ?_
   refine aN rfl rfl (aA rfl) rfl (aA rfl) rfl c28 ?_
   refine aN rfl rfl (aA rfl) rfl (aA rfl) rfl c28 ?_
   refine aN rfl rfl (aA rfl) rfl (aA rfl) rfl c28 ?_
   refine aN rfl rfl (aA rfl) rfl (aA rfl) rfl c28 ?_
   refine aN rfl rfl (aA rfl) rfl (aA rfl) rfl c28 ?_
   refine tr1 rfl (bU (v := .d (.lit (.bool true))) (aA rfl) rfl c28 rfl rfl) ?_
   have h6 := Option.some.inj h6
   subst h6
   refine aH (bD rfl ⟨rfl, rfl, rfl, rfl, trivial⟩ rfl)
  ·have h6 := aY c28 h6
   refine aM rfl rfl (aA rfl) rfl c28 (aC (v := .d (.sl 4 (r3.1.map bH))) (aA rfl) rfl rfl) ?_
   refine aM rfl rfl (aA rfl) rfl c28 (dV (aA rfl) rfl kT.of) ?_
   refine aM rfl rfl (aA rfl) rfl c28 (aU (aA rfl) rfl dG) ?_
   refine aM rfl rfl (aA rfl) rfl c28 (aW (aA rfl) rfl (i := 0) rfl rfl cZ) ?_
   refine aM rfl rfl (aA rfl) rfl c28 (dV (aA rfl) rfl bZ.of) ?_
   refine aM rfl rfl (aA rfl) rfl c28 (bT (aA rfl) rfl rfl rfl) ?_
   refine aM rfl rfl (aA rfl) rfl c28 (bI (aA rfl) rfl rfl rfl) ?_
   refine tr1 rfl (bS (v := .d (.lit (.bool ((!decide ((r3.1.length : Int) = (w64 ((t_0.Slots.length : Int) - 1)))))))) (aA rfl) rfl c28 rfl rfl) ?_
   have h6 := Option.some.inj h6
   subst h6
   refine aH (bD rfl ⟨rfl, rfl, rfl, rfl, trivial⟩ rfl)
 ·refine aH ?_
  refine bX rfl (fun c7 => ?_) (fun c7 => ?_)
  ·have h := aZ c7 h
   refine aI ?_
   refine aD ?_
   refine tr1 rfl (qO 4 (aA rfl)) ?_
   refine tr1 rfl (jB 3 1 (.inl rfl) (aA rfl)) ?_
   refine tr1 rfl (aK (v := .d (.lit (.bool false))) (aA rfl) rfl rfl) ?_
   refine aH ?_
   have h := Option.some.inj h
   subst h
   refine cR (cO (lR (k := 6) (v := .d (.lit (.bool false))) (.same _) (lR (k := 5) (v := .d (.sl 1 ((([] : List Int)).map aP))) (.d (lW 2 rfl (dF (f := aP) fun _ => rfl))) (lR (k := 4) (v := .d (.sl 4 ((([] : List bO)).map bH))) (.same _) (vB))))) ?_
   exact bQ ⟨rfl, _, .three _ _ _, rfl, rfl⟩
  ·have h := aY c7 h
   refine bV ?_
   refine aI ?_
   refine aI ?_
   refine aD ?_
   refine tr1 rfl (aK (v := .d (.lit (.int .i64 0))) (aA rfl) rfl rfl) ?_
   refine aH ?_
   refine cG ?_
   refine dR [1, 2] (fun (s9 : (List bO) × Int × (List Int) × Value) => [(4, .d (.sl 4 (s9.1.map bH))), (5, .d (.lit s9.2.2.2)), (8, .d (.lit (.int .i64 s9.2.1)))]) (fun (s9 : (List bO) × Int × (List Int) × Value) => [.box b1 0 (aT t_0), .arr s9.2.2.2 3 1 (s9.2.2.1.map aP)]) (fun (k : Nat) (s9 : (List bO) × Int × (List Int) × Value) => fL l_1 t_0 k s9.1 s9.2.1 s9.2.2.1) (fun _ => rfl) (r3.1, 0, ([] : List Int), (.slice none 0 0)) h (bF [0, 1] rfl rfl (aV rfl (aV rfl (aV rfl (bC ⟨rfl, rfl, trivial⟩))))) ?_
   rintro k11 ⟨bouts_0_9, i_0_9, winners_0_9, w10⟩ h
   simp only [fL] at h
   refine aI ?_
   refine aI ?_
   refine aD ?_
   refine tr1 rfl (aC (v := .d (.lit (.int .i64 i_0_9))) (aA rfl) rfl rfl) ?_
   refine tr1 rfl (aC (v := .d (.sl 4 (bouts_0_9.map bH))) (aA rfl) rfl rfl) ?_
   refine tr1 rfl (dV (aA rfl) rfl kT.of) ?_
   refine tr1 rfl (bI (aA rfl) rfl rfl rfl) ?_
   refine aH ?_
   refine bX rfl (fun c12 => ?_) (fun c12 => ?_)
   ·have h := aZ c12 h
    refine bV ?_
    refine aI ?_
    refine cG ?_
    refine aI ?_
    obtain ⟨x13, h14, h⟩ := bind_some h
    obtain ⟨x15, h16, h⟩ := bind_some h
    obtain ⟨r17, h18, h⟩ := bind_some h
    refine dW mix 17 [1, 2, 4, 5, 8] [(9, .d (.lit (.int .i64 r17.1))), (49, .d (.lit (.int .i64 r17.2)))] ?_ ?_
    ·refine ⟨[(35, 0, .agg (aT t_0)), (36, 1, .d (.sl 5 (l_1.map aL))), (37, 2, .d (.sl 4 (bouts_0_9.map bH))), (38, 3, .d (.lit (.int .i64 i_0_9))), (39, 4, .cp [.lit (.int .i64 x13.Round), .lit (.int .i64 x13.Place), .lit (.int .i64 x13.One), .lit (.int .i64 x13.Two)]), (40, 5, .cp [.lit (.int .i64 x13.Round)]), (41, 6, .d (.lit (.int .i64 x13.Round))), (42, 7, .d (.sl 4 (bouts_0_9.map bH))), (43, 8, .d (.lit (.int .i64 i_0_9))), (44, 9, .cp [.lit (.int .i64 x15.Round), .lit (.int .i64 x15.Place), .lit (.int .i64 x15.One), .lit (.int .i64 x15.Two)]), (45, 10, .cp [.lit (.int .i64 x15.Place)]), (46, 11, .d (.lit (.int .i64 x15.Place))), (47, 12, .tup [.d (.lit (.int .i64 r17.1)), .d (.lit (.int .i64 r17.2))]), (34, 13, .tup [.d (.lit (.int .i64 r17.1)), .d (.lit (.int .i64 r17.2))]), (48, 14, .d (.lit (.int .i64 r17.1))), (49, 15, .d (.lit (.int .i64 r17.2))), (9, 16, .d (.lit (.int .i64 r17.1)))], ?_, ?_⟩
     · exact ⟨by kernel_rfl, by kernel_rfl, by kernel_rfl, by kernel_rfl, by kernel_rfl, [([], []), ([], []), ([], []), ([], []), ([2, 3], []), ([4], []), ([5], []), ([], []), ([], []), ([7, 8], []), ([9], []), ([10], []), ([0, 1, 6, 11], []), ([12], []), ([13], []), ([13], []), ([14], [])], by kernel_rfl, ⟨fun S hS => aG rfl (aR rfl (bP (aA rfl) (aF hS rfl) (i := 0) rfl dY (es := (aT t_0)) rfl rfl)),
      fun S hS => aG rfl (aR rfl (aC (v := .d (.sl 5 (l_1.map aL))) (aA rfl) (aF hS rfl) rfl)),
      fun S hS => aG rfl (aR rfl (aC (v := .d (.sl 4 (bouts_0_9.map bH))) (aA rfl) (aF hS rfl) rfl)),
      fun S hS => aG rfl (aR rfl (aC (v := .d (.lit (.int .i64 i_0_9))) (aA rfl) (aF hS rfl) rfl)),
      fun S hS => aG rfl (aR rfl (bL (aA rfl) (aF hS rfl) (aF hS rfl) kT.of (bW bH h14))),
      fun S hS => aG rfl (aR rfl (cC (aA rfl) (aF hS rfl) aJw (es := [.lit (.int .i64 x13.Round)]) rfl)),
      fun S hS => aG rfl (aR rfl (bM (aA rfl) (aF hS rfl) bG)),
      fun S hS => aG rfl (aR rfl (aC (v := .d (.sl 4 (bouts_0_9.map bH))) (aA rfl) (aF hS rfl) rfl)),
      fun S hS => aG rfl (aR rfl (aC (v := .d (.lit (.int .i64 i_0_9))) (aA rfl) (aF hS rfl) rfl)),
      fun S hS => aG rfl (aR rfl (bL (aA rfl) (aF hS rfl) (aF hS rfl) kT.of (bW bH h16))),
      fun S hS => aG rfl (aR rfl (cC (aA rfl) (aF hS rfl) aJx (es := [.lit (.int .i64 x15.Place)]) rfl)),
      fun S hS => aG rfl (aR rfl (bM (aA rfl) (aF hS rfl) bG)),
      fun S hS => aG rfl (aR rfl (cP (aA rfl) (.func _ _ Try.call20) (ev2 (aF hS rfl) (ev2 (aF hS rfl) (ev2 (aF hS rfl) (ev2 (aF hS rfl) evn)))) rfl (BVs.refl _ _) (zF _ _ _ _ h18) rfl)),
      fun S hS => aG rfl (aR rfl (aC (v := .tup [.d (.lit (.int .i64 r17.1)), .d (.lit (.int .i64 r17.2))]) (aA rfl) (aF hS rfl) rfl)),
      fun S hS => aG rfl (aR rfl (bN (aA rfl) (aF hS rfl) rfl)),
      fun S hS => aG rfl (aR rfl (bN (aA rfl) (aF hS rfl) rfl)),
      fun S hS => aG rfl (aR rfl (aK (v := .d (.lit (.int .i64 r17.1))) (aA rfl) (aF hS rfl) rfl)), trivial⟩⟩
     · exact cW (aV rfl (aV rfl (bC ⟨rfl, rfl, rfl, rfl, rfl, trivial⟩)))
    ·refine tr1 rfl (aK (v := .d (.lit (.int .i64 r17.2))) (aA rfl) rfl rfl) ?_
     refine aH ?_
     refine aI ?_
     refine aI ?_
     refine aD ?_
     refine tr1 rfl (aC (v := .d (.lit (.int .i64 r17.2))) (aA rfl) rfl rfl) ?_
     refine tr1 rfl (bI (aA rfl) rfl rfl rfl) ?_
     refine aH ?_
     refine bX rfl (fun c19 => ?_) (fun c19 => ?_)
     ·have h := aZ c19 h
      refine aD ?_
      refine tr1 rfl (aK (v := .d (.lit (.int .i64 (-2)))) (aA rfl) rfl rfl) ?_
      refine aH ?_
      refine aD ?_
      refine tr1 rfl (aC (v := .d (.lit w10)) (aA rfl) rfl rfl) ?_
      refine tr1 rfl (aC (v := .d (.lit (.int .i64 (-2)))) (aA rfl) rfl rfl) ?_
      refine tr1 rfl (fN (aA rfl) bZ rfl rfl (rows := ([(-2)]).map aP) rfl (dF (f := aP) fun _ => rfl) rfl (by decide)) ?_
      obtain ⟨x20, h21, h⟩ := bind_some h
      refine cB rfl (fD (i := 1) (aA rfl) bZ rfl rfl rfl (fun _ => rfl) h21 rfl) ?_
      rintro _ ⟨v22, rfl⟩
      refine tr1 rfl (aK (v := .d (.lit v22)) (aA rfl) rfl rfl) ?_
      refine fX ?_
      refine aD ?_
      refine tr1 rfl (aC (v := .d (.lit (.int .i64 i_0_9))) (aA rfl) rfl rfl) ?_
      refine tr1 rfl (bT (aA rfl) rfl rfl rfl) ?_
      refine tr1 rfl (aK (v := .d (.lit (.int .i64 ((w64 (i_0_9 + 1)))))) (aA rfl) rfl rfl) ?_
      refine aH ?_
      exact ⟨(bouts_0_9, w64 (i_0_9 + 1), x20, v22), h, bF [0, 1] rfl rfl (aV rfl (aV rfl (aV rfl (bC ⟨rfl, rfl, trivial⟩))))⟩
     ·have h := aY c19 h
      refine aI ?_
      refine aD ?_
      refine tr1 rfl (aC (v := .d (.lit (.int .i64 r17.2))) (aA rfl) rfl rfl) ?_
      refine tr1 rfl (bI (aA rfl) rfl rfl rfl) ?_
      refine aH ?_
      refine bX rfl (fun c23 => ?_) (fun c23 => ?_)
      ·have h := aZ c23 h
       refine aI ?_
       refine aD ?_
       refine tr1 rfl (qO 4 (aA rfl)) ?_
       refine tr1 rfl (jB 3 1 (.inl rfl) (aA rfl)) ?_
       refine tr1 rfl (aK (v := .d (.lit (.bool false))) (aA rfl) rfl rfl) ?_
       refine aH ?_
       have h := Option.some.inj h
       subst h
       refine cR (cO (lR (k := 6) (v := .d (.lit (.bool false))) (.same _) (lR (k := 5) (v := .d (.sl 1 ((([] : List Int)).map aP))) (.d (lW 2 rfl (dF (f := aP) fun _ => rfl))) (lR (k := 4) (v := .d (.sl 4 ((([] : List bO)).map bH))) (.same _) (vB))))) ?_
       exact bQ ⟨rfl, _, .three _ _ _, rfl, rfl⟩
      ·have h := aY c23 h
       refine bV ?_
       refine aD ?_
       refine tr1 rfl (aC (v := .d (.lit w10)) (aA rfl) rfl rfl) ?_
       refine tr1 rfl (aC (v := .d (.lit (.int .i64 r17.1))) (aA rfl) rfl rfl) ?_
       refine tr1 rfl (fN (aA rfl) bZ rfl rfl (rows := ([r17.1]).map aP) rfl (dF (f := aP) fun _ => rfl) rfl (by decide)) ?_
       obtain ⟨x25, h26, h⟩ := bind_some h
       refine cB rfl (fD (i := 1) (aA rfl) bZ rfl rfl rfl (fun _ => rfl) h26 rfl) ?_
       rintro _ ⟨v27, rfl⟩
       refine tr1 rfl (aK (v := .d (.lit v27)) (aA rfl) rfl rfl) ?_
       refine fX ?_
       refine aD ?_
       refine tr1 rfl (aC (v := .d (.lit (.int .i64 i_0_9))) (aA rfl) rfl rfl) ?_
       refine tr1 rfl (bT (aA rfl) rfl rfl rfl) ?_
       refine tr1 rfl (aK (v := .d (.lit (.int .i64 ((w64 (i_0_9 + 1)))))) (aA rfl) rfl rfl) ?_
       refine aH ?_
       exact ⟨(bouts_0_9, w64 (i_0_9 + 1), x25, v27), h, bF [0, 1] rfl rfl (aV rfl (aV rfl (aV rfl (bC ⟨rfl, rfl, trivial⟩))))⟩
   ·have h := aY c12 h
    refine dD ?_
    refine .inl ⟨rfl, ?_⟩
    simp only [oY] at h
    refine aI ?_
    refine aD ?_
    refine tr1 rfl (aC (v := .d (.sl 4 (bouts_0_9.map bH))) (aA rfl) rfl rfl) ?_
    refine tr1 rfl (aC (v := .d (.lit w10)) (aA rfl) rfl rfl) ?_
    refine tr1 rfl (aK (v := .d (.sl 4 (bouts_0_9.map bH))) (aA rfl) rfl rfl) ?_
    refine tr1 rfl (aK (v := .d (.lit w10)) (aA rfl) rfl rfl) ?_
    refine tr1 rfl (aK (v := .d (.lit (.bool true))) (aA rfl) rfl rfl) ?_
    refine aH ?_
    have h := Option.some.inj h
    subst h
    refine cR (cO (lR (k := 6) (v := .d (.lit (.bool true))) (.same _) (lR (k := 5) (v := .d (.sl 1 (winners_0_9.map aP))) (.d (lW 1 rfl (dF (f := aP) fun _ => rfl))) (lR (k := 4) (v := .d (.sl 4 (bouts_0_9.map bH))) (.same _) (vB))))) ?_
    exact bQ ⟨rfl, _, .three _ _ _, rfl, rfl⟩

theorem gZ (n_0 : Int) (old_1 : Int) (player_2 : Int) {r : Int} (h : gU n_0 old_1 player_2 = some r) : Fn Try.prog 26 [.d (.lit (.int .i64 n_0)), .d (.lit (.int .i64 old_1)), .d (.lit (.int .i64 player_2))] (.d (.lit (.int .i64 r))) := by
 unfold gU at h
 refine Fn.of_tr Try.func26 rfl (rs := [.tmp 6]) Try.results26 Try.ntmps26 (Nat.le_of_ble_eq_true rfl) ?_
 refine aI ?_
 refine aD ?_
 refine tr1 rfl (aK (v := .d (.lit (.int .i64 0))) (aA rfl) rfl rfl) ?_
 refine aH ?_
 refine aI ?_
 refine aI ?_
 refine aD ?_
 refine tr1 rfl (aC (v := .d (.lit (.int .i64 n_0))) (aA rfl) rfl rfl) ?_
 refine tr1 rfl (aC (v := .d (.lit (.int .i64 old_1))) (aA rfl) rfl rfl) ?_
 refine tr1 rfl (bI (aA rfl) rfl rfl rfl) ?_
 refine aH ?_
 refine bX rfl (fun c1 => ?_) (fun c1 => ?_)
 ·have h := aZ c1 h
  refine aI ?_
  refine aD ?_
  refine tr1 rfl (aC (v := .d (.lit (.int .i64 player_2))) (aA rfl) rfl rfl) ?_
  refine tr1 rfl (aK (v := .d (.lit (.int .i64 player_2))) (aA rfl) rfl rfl) ?_
  refine aH ?_
  have h := Option.some.inj h
  subst h
  exact bQ ⟨rfl, _, .one _, rfl, rfl⟩
 ·have h := aY c1 h
  refine bV ?_
  refine aI ?_
  refine aD ?_
  refine tr1 rfl (aC (v := .d (.lit (.int .i64 n_0))) (aA rfl) rfl rfl) ?_
  refine tr1 rfl (aK (v := .d (.lit (.int .i64 n_0))) (aA rfl) rfl rfl) ?_
  refine aH ?_
  have h := Option.some.inj h
  subst h
  exact bQ ⟨rfl, _, .one _, rfl, rfl⟩

theorem sR (t_0 : aO) (l_1 : List aE) (x_2 : dL) {r : Bool} (h : jQ t_0 l_1 x_2 = some r) : Fn Try.prog 7 [.agg (aT t_0), .d (.sl 5 (l_1.map aL)), .agg (fC x_2)] (.d (.lit (.bool r))) := by
 unfold jQ at h
 refine Fn.of_tr Try.func7 rfl (rs := [.tmp 6]) Try.results7 Try.ntmps7 (Nat.le_of_ble_eq_true rfl) ?_
 refine aI ?_
 refine aD ?_
 refine cB rfl (gD (v := .agg (aT t_0)) (aA rfl) rfl rfl rfl) ?_
 rintro _ ⟨b1, rfl⟩
 refine cB rfl (gD (v := .agg (fC x_2)) (aA rfl) rfl rfl rfl) ?_
 rintro _ ⟨b2, rfl⟩
 refine tr1 rfl (aK (v := .d (.lit (.bool false))) (aA rfl) rfl rfl) ?_
 refine aH ?_
 refine aI ?_
 refine aI ?_
 refine aD ?_
 refine tr1 rfl (bP (aA rfl) rfl (i := 0) rfl dY (es := (aT t_0)) rfl rfl) ?_
 refine tr1 rfl (aC (v := .d (.sl 5 (l_1.map aL))) (aA rfl) rfl rfl) ?_
 obtain ⟨r3, h4, h⟩ := bind_some h
 refine tr1 rfl (cP (aA rfl) (.func _ _ Try.call12) rfl rfl (BVs.refl _ _) (wY _ _ h4) rfl) ?_
 refine tr1 rfl (fP (aA rfl) rfl) ?_
 refine tr1 rfl (aC (v := .d (.lit (.bool (!r3)))) (aA rfl) rfl rfl) ?_
 obtain ⟨b5, h6, h⟩ := bind_some h
 refine cE 4 [1, 3, 5] 34 b5 ?_ ?_
 ·refine bJ (!r3) (fun c130 => ?_) (fun c130 => ?_)
  ·have h6 := aZ c130 h6
   refine aN rfl rfl (aA rfl) rfl (aA rfl) rfl c130 ?_
   refine aN rfl rfl (aA rfl) rfl (aA rfl) rfl c130 ?_
   refine aN rfl rfl (aA rfl) rfl (aA rfl) rfl c130 ?_
   refine tr1 rfl (bU (v := .d (.lit (.bool true))) (aA rfl) rfl c130 rfl rfl) ?_
   have h6 := Option.some.inj h6
   subst h6
   refine aH (bD rfl ⟨rfl, rfl, rfl, trivial⟩ rfl)
  ·have h6 := aY c130 h6
   refine aM rfl rfl (aA rfl) rfl c130 (aC (v := .d (.sl 5 (l_1.map aL))) (aA rfl) rfl rfl) ?_
   refine aM rfl rfl (aA rfl) rfl c130 (dV (aA rfl) rfl eK.of) ?_
   refine aM rfl rfl (aA rfl) rfl c130 (bI (aA rfl) rfl rfl rfl) ?_
   refine tr1 rfl (bS (v := .d (.lit (.bool ((decide (59 < (l_1.length : Int))))))) (aA rfl) rfl c130 rfl rfl) ?_
   have h6 := Option.some.inj h6
   subst h6
   refine aH (bD rfl ⟨rfl, rfl, rfl, trivial⟩ rfl)
 ·refine tr1 rfl (aC (v := .d (.lit (.bool b5))) (aA rfl) rfl rfl) ?_
  obtain ⟨b7, h8, h⟩ := bind_some h
  refine cE 4 [1, 3, 5] 39 b7 ?_ ?_
  ·refine bJ (b5) (fun c129 => ?_) (fun c129 => ?_)
   ·have h8 := aZ c129 h8
    refine aN rfl rfl (aA rfl) rfl (aA rfl) rfl c129 ?_
    refine aN rfl rfl (aA rfl) rfl (aA rfl) rfl c129 ?_
    refine aN rfl rfl (aA rfl) rfl (aA rfl) rfl c129 ?_
    refine tr1 rfl (bU (v := .d (.lit (.bool true))) (aA rfl) rfl c129 rfl rfl) ?_
    have h8 := Option.some.inj h8
    subst h8
    refine aH (bD rfl ⟨rfl, rfl, rfl, trivial⟩ rfl)
   ·have h8 := aY c129 h8
    refine aM rfl rfl (aA rfl) rfl c129 (aU (aA rfl) rfl tL) ?_
    refine aM rfl rfl (aA rfl) rfl c129 (aW (aA rfl) rfl (i := 1) rfl rfl bG) ?_
    refine aM rfl rfl (aA rfl) rfl c129 (bI (aA rfl) rfl rfl rfl) ?_
    refine tr1 rfl (bS (v := .d (.lit (.bool ((decide (x_2.Place < 0)))))) (aA rfl) rfl c129 rfl rfl) ?_
    have h8 := Option.some.inj h8
    subst h8
    refine aH (bD rfl ⟨rfl, rfl, rfl, trivial⟩ rfl)
  ·refine tr1 rfl (aC (v := .d (.lit (.bool b7))) (aA rfl) rfl rfl) ?_
   obtain ⟨b9, h10, h⟩ := bind_some h
   refine cE 7 [1, 3, 5] 47 b9 ?_ ?_
   ·refine bJ (b7) (fun c128 => ?_) (fun c128 => ?_)
    ·have h10 := aZ c128 h10
     refine aN rfl rfl (aA rfl) rfl (aA rfl) rfl c128 ?_
     refine aN rfl rfl (aA rfl) rfl (aA rfl) rfl c128 ?_
     refine aN rfl rfl (aA rfl) rfl (aA rfl) rfl c128 ?_
     refine aN rfl rfl (aA rfl) rfl (aA rfl) rfl c128 ?_
     refine aN rfl rfl (aA rfl) rfl (aA rfl) rfl c128 ?_
     refine aN rfl rfl (aA rfl) rfl (aA rfl) rfl c128 ?_
     refine tr1 rfl (bU (v := .d (.lit (.bool true))) (aA rfl) rfl c128 rfl rfl) ?_
     have h10 := Option.some.inj h10
     subst h10
     refine aH (bD rfl ⟨rfl, rfl, rfl, trivial⟩ rfl)
    ·have h10 := aY c128 h10
     refine aM rfl rfl (aA rfl) rfl c128 (aU (aA rfl) rfl tL) ?_
     refine aM rfl rfl (aA rfl) rfl c128 (aW (aA rfl) rfl (i := 1) rfl rfl bG) ?_
     refine aM rfl rfl (aA rfl) rfl c128 (aU (aA rfl) rfl dG) ?_
     refine aM rfl rfl (aA rfl) rfl c128 (aW (aA rfl) rfl (i := 0) rfl rfl cZ) ?_
     refine aM rfl rfl (aA rfl) rfl c128 (dV (aA rfl) rfl bZ.of) ?_
     refine aM rfl rfl (aA rfl) rfl c128 (bI (aA rfl) rfl rfl rfl) ?_
     refine tr1 rfl (bS (v := .d (.lit (.bool ((decide ((t_0.Slots.length : Int) ≤ x_2.Place)))))) (aA rfl) rfl c128 rfl rfl) ?_
     have h10 := Option.some.inj h10
     subst h10
     refine aH (bD rfl ⟨rfl, rfl, rfl, trivial⟩ rfl)
   ·refine tr1 rfl (aC (v := .d (.lit (.bool b9))) (aA rfl) rfl rfl) ?_
    obtain ⟨b11, h12, h⟩ := bind_some h
    refine cE 4 [1, 3, 5] 52 b11 ?_ ?_
    ·refine bJ (b9) (fun c127 => ?_) (fun c127 => ?_)
     ·have h12 := aZ c127 h12
      refine aN rfl rfl (aA rfl) rfl (aA rfl) rfl c127 ?_
      refine aN rfl rfl (aA rfl) rfl (aA rfl) rfl c127 ?_
      refine aN rfl rfl (aA rfl) rfl (aA rfl) rfl c127 ?_
      refine tr1 rfl (bU (v := .d (.lit (.bool true))) (aA rfl) rfl c127 rfl rfl) ?_
      have h12 := Option.some.inj h12
      subst h12
      refine aH (bD rfl ⟨rfl, rfl, rfl, trivial⟩ rfl)
     ·have h12 := aY c127 h12
      refine aM rfl rfl (aA rfl) rfl c127 (aU (aA rfl) rfl iD) ?_
      refine aM rfl rfl (aA rfl) rfl c127 (aW (aA rfl) rfl (i := 1) rfl rfl bG) ?_
      refine aM rfl rfl (aA rfl) rfl c127 (bI (aA rfl) rfl rfl rfl) ?_
      refine tr1 rfl (bS (v := .d (.lit (.bool ((decide (x_2.A < 0)))))) (aA rfl) rfl c127 rfl rfl) ?_
      have h12 := Option.some.inj h12
      subst h12
      refine aH (bD rfl ⟨rfl, rfl, rfl, trivial⟩ rfl)
    ·refine tr1 rfl (aC (v := .d (.lit (.bool b11))) (aA rfl) rfl rfl) ?_
     obtain ⟨b13, h14, h⟩ := bind_some h
     refine cE 4 [1, 3, 5] 57 b13 ?_ ?_
     ·refine bJ (b11) (fun c126 => ?_) (fun c126 => ?_)
      ·have h14 := aZ c126 h14
       refine aN rfl rfl (aA rfl) rfl (aA rfl) rfl c126 ?_
       refine aN rfl rfl (aA rfl) rfl (aA rfl) rfl c126 ?_
       refine aN rfl rfl (aA rfl) rfl (aA rfl) rfl c126 ?_
       refine tr1 rfl (bU (v := .d (.lit (.bool true))) (aA rfl) rfl c126 rfl rfl) ?_
       have h14 := Option.some.inj h14
       subst h14
       refine aH (bD rfl ⟨rfl, rfl, rfl, trivial⟩ rfl)
      ·have h14 := aY c126 h14
       refine aM rfl rfl (aA rfl) rfl c126 (aU (aA rfl) rfl iD) ?_
       refine aM rfl rfl (aA rfl) rfl c126 (aW (aA rfl) rfl (i := 1) rfl rfl bG) ?_
       refine aM rfl rfl (aA rfl) rfl c126 (bI (aA rfl) rfl rfl rfl) ?_
       refine tr1 rfl (bS (v := .d (.lit (.bool ((decide (999 < x_2.A)))))) (aA rfl) rfl c126 rfl rfl) ?_
       have h14 := Option.some.inj h14
       subst h14
       refine aH (bD rfl ⟨rfl, rfl, rfl, trivial⟩ rfl)
     ·refine aH ?_
      refine bX rfl (fun c15 => ?_) (fun c15 => ?_)
      ·have h := aZ c15 h
       refine aI ?_
       refine aD ?_
       obtain ⟨r16, h17, h⟩ := bind_some h
       refine tr1 rfl (cP (aA rfl) (.func _ _ Try.call14) rfl rfl (BVs.refl _ _) (kG h17) rfl) ?_
       refine tr1 rfl (aK (v := .d (.lit (.bool r16))) (aA rfl) rfl rfl) ?_
       refine aH ?_
       have h := Option.some.inj h
       subst h
       refine cR (cO (cV (l := [6]) ⟨rfl, trivial⟩)) ?_
       exact bQ ⟨rfl, _, .one _, rfl, rfl⟩
      ·have h := aY c15 h
       refine bV ?_
       refine aI ?_
       refine aD ?_
       refine tr1 rfl (bP (aA rfl) rfl (i := 0) rfl dY (es := (aT t_0)) rfl rfl) ?_
       refine tr1 rfl (aC (v := .d (.sl 5 (l_1.map aL))) (aA rfl) rfl rfl) ?_
       obtain ⟨r18, h19, h⟩ := bind_some h
       refine tr1 rfl (fW (aA rfl) (.func _ _ Try.call18) rfl rfl (qD _ _ h19)) ?_
       refine tr1 rfl (aC (v := .tup [.d (.sl 1 (r18.1.map aP)), .d (.lit (.bool r18.2))]) (aA rfl) rfl rfl) ?_
       refine tr1 rfl (bN (aA rfl) rfl rfl) ?_
       refine tr1 rfl (bN (aA rfl) rfl rfl) ?_
       refine tr1 rfl (aK (v := .d (.sl 1 (r18.1.map aP))) (aA rfl) rfl rfl) ?_
       refine tr1 rfl (aK (v := .d (.lit (.bool r18.2))) (aA rfl) rfl rfl) ?_
       refine aH ?_
       refine aI ?_
       refine aI ?_
       refine aD ?_
       refine tr1 rfl (aC (v := .d (.lit (.bool r18.2))) (aA rfl) rfl rfl) ?_
       refine tr1 rfl (fP (aA rfl) rfl) ?_
       refine tr1 rfl (aC (v := .d (.lit (.bool (!r18.2)))) (aA rfl) rfl rfl) ?_
       obtain ⟨b20, h21, h⟩ := bind_some h
       refine cE 7 [1, 3, 5, 7] 74 b20 ?_ ?_
       ·refine bJ (!r18.2) (fun c123 => ?_) (fun c123 => ?_)
        ·have h21 := aZ c123 h21
         refine aN rfl rfl (aA rfl) rfl (aA rfl) rfl c123 ?_
         refine aN rfl rfl (aA rfl) rfl (aA rfl) rfl c123 ?_
         refine aN rfl rfl (aA rfl) rfl (aA rfl) rfl c123 ?_
         refine aN rfl rfl (aA rfl) rfl (aA rfl) rfl c123 ?_
         refine aN rfl rfl (aA rfl) rfl (aA rfl) rfl c123 ?_
         refine aN rfl rfl (aA rfl) rfl (aA rfl) rfl c123 ?_
         refine tr1 rfl (bU (v := .d (.lit (.bool true))) (aA rfl) rfl c123 rfl rfl) ?_
         have h21 := Option.some.inj h21
         subst h21
         refine aH (bD rfl ⟨rfl, rfl, rfl, rfl, trivial⟩ rfl)
        ·have h21 := aY c123 h21
         refine aM rfl rfl (aA rfl) rfl c123 (aC (v := .d (.sl 1 (r18.1.map aP))) (aA rfl) rfl rfl) ?_
         refine aM rfl rfl (aA rfl) rfl c123 (aU (aA rfl) rfl tL) ?_
         refine aM rfl rfl (aA rfl) rfl c123 (aW (aA rfl) rfl (i := 1) rfl rfl bG) ?_
         obtain ⟨x124, h125, h21⟩ := bind_some h21
         refine aM rfl rfl (aA rfl) rfl c123 (bL (aA rfl) rfl rfl bZ.of (bW aP h125)) ?_
         refine aM rfl rfl (aA rfl) rfl c123 (bM (aA rfl) rfl bG) ?_
         refine aM rfl rfl (aA rfl) rfl c123 (bI (aA rfl) rfl rfl rfl) ?_
         refine tr1 rfl (bS (v := .d (.lit (.bool ((decide (x124 = (-1))))))) (aA rfl) rfl c123 rfl rfl) ?_
         have h21 := Option.some.inj h21
         subst h21
         refine aH (bD rfl ⟨rfl, rfl, rfl, rfl, trivial⟩ rfl)
       ·refine aH ?_
        refine bX rfl (fun c22 => ?_) (fun c22 => ?_)
        ·have h := aZ c22 h
         refine aI ?_
         refine aD ?_
         obtain ⟨r23, h24, h⟩ := bind_some h
         refine tr1 rfl (cP (aA rfl) (.func _ _ Try.call14) rfl rfl (BVs.refl _ _) (kG h24) rfl) ?_
         refine tr1 rfl (aK (v := .d (.lit (.bool r23))) (aA rfl) rfl rfl) ?_
         refine aH ?_
         have h := Option.some.inj h
         subst h
         refine cR (cO (cV (l := [6]) ⟨rfl, trivial⟩)) ?_
         exact bQ ⟨rfl, _, .one _, rfl, rfl⟩
        ·have h := aY c22 h
         refine bV ?_
         refine aI ?_
         refine aD ?_
         refine tr1 rfl (aC (v := .d (.sl 1 (r18.1.map aP))) (aA rfl) rfl rfl) ?_
         refine tr1 rfl (aU (aA rfl) rfl tL) ?_
         refine tr1 rfl (aW (aA rfl) rfl (i := 1) rfl rfl bG) ?_
         obtain ⟨x25, h26, h⟩ := bind_some h
         refine tr1 rfl (bL (aA rfl) rfl rfl bZ.of (bW aP h26)) ?_
         refine tr1 rfl (bM (aA rfl) rfl bG) ?_
         refine tr1 rfl (aK (v := .d (.lit (.int .i64 x25))) (aA rfl) rfl rfl) ?_
         refine aH ?_
         refine aI ?_
         refine aI ?_
         refine aD ?_
         refine tr1 rfl (aK (v := .d (.lit (.int .i64 0))) (aA rfl) rfl rfl) ?_
         refine aH ?_
         refine cG ?_
         refine dR [1, 3, 5, 7, 9] (fun (s27 : Int) => [(10, .d (.lit (.int .i64 s27)))]) (fun (s27 : Int) => [.box b1 0 (aT t_0), .box b2 0 (fC x_2)]) (fun (k : Nat) (s27 : Int) => dH l_1 r18.1 x25 t_0 x_2 k s27) (fun _ => rfl) (0) h (bF [0, 1] rfl rfl (aV rfl (bC ⟨rfl, rfl, rfl, rfl, rfl, trivial⟩))) ?_
         rintro k28 i_0_27 h
         simp only [dH] at h
         refine aI ?_
         refine aI ?_
         refine aD ?_
         refine tr1 rfl (aC (v := .d (.lit (.int .i64 i_0_27))) (aA rfl) rfl rfl) ?_
         refine tr1 rfl (aU (aA rfl) rfl dG) ?_
         refine tr1 rfl (aW (aA rfl) rfl (i := 0) rfl rfl cZ) ?_
         refine tr1 rfl (dV (aA rfl) rfl bZ.of) ?_
         refine tr1 rfl (bI (aA rfl) rfl rfl rfl) ?_
         refine aH ?_
         refine bX rfl (fun c29 => ?_) (fun c29 => ?_)
         ·have h := aZ c29 h
          refine bV ?_
          refine aI ?_
          refine cG ?_
          refine aI ?_
          obtain ⟨x30, h31, h⟩ := bind_some h
          obtain ⟨b32, h33, h⟩ := bind_some h
          refine dW mix 17 [1, 3, 5, 7, 9, 10] [(104, .d (.lit (.bool b32)))] ?_ ?_
          ·refine bJ (decide (x30 = x_2.A)) (fun c34 => ?_) (fun c34 => ?_)
           ·have h33 := aZ c34 h33
            have h33 := Option.some.inj h33
            subst h33
            refine ⟨[(88, 0, .bp b1 0 1), (89, 1, .d (.sl 1 (t_0.Slots.map aP))), (90, 2, .d (.lit (.int .i64 i_0_27))), (91, 3, .cp [.lit (.int .i64 x30)]), (92, 4, .d (.lit (.int .i64 x30))), (93, 5, .bp b2 0 2), (94, 6, .d (.lit (.int .i64 x_2.A))), (95, 7, .d (.lit (.bool ((decide (x30 = x_2.A)))))), (96, 8, .d (.lit (.bool ((decide (x30 = x_2.A)))))), (97, 9, .tup []), (98, 10, .tup []), (99, 11, .tup []), (100, 12, .tup []), (101, 13, .tup []), (102, 14, .tup []), (103, 15, .tup []), (104, 16, .d (.lit (.bool true)))], ?_, ?_⟩
            · exact ⟨by kernel_rfl, by kernel_rfl, by kernel_rfl, by kernel_rfl, by kernel_rfl, [([], []), ([0], []), ([], []), ([1, 2], []), ([3], []), ([], []), ([5], []), ([4, 6], []), ([7], []), ([8], []), ([8], []), ([8, 9, 10], []), ([8, 11], []), ([8], []), ([8, 13], []), ([8, 12, 14], []), ([8, 15], [])], by kernel_rfl, ⟨fun S hS => aG rfl (aR rfl (aU (aA rfl) (aF hS rfl) dG)),
      fun S hS => aG rfl (aR rfl (aW (aA rfl) (aF hS rfl) (i := 0) rfl rfl cZ)),
      fun S hS => aG rfl (aR rfl (aC (v := .d (.lit (.int .i64 i_0_27))) (aA rfl) (aF hS rfl) rfl)),
      fun S hS => aG rfl (aR rfl (bL (aA rfl) (aF hS rfl) (aF hS rfl) bZ.of (bW aP h31))),
      fun S hS => aG rfl (aR rfl (bM (aA rfl) (aF hS rfl) bG)),
      fun S hS => aG rfl (aR rfl (aU (aA rfl) (aF hS rfl) iD)),
      fun S hS => aG rfl (aR rfl (aW (aA rfl) (aF hS rfl) (i := 1) rfl rfl bG)),
      fun S hS => aG rfl (aR rfl (bI (aA rfl) (aF hS rfl) (aF hS rfl) rfl)),
      fun S hS => aG rfl (aR rfl (aC (v := .d (.lit (.bool ((decide (x30 = x_2.A)))))) (aA rfl) (aF hS rfl) rfl)),
      fun S hS => aG rfl (bE rfl rfl (aA rfl) rfl (aA rfl) (aS hS rfl) c34),
      fun S hS => aG rfl (bE rfl rfl (aA rfl) rfl (aA rfl) (aS hS rfl) c34),
      fun S hS => aG rfl (bE rfl rfl (aA rfl) rfl (aA rfl) (aS hS rfl) c34),
      fun S hS => aG rfl (bE rfl rfl (aA rfl) rfl (aA rfl) (aS hS rfl) c34),
      fun S hS => aG rfl (bE rfl rfl (aA rfl) rfl (aA rfl) (aS hS rfl) c34),
      fun S hS => aG rfl (bE rfl rfl (aA rfl) rfl (aA rfl) (aS hS rfl) c34),
      fun S hS => aG rfl (bE rfl rfl (aA rfl) rfl (aA rfl) (aS hS rfl) c34),
      fun S hS => aG rfl (aR rfl (bU (v := .d (.lit (.bool true))) (aA rfl) (aF hS rfl) c34 rfl rfl)), trivial⟩⟩
            · exact cW (aV rfl (bC ⟨rfl, rfl, rfl, rfl, rfl, rfl, trivial⟩))
           ·have h33 := aY c34 h33
            obtain ⟨x35, h36, h33⟩ := bind_some h33
            have h33 := Option.some.inj h33
            subst h33
            refine ⟨[(88, 0, .bp b1 0 1), (89, 1, .d (.sl 1 (t_0.Slots.map aP))), (90, 2, .d (.lit (.int .i64 i_0_27))), (91, 3, .cp [.lit (.int .i64 x30)]), (92, 4, .d (.lit (.int .i64 x30))), (93, 5, .bp b2 0 2), (94, 6, .d (.lit (.int .i64 x_2.A))), (95, 7, .d (.lit (.bool ((decide (x30 = x_2.A)))))), (96, 8, .d (.lit (.bool ((decide (x30 = x_2.A)))))), (97, 9, .d (.sl 1 (r18.1.map aP))), (98, 10, .d (.lit (.int .i64 i_0_27))), (99, 11, .cp [.lit (.int .i64 x35)]), (100, 12, .d (.lit (.int .i64 x35))), (101, 13, .bp b2 0 2), (102, 14, .d (.lit (.int .i64 x_2.A))), (103, 15, .d (.lit (.bool ((decide (x35 = x_2.A)))))), (104, 16, .d (.lit (.bool ((decide (x35 = x_2.A))))))], ?_, ?_⟩
            · exact ⟨by kernel_rfl, by kernel_rfl, by kernel_rfl, by kernel_rfl, by kernel_rfl, [([], []), ([0], []), ([], []), ([1, 2], []), ([3], []), ([], []), ([5], []), ([4, 6], []), ([7], []), ([8], []), ([8], []), ([8, 9, 10], []), ([8, 11], []), ([8], []), ([8, 13], []), ([8, 12, 14], []), ([8, 15], [])], by kernel_rfl, ⟨fun S hS => aG rfl (aR rfl (aU (aA rfl) (aF hS rfl) dG)),
      fun S hS => aG rfl (aR rfl (aW (aA rfl) (aF hS rfl) (i := 0) rfl rfl cZ)),
      fun S hS => aG rfl (aR rfl (aC (v := .d (.lit (.int .i64 i_0_27))) (aA rfl) (aF hS rfl) rfl)),
      fun S hS => aG rfl (aR rfl (bL (aA rfl) (aF hS rfl) (aF hS rfl) bZ.of (bW aP h31))),
      fun S hS => aG rfl (aR rfl (bM (aA rfl) (aF hS rfl) bG)),
      fun S hS => aG rfl (aR rfl (aU (aA rfl) (aF hS rfl) iD)),
      fun S hS => aG rfl (aR rfl (aW (aA rfl) (aF hS rfl) (i := 1) rfl rfl bG)),
      fun S hS => aG rfl (aR rfl (bI (aA rfl) (aF hS rfl) (aF hS rfl) rfl)),
      fun S hS => aG rfl (aR rfl (aC (v := .d (.lit (.bool ((decide (x30 = x_2.A)))))) (aA rfl) (aF hS rfl) rfl)),
      fun S hS => aG rfl (bB rfl rfl (aA rfl) (aS hS rfl) c34 (aC (v := .d (.sl 1 (r18.1.map aP))) (aA rfl) (aF hS rfl) rfl)),
      fun S hS => aG rfl (bB rfl rfl (aA rfl) (aS hS rfl) c34 (aC (v := .d (.lit (.int .i64 i_0_27))) (aA rfl) (aF hS rfl) rfl)),
      fun S hS => aG rfl (bB rfl rfl (aA rfl) (aS hS rfl) c34 (bL (aA rfl) (aF hS rfl) (aF hS rfl) bZ.of (bW aP h36))),
      fun S hS => aG rfl (bB rfl rfl (aA rfl) (aS hS rfl) c34 (bM (aA rfl) (aF hS rfl) bG)),
      fun S hS => aG rfl (bB rfl rfl (aA rfl) (aS hS rfl) c34 (aU (aA rfl) (aF hS rfl) iD)),
      fun S hS => aG rfl (bB rfl rfl (aA rfl) (aS hS rfl) c34 (aW (aA rfl) (aF hS rfl) (i := 1) rfl rfl bG)),
      fun S hS => aG rfl (bB rfl rfl (aA rfl) (aS hS rfl) c34 (bI (aA rfl) (aF hS rfl) (aF hS rfl) rfl)),
      fun S hS => aG rfl (aR rfl (bS (v := .d (.lit (.bool ((decide (x35 = x_2.A)))))) (aA rfl) (aF hS rfl) c34 (aF hS rfl) rfl)), trivial⟩⟩
            · exact cW (aV rfl (bC ⟨rfl, rfl, rfl, rfl, rfl, rfl, trivial⟩))
          ·refine aH ?_
           refine bX rfl (fun c37 => ?_) (fun c37 => ?_)
           ·have h := aZ c37 h
            refine aI ?_
            refine aD ?_
            obtain ⟨r38, h39, h⟩ := bind_some h
            refine tr1 rfl (cP (aA rfl) (.func _ _ Try.call14) rfl rfl (BVs.refl _ _) (kG h39) rfl) ?_
            refine tr1 rfl (aK (v := .d (.lit (.bool r38))) (aA rfl) rfl rfl) ?_
            refine aH ?_
            have h := Option.some.inj h
            subst h
            refine cR (cO (cV (l := [6]) ⟨rfl, trivial⟩)) ?_
            exact bQ ⟨rfl, _, .one _, rfl, rfl⟩
           ·have h := aY c37 h
            refine eM ?_
            refine aD ?_
            refine tr1 rfl (aC (v := .d (.lit (.int .i64 i_0_27))) (aA rfl) rfl rfl) ?_
            refine tr1 rfl (bT (aA rfl) rfl rfl rfl) ?_
            refine tr1 rfl (aK (v := .d (.lit (.int .i64 ((w64 (i_0_27 + 1)))))) (aA rfl) rfl rfl) ?_
            refine aH ?_
            exact ⟨(w64 (i_0_27 + 1)), h, bF [0, 1] rfl rfl (aV rfl (bC ⟨rfl, rfl, rfl, rfl, rfl, trivial⟩))⟩
         ·have h := aY c29 h
          refine dD ?_
          refine .inl ⟨rfl, ?_⟩
          simp only [iI] at h
          refine aI ?_
          refine aI ?_
          refine aD ?_
          refine tr1 rfl (aK (v := .d (.lit (.int .i64 0))) (aA rfl) rfl rfl) ?_
          refine aH ?_
          refine cG ?_
          refine dR [1, 3, 5, 9] (fun (s40 : Int) => [(11, .d (.lit (.int .i64 s40)))]) (fun (s40 : Int) => [.box b1 0 (aT t_0), .box b2 0 (fC x_2)]) (fun (k : Nat) (s40 : Int) => eE l_1 x25 t_0 x_2 k s40) (fun _ => rfl) (0) h (bF [0, 1] rfl rfl (aV rfl (bC ⟨rfl, rfl, rfl, rfl, trivial⟩))) ?_
          rintro k41 i_2_40 h
          simp only [eE] at h
          refine aI ?_
          refine aI ?_
          refine aD ?_
          refine tr1 rfl (aC (v := .d (.lit (.int .i64 i_2_40))) (aA rfl) rfl rfl) ?_
          refine tr1 rfl (aC (v := .d (.sl 5 (l_1.map aL))) (aA rfl) rfl rfl) ?_
          refine tr1 rfl (dV (aA rfl) rfl eK.of) ?_
          refine tr1 rfl (bI (aA rfl) rfl rfl rfl) ?_
          refine aH ?_
          refine bX rfl (fun c42 => ?_) (fun c42 => ?_)
          ·have h := aZ c42 h
           refine bV ?_
           refine aI ?_
           refine cG ?_
           refine aI ?_
           obtain ⟨x43, h44, h⟩ := bind_some h
           obtain ⟨b45, h46, h⟩ := bind_some h
           refine dW mix 25 [1, 3, 5, 9, 11] [(136, .d (.lit (.bool b45)))] ?_ ?_
           ·refine bJ (decide (x43.Player = x_2.A)) (fun c47 => ?_) (fun c47 => ?_)
            ·have h46 := aZ c47 h46
             have h46 := Option.some.inj h46
             subst h46
             refine ⟨[(112, 0, .d (.sl 5 (l_1.map aL))), (113, 1, .d (.lit (.int .i64 i_2_40))), (114, 2, .cp [.lit (.int .i64 x43.Kind), .lit (.int .i64 x43.Round), .lit (.int .i64 x43.Place), .lit (.int .i64 x43.Player), .lit (.int .i64 x43.Old)]), (115, 3, .cp [.lit (.int .i64 x43.Player)]), (116, 4, .d (.lit (.int .i64 x43.Player))), (117, 5, .bp b2 0 2), (118, 6, .d (.lit (.int .i64 x_2.A))), (119, 7, .d (.lit (.bool ((decide (x43.Player = x_2.A)))))), (120, 8, .d (.lit (.bool ((decide (x43.Player = x_2.A)))))), (121, 9, .tup []), (122, 10, .tup []), (123, 11, .tup []), (124, 12, .tup []), (125, 13, .tup []), (126, 14, .tup []), (127, 15, .tup []), (128, 16, .tup []), (129, 17, .tup []), (130, 18, .tup []), (131, 19, .tup []), (132, 20, .tup []), (133, 21, .tup []), (134, 22, .tup []), (135, 23, .tup []), (136, 24, .d (.lit (.bool true)))], ?_, ?_⟩
             · exact ⟨by kernel_rfl, by kernel_rfl, by kernel_rfl, by kernel_rfl, by kernel_rfl, [([], []), ([], []), ([0, 1], []), ([2], []), ([3], []), ([], []), ([5], []), ([4, 6], []), ([7], []), ([8], []), ([8], []), ([8, 9, 10], []), ([8, 11], []), ([8, 12], []), ([8, 13], []), ([8, 14], []), ([15], []), ([15], []), ([15, 16, 17], []), ([15, 18], []), ([15, 19], []), ([15], []), ([15, 20, 21], []), ([8, 15, 22], []), ([8, 23], [])], by kernel_rfl, ⟨fun S hS => aG rfl (aR rfl (aC (v := .d (.sl 5 (l_1.map aL))) (aA rfl) (aF hS rfl) rfl)),
      fun S hS => aG rfl (aR rfl (aC (v := .d (.lit (.int .i64 i_2_40))) (aA rfl) (aF hS rfl) rfl)),
      fun S hS => aG rfl (aR rfl (bL (aA rfl) (aF hS rfl) (aF hS rfl) eK.of (bW aL h44))),
      fun S hS => aG rfl (aR rfl (cC (aA rfl) (aF hS rfl) jI (es := [.lit (.int .i64 x43.Player)]) rfl)),
      fun S hS => aG rfl (aR rfl (bM (aA rfl) (aF hS rfl) bG)),
      fun S hS => aG rfl (aR rfl (aU (aA rfl) (aF hS rfl) iD)),
      fun S hS => aG rfl (aR rfl (aW (aA rfl) (aF hS rfl) (i := 1) rfl rfl bG)),
      fun S hS => aG rfl (aR rfl (bI (aA rfl) (aF hS rfl) (aF hS rfl) rfl)),
      fun S hS => aG rfl (aR rfl (aC (v := .d (.lit (.bool ((decide (x43.Player = x_2.A)))))) (aA rfl) (aF hS rfl) rfl)),
      fun S hS => aG rfl (bE rfl rfl (aA rfl) rfl (aA rfl) (aS hS rfl) c47),
      fun S hS => aG rfl (bE rfl rfl (aA rfl) rfl (aA rfl) (aS hS rfl) c47),
      fun S hS => aG rfl (bE rfl rfl (aA rfl) rfl (aA rfl) (aS hS rfl) c47),
      fun S hS => aG rfl (bE rfl rfl (aA rfl) rfl (aA rfl) (aS hS rfl) c47),
      fun S hS => aG rfl (bE rfl rfl (aA rfl) rfl (aA rfl) (aS hS rfl) c47),
      fun S hS => aG rfl (bE rfl rfl (aA rfl) rfl (aA rfl) (aS hS rfl) c47),
      fun S hS => aG rfl (bE rfl rfl (aA rfl) rfl (aA rfl) (aS hS rfl) c47),
      fun S hS => aG rfl (rH rfl rfl (aA rfl) rfl (aA rfl) (aS hS rfl)),
      fun S hS => aG rfl (rH rfl rfl (aA rfl) rfl (aA rfl) (aS hS rfl)),
      fun S hS => aG rfl (rH rfl rfl (aA rfl) rfl (aA rfl) (aS hS rfl)),
      fun S hS => aG rfl (rH rfl rfl (aA rfl) rfl (aA rfl) (aS hS rfl)),
      fun S hS => aG rfl (rH rfl rfl (aA rfl) rfl (aA rfl) (aS hS rfl)),
      fun S hS => aG rfl (rH rfl rfl (aA rfl) rfl (aA rfl) (aS hS rfl)),
      fun S hS => aG rfl (rH rfl rfl (aA rfl) rfl (aA rfl) (aS hS rfl)),
      fun S hS => aG rfl (bE rfl rfl (aA rfl) rfl (aA rfl) (aS hS rfl) c47),
      fun S hS => aG rfl (aR rfl (bU (v := .d (.lit (.bool true))) (aA rfl) (aF hS rfl) c47 rfl rfl)), trivial⟩⟩
             · exact cW (aV rfl (bC ⟨rfl, rfl, rfl, rfl, rfl, trivial⟩))
            ·have h46 := aY c47 h46
             obtain ⟨x48, h49, h46⟩ := bind_some h46
             obtain ⟨b50, h51, h46⟩ := bind_some h46
             refine bJ (!decide (x48.Kind = 5)) (fun c52 => ?_) (fun c52 => ?_)
             ·have h51 := aZ c52 h51
              obtain ⟨x53, h54, h51⟩ := bind_some h51
              have h51 := Option.some.inj h51
              subst h51
              have h46 := Option.some.inj h46
              subst h46
              refine ⟨[(112, 0, .d (.sl 5 (l_1.map aL))), (113, 1, .d (.lit (.int .i64 i_2_40))), (114, 2, .cp [.lit (.int .i64 x43.Kind), .lit (.int .i64 x43.Round), .lit (.int .i64 x43.Place), .lit (.int .i64 x43.Player), .lit (.int .i64 x43.Old)]), (115, 3, .cp [.lit (.int .i64 x43.Player)]), (116, 4, .d (.lit (.int .i64 x43.Player))), (117, 5, .bp b2 0 2), (118, 6, .d (.lit (.int .i64 x_2.A))), (119, 7, .d (.lit (.bool ((decide (x43.Player = x_2.A)))))), (120, 8, .d (.lit (.bool ((decide (x43.Player = x_2.A)))))), (121, 9, .d (.sl 5 (l_1.map aL))), (122, 10, .d (.lit (.int .i64 i_2_40))), (123, 11, .cp [.lit (.int .i64 x48.Kind), .lit (.int .i64 x48.Round), .lit (.int .i64 x48.Place), .lit (.int .i64 x48.Player), .lit (.int .i64 x48.Old)]), (124, 12, .cp [.lit (.int .i64 x48.Kind)]), (125, 13, .d (.lit (.int .i64 x48.Kind))), (126, 14, .d (.lit (.bool ((!decide (x48.Kind = 5)))))), (127, 15, .d (.lit (.bool ((!decide (x48.Kind = 5)))))), (128, 16, .d (.sl 5 (l_1.map aL))), (129, 17, .d (.lit (.int .i64 i_2_40))), (130, 18, .cp [.lit (.int .i64 x53.Kind), .lit (.int .i64 x53.Round), .lit (.int .i64 x53.Place), .lit (.int .i64 x53.Player), .lit (.int .i64 x53.Old)]), (131, 19, .cp [.lit (.int .i64 x53.Player)]), (132, 20, .d (.lit (.int .i64 x53.Player))), (133, 21, .d (.lit (.int .i64 x25))), (134, 22, .d (.lit (.bool ((decide (x53.Player = x25)))))), (135, 23, .d (.lit (.bool ((decide (x53.Player = x25)))))), (136, 24, .d (.lit (.bool (decide (x53.Player = x25)))))], ?_, ?_⟩
              · exact ⟨by kernel_rfl, by kernel_rfl, by kernel_rfl, by kernel_rfl, by kernel_rfl, [([], []), ([], []), ([0, 1], []), ([2], []), ([3], []), ([], []), ([5], []), ([4, 6], []), ([7], []), ([8], []), ([8], []), ([8, 9, 10], []), ([8, 11], []), ([8, 12], []), ([8, 13], []), ([8, 14], []), ([15], []), ([15], []), ([15, 16, 17], []), ([15, 18], []), ([15, 19], []), ([15], []), ([15, 20, 21], []), ([8, 15, 22], []), ([8, 23], [])], by kernel_rfl, ⟨fun S hS => aG rfl (aR rfl (aC (v := .d (.sl 5 (l_1.map aL))) (aA rfl) (aF hS rfl) rfl)),
      fun S hS => aG rfl (aR rfl (aC (v := .d (.lit (.int .i64 i_2_40))) (aA rfl) (aF hS rfl) rfl)),
      fun S hS => aG rfl (aR rfl (bL (aA rfl) (aF hS rfl) (aF hS rfl) eK.of (bW aL h44))),
      fun S hS => aG rfl (aR rfl (cC (aA rfl) (aF hS rfl) jI (es := [.lit (.int .i64 x43.Player)]) rfl)),
      fun S hS => aG rfl (aR rfl (bM (aA rfl) (aF hS rfl) bG)),
      fun S hS => aG rfl (aR rfl (aU (aA rfl) (aF hS rfl) iD)),
      fun S hS => aG rfl (aR rfl (aW (aA rfl) (aF hS rfl) (i := 1) rfl rfl bG)),
      fun S hS => aG rfl (aR rfl (bI (aA rfl) (aF hS rfl) (aF hS rfl) rfl)),
      fun S hS => aG rfl (aR rfl (aC (v := .d (.lit (.bool ((decide (x43.Player = x_2.A)))))) (aA rfl) (aF hS rfl) rfl)),
      fun S hS => aG rfl (bB rfl rfl (aA rfl) (aS hS rfl) c47 (aC (v := .d (.sl 5 (l_1.map aL))) (aA rfl) (aF hS rfl) rfl)),
      fun S hS => aG rfl (bB rfl rfl (aA rfl) (aS hS rfl) c47 (aC (v := .d (.lit (.int .i64 i_2_40))) (aA rfl) (aF hS rfl) rfl)),
      fun S hS => aG rfl (bB rfl rfl (aA rfl) (aS hS rfl) c47 (bL (aA rfl) (aF hS rfl) (aF hS rfl) eK.of (bW aL h49))),
      fun S hS => aG rfl (bB rfl rfl (aA rfl) (aS hS rfl) c47 (cC (aA rfl) (aF hS rfl) lK (es := [.lit (.int .i64 x48.Kind)]) rfl)),
      fun S hS => aG rfl (bB rfl rfl (aA rfl) (aS hS rfl) c47 (bM (aA rfl) (aF hS rfl) bG)),
      fun S hS => aG rfl (bB rfl rfl (aA rfl) (aS hS rfl) c47 (bI (aA rfl) (aF hS rfl) rfl rfl)),
      fun S hS => aG rfl (bB rfl rfl (aA rfl) (aS hS rfl) c47 (aC (v := .d (.lit (.bool ((!decide (x48.Kind = 5)))))) (aA rfl) (aF hS rfl) rfl)),
      fun S hS => aG rfl (bB rfl rfl (aA rfl) (aS hS rfl) c52 (aC (v := .d (.sl 5 (l_1.map aL))) (aA rfl) (aF hS rfl) rfl)),
      fun S hS => aG rfl (bB rfl rfl (aA rfl) (aS hS rfl) c52 (aC (v := .d (.lit (.int .i64 i_2_40))) (aA rfl) (aF hS rfl) rfl)),
      fun S hS => aG rfl (bB rfl rfl (aA rfl) (aS hS rfl) c52 (bL (aA rfl) (aF hS rfl) (aF hS rfl) eK.of (bW aL h54))),
      fun S hS => aG rfl (bB rfl rfl (aA rfl) (aS hS rfl) c52 (cC (aA rfl) (aF hS rfl) jI (es := [.lit (.int .i64 x53.Player)]) rfl)),
      fun S hS => aG rfl (bB rfl rfl (aA rfl) (aS hS rfl) c52 (bM (aA rfl) (aF hS rfl) bG)),
      fun S hS => aG rfl (bB rfl rfl (aA rfl) (aS hS rfl) c52 (aC (v := .d (.lit (.int .i64 x25))) (aA rfl) (aF hS rfl) rfl)),
      fun S hS => aG rfl (bB rfl rfl (aA rfl) (aS hS rfl) c52 (bI (aA rfl) (aF hS rfl) (aF hS rfl) rfl)),
      fun S hS => aG rfl (bB rfl rfl (aA rfl) (aS hS rfl) c47 (bU (v := .d (.lit (.bool ((decide (x53.Player = x25)))))) (aA rfl) (aF hS rfl) c52 (aF hS rfl) rfl)),
      fun S hS => aG rfl (aR rfl (bS (v := .d (.lit (.bool (decide (x53.Player = x25))))) (aA rfl) (aF hS rfl) c47 (aF hS rfl) rfl)), trivial⟩⟩
              · exact cW (aV rfl (bC ⟨rfl, rfl, rfl, rfl, rfl, trivial⟩))
             ·have h51 := aY c52 h51
              have h51 := Option.some.inj h51
              subst h51
              have h46 := Option.some.inj h46
              subst h46
              refine ⟨[(112, 0, .d (.sl 5 (l_1.map aL))), (113, 1, .d (.lit (.int .i64 i_2_40))), (114, 2, .cp [.lit (.int .i64 x43.Kind), .lit (.int .i64 x43.Round), .lit (.int .i64 x43.Place), .lit (.int .i64 x43.Player), .lit (.int .i64 x43.Old)]), (115, 3, .cp [.lit (.int .i64 x43.Player)]), (116, 4, .d (.lit (.int .i64 x43.Player))), (117, 5, .bp b2 0 2), (118, 6, .d (.lit (.int .i64 x_2.A))), (119, 7, .d (.lit (.bool ((decide (x43.Player = x_2.A)))))), (120, 8, .d (.lit (.bool ((decide (x43.Player = x_2.A)))))), (121, 9, .d (.sl 5 (l_1.map aL))), (122, 10, .d (.lit (.int .i64 i_2_40))), (123, 11, .cp [.lit (.int .i64 x48.Kind), .lit (.int .i64 x48.Round), .lit (.int .i64 x48.Place), .lit (.int .i64 x48.Player), .lit (.int .i64 x48.Old)]), (124, 12, .cp [.lit (.int .i64 x48.Kind)]), (125, 13, .d (.lit (.int .i64 x48.Kind))), (126, 14, .d (.lit (.bool ((!decide (x48.Kind = 5)))))), (127, 15, .d (.lit (.bool ((!decide (x48.Kind = 5)))))), (128, 16, .tup []), (129, 17, .tup []), (130, 18, .tup []), (131, 19, .tup []), (132, 20, .tup []), (133, 21, .tup []), (134, 22, .tup []), (135, 23, .d (.lit (.bool false))), (136, 24, .d (.lit (.bool (false))))], ?_, ?_⟩
              · exact ⟨by kernel_rfl, by kernel_rfl, by kernel_rfl, by kernel_rfl, by kernel_rfl, [([], []), ([], []), ([0, 1], []), ([2], []), ([3], []), ([], []), ([5], []), ([4, 6], []), ([7], []), ([8], []), ([8], []), ([8, 9, 10], []), ([8, 11], []), ([8, 12], []), ([8, 13], []), ([8, 14], []), ([15], []), ([15], []), ([15, 16, 17], []), ([15, 18], []), ([15, 19], []), ([15], []), ([15, 20, 21], []), ([8, 15, 22], []), ([8, 23], [])], by kernel_rfl, ⟨fun S hS => aG rfl (aR rfl (aC (v := .d (.sl 5 (l_1.map aL))) (aA rfl) (aF hS rfl) rfl)),
      fun S hS => aG rfl (aR rfl (aC (v := .d (.lit (.int .i64 i_2_40))) (aA rfl) (aF hS rfl) rfl)),
      fun S hS => aG rfl (aR rfl (bL (aA rfl) (aF hS rfl) (aF hS rfl) eK.of (bW aL h44))),
      fun S hS => aG rfl (aR rfl (cC (aA rfl) (aF hS rfl) jI (es := [.lit (.int .i64 x43.Player)]) rfl)),
      fun S hS => aG rfl (aR rfl (bM (aA rfl) (aF hS rfl) bG)),
      fun S hS => aG rfl (aR rfl (aU (aA rfl) (aF hS rfl) iD)),
      fun S hS => aG rfl (aR rfl (aW (aA rfl) (aF hS rfl) (i := 1) rfl rfl bG)),
      fun S hS => aG rfl (aR rfl (bI (aA rfl) (aF hS rfl) (aF hS rfl) rfl)),
      fun S hS => aG rfl (aR rfl (aC (v := .d (.lit (.bool ((decide (x43.Player = x_2.A)))))) (aA rfl) (aF hS rfl) rfl)),
      fun S hS => aG rfl (bB rfl rfl (aA rfl) (aS hS rfl) c47 (aC (v := .d (.sl 5 (l_1.map aL))) (aA rfl) (aF hS rfl) rfl)),
      fun S hS => aG rfl (bB rfl rfl (aA rfl) (aS hS rfl) c47 (aC (v := .d (.lit (.int .i64 i_2_40))) (aA rfl) (aF hS rfl) rfl)),
      fun S hS => aG rfl (bB rfl rfl (aA rfl) (aS hS rfl) c47 (bL (aA rfl) (aF hS rfl) (aF hS rfl) eK.of (bW aL h49))),
      fun S hS => aG rfl (bB rfl rfl (aA rfl) (aS hS rfl) c47 (cC (aA rfl) (aF hS rfl) lK (es := [.lit (.int .i64 x48.Kind)]) rfl)),
      fun S hS => aG rfl (bB rfl rfl (aA rfl) (aS hS rfl) c47 (bM (aA rfl) (aF hS rfl) bG)),
      fun S hS => aG rfl (bB rfl rfl (aA rfl) (aS hS rfl) c47 (bI (aA rfl) (aF hS rfl) rfl rfl)),
      fun S hS => aG rfl (bB rfl rfl (aA rfl) (aS hS rfl) c47 (aC (v := .d (.lit (.bool ((!decide (x48.Kind = 5)))))) (aA rfl) (aF hS rfl) rfl)),
      fun S hS => aG rfl (bE rfl rfl (aA rfl) rfl (aA rfl) (aS hS rfl) c52),
      fun S hS => aG rfl (bE rfl rfl (aA rfl) rfl (aA rfl) (aS hS rfl) c52),
      fun S hS => aG rfl (bE rfl rfl (aA rfl) rfl (aA rfl) (aS hS rfl) c52),
      fun S hS => aG rfl (bE rfl rfl (aA rfl) rfl (aA rfl) (aS hS rfl) c52),
      fun S hS => aG rfl (bE rfl rfl (aA rfl) rfl (aA rfl) (aS hS rfl) c52),
      fun S hS => aG rfl (bE rfl rfl (aA rfl) rfl (aA rfl) (aS hS rfl) c52),
      fun S hS => aG rfl (bE rfl rfl (aA rfl) rfl (aA rfl) (aS hS rfl) c52),
      fun S hS => aG rfl (bB rfl rfl (aA rfl) (aS hS rfl) c47 (bS (v := .d (.lit (.bool false))) (aA rfl) (aF hS rfl) c52 rfl rfl)),
      fun S hS => aG rfl (aR rfl (bS (v := .d (.lit (.bool (false)))) (aA rfl) (aF hS rfl) c47 (aF hS rfl) rfl)), trivial⟩⟩
              · exact cW (aV rfl (bC ⟨rfl, rfl, rfl, rfl, rfl, trivial⟩))
           ·refine aH ?_
            refine bX rfl (fun c55 => ?_) (fun c55 => ?_)
            ·have h := aZ c55 h
             refine aI ?_
             refine aD ?_
             obtain ⟨r56, h57, h⟩ := bind_some h
             refine tr1 rfl (cP (aA rfl) (.func _ _ Try.call14) rfl rfl (BVs.refl _ _) (kG h57) rfl) ?_
             refine tr1 rfl (aK (v := .d (.lit (.bool r56))) (aA rfl) rfl rfl) ?_
             refine aH ?_
             have h := Option.some.inj h
             subst h
             refine cR (cO (cV (l := [6]) ⟨rfl, trivial⟩)) ?_
             exact bQ ⟨rfl, _, .one _, rfl, rfl⟩
            ·have h := aY c55 h
             refine eM ?_
             refine aD ?_
             refine tr1 rfl (aC (v := .d (.lit (.int .i64 i_2_40))) (aA rfl) rfl rfl) ?_
             refine tr1 rfl (bT (aA rfl) rfl rfl rfl) ?_
             refine tr1 rfl (aK (v := .d (.lit (.int .i64 ((w64 (i_2_40 + 1)))))) (aA rfl) rfl rfl) ?_
             refine aH ?_
             exact ⟨(w64 (i_2_40 + 1)), h, bF [0, 1] rfl rfl (aV rfl (bC ⟨rfl, rfl, rfl, rfl, trivial⟩))⟩
          ·have h := aY c42 h
           refine dD ?_
           refine .inl ⟨rfl, ?_⟩
           simp only [iJ] at h
           refine aI ?_
           obtain ⟨x59, h60, h⟩ := bind_some h
           refine sF mix 10 [1, 3, 5, 9] (fun X58 => [(140, .d (.lit (X58 2).v)), (147, .d (.sl 5 ((([(aE.mk 5 0 x_2.Place x_2.A x25)])).map aL)))]) (fun X58 => [.box b1 0 (aT t_0), .box b2 0 (fC x_2), .arr (X58 2).v 32 5 (x59.map aL)]) ?_ ?_
           ·refine ⟨1, fun X58 => [(138, 0, .d (.lit (X58 0).v)), (139, 1, .d (.sl 5 (l_1.map aL))), (140, 2, .d (.lit (X58 2).v)), (141, 3, .bp b2 0 1), (142, 4, .d (.lit (.int .i64 x_2.Place))), (143, 5, .bp b2 0 2), (144, 6, .d (.lit (.int .i64 x_2.A))), (145, 7, .d (.lit (.int .i64 x25))), (146, 8, .agg (aL (aE.mk 5 0 x_2.Place x_2.A x25))), (147, 9, .d (.sl 5 ((([(aE.mk 5 0 x_2.Place x_2.A x25)])).map aL)))], fun X58 => [([], .box b1 0 (aT t_0)), ([], .box b2 0 (fC x_2)), ([(2, .arr (X58 2).v 32 5 (x59.map aL)), (0, .arr (X58 0).v 32 5 (([] : List aE).map aL))], nob)], ?_, ?_⟩
            · exact ⟨by kernel_rfl, by kernel_rfl, by kernel_rfl, fun _ => by kernel_rfl, fun _ => by kernel_rfl, fun _ => by kernel_rfl, fun _ => rfl, [([], [2]), ([], [2]), ([0, 1], []), ([], []), ([3], []), ([], []), ([5], []), ([], []), ([4, 6, 7], []), ([8], [])], by kernel_rfl, ⟨fun X58 S hw hi hS => aBh (X := X58) (p := 2) (v := fun x => .d (.lit x.v)) (mo := fun x => .arr x.v 32 5 (([] : List aE).map aL)) hS hi rfl rfl (fun _ => rfl) hw (fun _ => rfl) (fun _ => rfl) (fun _ => rfl) (fun _ => ⟨rfl, rfl, .inl rfl, ⟨rfl, rfl, .inr rfl, ⟨rfl, rfl, .inr rfl, ⟨rfl, rfl, .inr rfl, ⟨rfl, rfl, .inr rfl, ⟨rfl, rfl, .inr rfl, ⟨rfl, rfl, .inr rfl, ⟨rfl, rfl, .inr rfl, ⟨rfl, rfl, .inr rfl, ⟨rfl, rfl, .inr rfl, trivial⟩⟩⟩⟩⟩⟩⟩⟩⟩⟩) (fun _ => ⟨trivial, rfl, ⟨trivial, rfl, ⟨⟨rfl, .inr rfl, ⟨rfl, .inl rfl, trivial⟩⟩, rfl, trivial⟩⟩⟩) (sE (xV (aA rfl) eK rfl pan (rows := (([] : List aE)).map aL) rfl (dF (f := aL) fun _ => rfl) rfl (by decide)) (by rintro _ ⟨w, rfl⟩; exact ⟨⟨0, w⟩, bF [0, 1, 3] rfl rfl (le_refl _)⟩)),
      fun X58 S hw hi hS => gR (X := X58) rfl (hw X58) rfl (aR rfl (aC (v := .d (.sl 5 (l_1.map aL))) (aA rfl) (aF hS rfl) rfl)),
      fun X58 S hw hi hS => aBh (X := X58) (p := 2) (v := fun x => .d (.lit x.v)) (mo := fun x => .arr x.v 32 5 (x59.map aL)) hS hi rfl rfl (fun _ => rfl) hw (fun _ => rfl) (fun _ => rfl) (fun _ => rfl) (fun _ => ⟨rfl, rfl, .inr rfl, ⟨rfl, rfl, .inr rfl, ⟨rfl, rfl, .inl rfl, ⟨rfl, rfl, .inr rfl, ⟨rfl, rfl, .inr rfl, ⟨rfl, rfl, .inr rfl, ⟨rfl, rfl, .inr rfl, ⟨rfl, rfl, .inr rfl, ⟨rfl, rfl, .inr rfl, ⟨rfl, rfl, .inr rfl, trivial⟩⟩⟩⟩⟩⟩⟩⟩⟩⟩) (fun _ => ⟨trivial, rfl, ⟨trivial, rfl, ⟨⟨rfl, .inl rfl, ⟨rfl, .inr rfl, trivial⟩⟩, rfl, trivial⟩⟩⟩) (sE (fD (i := 2) (aA rfl) eK (aF hS rfl) (og hS rfl rfl) (aF hS rfl) (fun _ => rfl) h60 rfl) (by rintro _ ⟨w, rfl⟩; exact ⟨⟨0, w⟩, Ent.refl _⟩)),
      fun X58 S hw hi hS => gR (X := X58) rfl (hw X58) rfl (aR rfl (aU (aA rfl) (aF hS rfl) tL)),
      fun X58 S hw hi hS => gR (X := X58) rfl (hw X58) rfl (aR rfl (aW (aA rfl) (aF hS rfl) (i := 1) (og hS rfl rfl) rfl bG)),
      fun X58 S hw hi hS => gR (X := X58) rfl (hw X58) rfl (aR rfl (aU (aA rfl) (aF hS rfl) iD)),
      fun X58 S hw hi hS => gR (X := X58) rfl (hw X58) rfl (aR rfl (aW (aA rfl) (aF hS rfl) (i := 1) (og hS rfl rfl) rfl bG)),
      fun X58 S hw hi hS => gR (X := X58) rfl (hw X58) rfl (aR rfl (aC (v := .d (.lit (.int .i64 x25))) (aA rfl) (aF hS rfl) rfl)),
      fun X58 S hw hi hS => gR (X := X58) rfl (hw X58) rfl (aR rfl (eV (aA rfl) yB (zs := [.lit (.int .i64 0), .lit (.int .i64 0), .lit (.int .i64 0), .lit (.int .i64 0), .lit (.int .i64 0)]) rfl rfl rfl (pa2 rfl (pa2 (aF hS rfl) (pa2 (aF hS rfl) (pa2 (aF hS rfl) pan)))) (es := [.lit (.int .i64 5), .lit (.int .i64 0), .lit (.int .i64 x_2.Place), .lit (.int .i64 x_2.A), .lit (.int .i64 x25)]) rfl)),
      fun X58 S hw hi hS => gR (X := X58) rfl (hw X58) rfl (aR rfl (fN (aA rfl) eK rfl (pa2 (aF hS rfl) pan) (rows := ([(aE.mk 5 0 x_2.Place x_2.A x25)]).map aL) rfl (dF (f := aL) fun _ => rfl) rfl (by decide))), trivial⟩⟩
            · exact fun X58 => cW (aV rfl (aV rfl (bC ⟨rfl, rfl, rfl, rfl, trivial⟩)))
           ·intro X58
            obtain ⟨x61, h62, h⟩ := bind_some h
            refine cB rfl (fD (i := 2) (aA rfl) eK rfl rfl rfl (fun _ => rfl) h62 rfl) ?_
            rintro _ ⟨v63, rfl⟩
            refine kU (aLg [.box b1 0 (aT t_0), .box b2 0 (fC x_2)] [.arr v63 32 5 (x61.map aL)] rfl (aMb (v' := .d (.sl 5 (x61.map aL))) (.d (aLf (dF (f := aL) fun _ => rfl))) (aJo _ _))) ?_
            refine tr1 rfl (aK (v := .d (.sl 5 (x61.map aL))) (aA rfl) rfl rfl) ?_
            refine aH ?_
            refine aI ?_
            refine aD ?_
            refine tr1 rfl (bP (aA rfl) rfl (i := 0) rfl dY (es := (aT t_0)) rfl rfl) ?_
            refine tr1 rfl (aC (v := .d (.sl 5 (l_1.map aL))) (aA rfl) rfl rfl) ?_
            obtain ⟨r64, h65, h⟩ := bind_some h
            refine tr1 rfl (fW (aA rfl) (.func _ _ Try.call21) rfl rfl (tI _ _ h65)) ?_
            refine tr1 rfl (aC (v := .tup [.d (.sl 4 (r64.1.map bH)), .d (.sl 1 (r64.2.1.map aP)), .d (.lit (.bool r64.2.2))]) (aA rfl) rfl rfl) ?_
            refine tr1 rfl (bN (aA rfl) rfl rfl) ?_
            refine tr1 rfl (bN (aA rfl) rfl rfl) ?_
            refine tr1 rfl (bN (aA rfl) rfl rfl) ?_
            refine tr1 rfl (aK (v := .d (.sl 4 (r64.1.map bH))) (aA rfl) rfl rfl) ?_
            refine tr1 rfl (aK (v := .d (.sl 1 (r64.2.1.map aP))) (aA rfl) rfl rfl) ?_
            refine tr1 rfl (aK (v := .d (.lit (.bool r64.2.2))) (aA rfl) rfl rfl) ?_
            refine aH ?_
            refine aI ?_
            refine aD ?_
            refine tr1 rfl (bP (aA rfl) rfl (i := 0) rfl dY (es := (aT t_0)) rfl rfl) ?_
            refine tr1 rfl (aC (v := .d (.sl 5 (x61.map aL))) (aA rfl) rfl rfl) ?_
            obtain ⟨r66, h67, h⟩ := bind_some h
            refine tr1 rfl (fW (aA rfl) (.func _ _ Try.call21) rfl rfl (tI _ _ h67)) ?_
            refine tr1 rfl (aC (v := .tup [.d (.sl 4 (r66.1.map bH)), .d (.sl 1 (r66.2.1.map aP)), .d (.lit (.bool r66.2.2))]) (aA rfl) rfl rfl) ?_
            refine tr1 rfl (bN (aA rfl) rfl rfl) ?_
            refine tr1 rfl (bN (aA rfl) rfl rfl) ?_
            refine tr1 rfl (bN (aA rfl) rfl rfl) ?_
            refine tr1 rfl (aK (v := .d (.sl 4 (r66.1.map bH))) (aA rfl) rfl rfl) ?_
            refine tr1 rfl (aK (v := .d (.sl 1 (r66.2.1.map aP))) (aA rfl) rfl rfl) ?_
            refine tr1 rfl (aK (v := .d (.lit (.bool r66.2.2))) (aA rfl) rfl rfl) ?_
            refine aH ?_
            refine aI ?_
            refine aI ?_
            refine aD ?_
            refine tr1 rfl (aC (v := .d (.lit (.bool r64.2.2))) (aA rfl) rfl rfl) ?_
            refine tr1 rfl (fP (aA rfl) rfl) ?_
            refine tr1 rfl (aC (v := .d (.lit (.bool (!r64.2.2)))) (aA rfl) rfl rfl) ?_
            obtain ⟨b68, h69, h⟩ := bind_some h
            refine cE 3 [1, 3, 5, 9, 12, 13, 14, 16, 17] 168 b68 ?_ ?_
            ·refine bJ (!r64.2.2) (fun c122 => ?_) (fun c122 => ?_)
             ·have h69 := aZ c122 h69
              refine aN rfl rfl (aA rfl) rfl (aA rfl) rfl c122 ?_
              refine aN rfl rfl (aA rfl) rfl (aA rfl) rfl c122 ?_
              refine tr1 rfl (bU (v := .d (.lit (.bool true))) (aA rfl) rfl c122 rfl rfl) ?_
              have h69 := Option.some.inj h69
              subst h69
              refine aH (bD rfl ⟨rfl, rfl, rfl, rfl, rfl, rfl, rfl, rfl, rfl, trivial⟩ rfl)
             ·have h69 := aY c122 h69
              refine aM rfl rfl (aA rfl) rfl c122 (aC (v := .d (.lit (.bool r66.2.2))) (aA rfl) rfl rfl) ?_
              refine aM rfl rfl (aA rfl) rfl c122 (fP (aA rfl) rfl) ?_
              refine tr1 rfl (bS (v := .d (.lit (.bool (!r66.2.2)))) (aA rfl) rfl c122 rfl rfl) ?_
              have h69 := Option.some.inj h69
              subst h69
              refine aH (bD rfl ⟨rfl, rfl, rfl, rfl, rfl, rfl, rfl, rfl, rfl, trivial⟩ rfl)
            ·refine aH ?_
             refine bX rfl (fun c70 => ?_) (fun c70 => ?_)
             ·have h := aZ c70 h
              refine aI ?_
              refine aD ?_
              refine tr1 rfl (aK (v := .d (.lit (.bool false))) (aA rfl) rfl rfl) ?_
              refine aH ?_
              have h := Option.some.inj h
              subst h
              refine cR (cO (cV (l := [6]) ⟨rfl, trivial⟩)) ?_
              exact bQ ⟨rfl, _, .one _, rfl, rfl⟩
             ·have h := aY c70 h
              refine bV ?_
              refine aI ?_
              refine aI ?_
              refine aD ?_
              refine tr1 rfl (aK (v := .d (.lit (.int .i64 0))) (aA rfl) rfl rfl) ?_
              refine aH ?_
              refine cG ?_
              refine dR [1, 3, 5, 9, 12, 13, 14, 16, 17] (fun (s71 : Int) => [(19, .d (.lit (.int .i64 s71)))]) (fun (s71 : Int) => [.box b1 0 (aT t_0), .box b2 0 (fC x_2)]) (fun (k : Nat) (s71 : Int) => dI l_1 x25 x61 r64.1 r64.2.1 r66.1 r66.2.1 t_0 x_2 k s71) (fun _ => rfl) (0) h (bF [0, 1] rfl rfl (aV rfl (bC ⟨rfl, rfl, rfl, rfl, rfl, rfl, rfl, rfl, rfl, trivial⟩))) ?_
              rintro k72 i_4_71 h
              simp only [dI] at h
              refine aI ?_
              refine aI ?_
              refine aD ?_
              refine tr1 rfl (aC (v := .d (.lit (.int .i64 i_4_71))) (aA rfl) rfl rfl) ?_
              refine tr1 rfl (aC (v := .d (.sl 4 (r64.1.map bH))) (aA rfl) rfl rfl) ?_
              refine tr1 rfl (dV (aA rfl) rfl kT.of) ?_
              refine tr1 rfl (bI (aA rfl) rfl rfl rfl) ?_
              refine aH ?_
              refine bX rfl (fun c73 => ?_) (fun c73 => ?_)
              ·have h := aZ c73 h
               refine bV ?_
               refine aI ?_
               refine cG ?_
               refine aI ?_
               obtain ⟨x74, h75, h⟩ := bind_some h
               obtain ⟨r76, h77, h⟩ := bind_some h
               obtain ⟨x78, h79, h⟩ := bind_some h
               obtain ⟨b80, h81, h⟩ := bind_some h
               obtain ⟨b89, h90, h⟩ := bind_some h
               refine dW mix 47 [1, 3, 5, 9, 12, 13, 14, 16, 17, 19] [(221, .d (.lit (.bool b89)))] ?_ ?_
               ·refine bJ (!decide (r76 = x78.One)) (fun c82 => ?_) (fun c82 => ?_)
                ·have h81 := aZ c82 h81
                 have h81 := Option.some.inj h81
                 subst h81
                 have c91 : true = true := rfl
                 have h90 := aZ c91 h90
                 have h90 := Option.some.inj h90
                 subst h90
                 refine ⟨[(175, 0, .d (.sl 4 (r64.1.map bH))), (176, 1, .d (.lit (.int .i64 i_4_71))), (177, 2, .cp [.lit (.int .i64 x74.Round), .lit (.int .i64 x74.Place), .lit (.int .i64 x74.One), .lit (.int .i64 x74.Two)]), (178, 3, .cp [.lit (.int .i64 x74.One)]), (179, 4, .d (.lit (.int .i64 x74.One))), (180, 5, .d (.lit (.int .i64 x25))), (181, 6, .bp b2 0 2), (182, 7, .d (.lit (.int .i64 x_2.A))), (183, 8, .d (.lit (.int .i64 r76))), (184, 9, .d (.sl 4 (r66.1.map bH))), (185, 10, .d (.lit (.int .i64 i_4_71))), (186, 11, .cp [.lit (.int .i64 x78.Round), .lit (.int .i64 x78.Place), .lit (.int .i64 x78.One), .lit (.int .i64 x78.Two)]), (187, 12, .cp [.lit (.int .i64 x78.One)]), (188, 13, .d (.lit (.int .i64 x78.One))), (189, 14, .d (.lit (.bool ((!decide (r76 = x78.One)))))), (190, 15, .d (.lit (.bool ((!decide (r76 = x78.One)))))), (191, 16, .tup []), (192, 17, .tup []), (193, 18, .tup []), (194, 19, .tup []), (195, 20, .tup []), (196, 21, .tup []), (197, 22, .tup []), (198, 23, .tup []), (199, 24, .tup []), (200, 25, .tup []), (201, 26, .tup []), (202, 27, .tup []), (203, 28, .tup []), (204, 29, .tup []), (205, 30, .tup []), (206, 31, .d (.lit (.bool true))), (207, 32, .d (.lit (.bool (true)))), (208, 33, .tup []), (209, 34, .tup []), (210, 35, .tup []), (211, 36, .tup []), (212, 37, .tup []), (213, 38, .tup []), (214, 39, .tup []), (215, 40, .tup []), (216, 41, .tup []), (217, 42, .tup []), (218, 43, .tup []), (219, 44, .tup []), (220, 45, .tup []), (221, 46, .d (.lit (.bool true)))], ?_, ?_⟩
                 · exact ⟨by kernel_rfl, by kernel_rfl, by kernel_rfl, by kernel_rfl, by kernel_rfl, [([], []), ([], []), ([0, 1], []), ([2], []), ([3], []), ([], []), ([], []), ([6], []), ([4, 5, 7], []), ([], []), ([], []), ([9, 10], []), ([11], []), ([12], []), ([8, 13], []), ([14], []), ([15], []), ([15], []), ([15, 16, 17], []), ([15, 18], []), ([15, 19], []), ([15], []), ([15], []), ([15, 22], []), ([15, 20, 21, 23], []), ([15], []), ([15], []), ([15, 25, 26], []), ([15, 27], []), ([15, 28], []), ([15, 24, 29], []), ([15, 30], []), ([31], []), ([32], []), ([32], []), ([32, 33, 34], []), ([32, 35], []), ([32], []), ([32], []), ([32, 38], []), ([32, 36, 37, 39], []), ([32], []), ([32], []), ([32, 41, 42], []), ([32, 43], []), ([32, 40, 44], []), ([32, 45], [])], by kernel_rfl, ⟨fun S hS => aG rfl (aR rfl (aC (v := .d (.sl 4 (r64.1.map bH))) (aA rfl) (aF hS rfl) rfl)),
      fun S hS => aG rfl (aR rfl (aC (v := .d (.lit (.int .i64 i_4_71))) (aA rfl) (aF hS rfl) rfl)),
      fun S hS => aG rfl (aR rfl (bL (aA rfl) (aF hS rfl) (aF hS rfl) kT.of (bW bH h75))),
      fun S hS => aG rfl (aR rfl (cC (aA rfl) (aF hS rfl) rF (es := [.lit (.int .i64 x74.One)]) rfl)),
      fun S hS => aG rfl (aR rfl (bM (aA rfl) (aF hS rfl) bG)),
      fun S hS => aG rfl (aR rfl (aC (v := .d (.lit (.int .i64 x25))) (aA rfl) (aF hS rfl) rfl)),
      fun S hS => aG rfl (aR rfl (aU (aA rfl) (aF hS rfl) iD)),
      fun S hS => aG rfl (aR rfl (aW (aA rfl) (aF hS rfl) (i := 1) rfl rfl bG)),
      fun S hS => aG rfl (aR rfl (cP (aA rfl) (.func _ _ Try.call26) (ev2 (aF hS rfl) (ev2 (aF hS rfl) (ev2 (aF hS rfl) evn))) rfl (BVs.refl _ _) (gZ _ _ _ h77) rfl)),
      fun S hS => aG rfl (aR rfl (aC (v := .d (.sl 4 (r66.1.map bH))) (aA rfl) (aF hS rfl) rfl)),
      fun S hS => aG rfl (aR rfl (aC (v := .d (.lit (.int .i64 i_4_71))) (aA rfl) (aF hS rfl) rfl)),
      fun S hS => aG rfl (aR rfl (bL (aA rfl) (aF hS rfl) (aF hS rfl) kT.of (bW bH h79))),
      fun S hS => aG rfl (aR rfl (cC (aA rfl) (aF hS rfl) rF (es := [.lit (.int .i64 x78.One)]) rfl)),
      fun S hS => aG rfl (aR rfl (bM (aA rfl) (aF hS rfl) bG)),
      fun S hS => aG rfl (aR rfl (bI (aA rfl) (aF hS rfl) (aF hS rfl) rfl)),
      fun S hS => aG rfl (aR rfl (aC (v := .d (.lit (.bool ((!decide (r76 = x78.One)))))) (aA rfl) (aF hS rfl) rfl)),
      fun S hS => aG rfl (bE rfl rfl (aA rfl) rfl (aA rfl) (aS hS rfl) c82),
      fun S hS => aG rfl (bE rfl rfl (aA rfl) rfl (aA rfl) (aS hS rfl) c82),
      fun S hS => aG rfl (bE rfl rfl (aA rfl) rfl (aA rfl) (aS hS rfl) c82),
      fun S hS => aG rfl (bE rfl rfl (aA rfl) rfl (aA rfl) (aS hS rfl) c82),
      fun S hS => aG rfl (bE rfl rfl (aA rfl) rfl (aA rfl) (aS hS rfl) c82),
      fun S hS => aG rfl (bE rfl rfl (aA rfl) rfl (aA rfl) (aS hS rfl) c82),
      fun S hS => aG rfl (bE rfl rfl (aA rfl) rfl (aA rfl) (aS hS rfl) c82),
      fun S hS => aG rfl (bE rfl rfl (aA rfl) rfl (aA rfl) (aS hS rfl) c82),
      fun S hS => aG rfl (bE rfl rfl (aA rfl) rfl (aA rfl) (aS hS rfl) c82),
      fun S hS => aG rfl (bE rfl rfl (aA rfl) rfl (aA rfl) (aS hS rfl) c82),
      fun S hS => aG rfl (bE rfl rfl (aA rfl) rfl (aA rfl) (aS hS rfl) c82),
      fun S hS => aG rfl (bE rfl rfl (aA rfl) rfl (aA rfl) (aS hS rfl) c82),
      fun S hS => aG rfl (bE rfl rfl (aA rfl) rfl (aA rfl) (aS hS rfl) c82),
      fun S hS => aG rfl (bE rfl rfl (aA rfl) rfl (aA rfl) (aS hS rfl) c82),
      fun S hS => aG rfl (bE rfl rfl (aA rfl) rfl (aA rfl) (aS hS rfl) c82),
      fun S hS => aG rfl (aR rfl (bU (v := .d (.lit (.bool true))) (aA rfl) (aF hS rfl) c82 rfl rfl)),
      fun S hS => aG rfl (aR rfl (aC (v := .d (.lit (.bool (true)))) (aA rfl) (aF hS rfl) rfl)),
      fun S hS => aG rfl (bE rfl rfl (aA rfl) rfl (aA rfl) (aS hS rfl) c91),
      fun S hS => aG rfl (bE rfl rfl (aA rfl) rfl (aA rfl) (aS hS rfl) c91),
      fun S hS => aG rfl (bE rfl rfl (aA rfl) rfl (aA rfl) (aS hS rfl) c91),
      fun S hS => aG rfl (bE rfl rfl (aA rfl) rfl (aA rfl) (aS hS rfl) c91),
      fun S hS => aG rfl (bE rfl rfl (aA rfl) rfl (aA rfl) (aS hS rfl) c91),
      fun S hS => aG rfl (bE rfl rfl (aA rfl) rfl (aA rfl) (aS hS rfl) c91),
      fun S hS => aG rfl (bE rfl rfl (aA rfl) rfl (aA rfl) (aS hS rfl) c91),
      fun S hS => aG rfl (bE rfl rfl (aA rfl) rfl (aA rfl) (aS hS rfl) c91),
      fun S hS => aG rfl (bE rfl rfl (aA rfl) rfl (aA rfl) (aS hS rfl) c91),
      fun S hS => aG rfl (bE rfl rfl (aA rfl) rfl (aA rfl) (aS hS rfl) c91),
      fun S hS => aG rfl (bE rfl rfl (aA rfl) rfl (aA rfl) (aS hS rfl) c91),
      fun S hS => aG rfl (bE rfl rfl (aA rfl) rfl (aA rfl) (aS hS rfl) c91),
      fun S hS => aG rfl (bE rfl rfl (aA rfl) rfl (aA rfl) (aS hS rfl) c91),
      fun S hS => aG rfl (aR rfl (bU (v := .d (.lit (.bool true))) (aA rfl) (aF hS rfl) c91 rfl rfl)), trivial⟩⟩
                 · exact cW (aV rfl (bC ⟨rfl, rfl, rfl, rfl, rfl, rfl, rfl, rfl, rfl, rfl, trivial⟩))
                ·have h81 := aY c82 h81
                 obtain ⟨x83, h84, h81⟩ := bind_some h81
                 obtain ⟨r85, h86, h81⟩ := bind_some h81
                 obtain ⟨x87, h88, h81⟩ := bind_some h81
                 have h81 := Option.some.inj h81
                 subst h81
                 refine bJ (!decide (r85 = x87.Two)) (fun c91 => ?_) (fun c91 => ?_)
                 ·have h90 := aZ c91 h90
                  have h90 := Option.some.inj h90
                  subst h90
                  refine ⟨[(175, 0, .d (.sl 4 (r64.1.map bH))), (176, 1, .d (.lit (.int .i64 i_4_71))), (177, 2, .cp [.lit (.int .i64 x74.Round), .lit (.int .i64 x74.Place), .lit (.int .i64 x74.One), .lit (.int .i64 x74.Two)]), (178, 3, .cp [.lit (.int .i64 x74.One)]), (179, 4, .d (.lit (.int .i64 x74.One))), (180, 5, .d (.lit (.int .i64 x25))), (181, 6, .bp b2 0 2), (182, 7, .d (.lit (.int .i64 x_2.A))), (183, 8, .d (.lit (.int .i64 r76))), (184, 9, .d (.sl 4 (r66.1.map bH))), (185, 10, .d (.lit (.int .i64 i_4_71))), (186, 11, .cp [.lit (.int .i64 x78.Round), .lit (.int .i64 x78.Place), .lit (.int .i64 x78.One), .lit (.int .i64 x78.Two)]), (187, 12, .cp [.lit (.int .i64 x78.One)]), (188, 13, .d (.lit (.int .i64 x78.One))), (189, 14, .d (.lit (.bool ((!decide (r76 = x78.One)))))), (190, 15, .d (.lit (.bool ((!decide (r76 = x78.One)))))), (191, 16, .d (.sl 4 (r64.1.map bH))), (192, 17, .d (.lit (.int .i64 i_4_71))), (193, 18, .cp [.lit (.int .i64 x83.Round), .lit (.int .i64 x83.Place), .lit (.int .i64 x83.One), .lit (.int .i64 x83.Two)]), (194, 19, .cp [.lit (.int .i64 x83.Two)]), (195, 20, .d (.lit (.int .i64 x83.Two))), (196, 21, .d (.lit (.int .i64 x25))), (197, 22, .bp b2 0 2), (198, 23, .d (.lit (.int .i64 x_2.A))), (199, 24, .d (.lit (.int .i64 r85))), (200, 25, .d (.sl 4 (r66.1.map bH))), (201, 26, .d (.lit (.int .i64 i_4_71))), (202, 27, .cp [.lit (.int .i64 x87.Round), .lit (.int .i64 x87.Place), .lit (.int .i64 x87.One), .lit (.int .i64 x87.Two)]), (203, 28, .cp [.lit (.int .i64 x87.Two)]), (204, 29, .d (.lit (.int .i64 x87.Two))), (205, 30, .d (.lit (.bool ((!decide (r85 = x87.Two)))))), (206, 31, .d (.lit (.bool ((!decide (r85 = x87.Two)))))), (207, 32, .d (.lit (.bool (!decide (r85 = x87.Two))))), (208, 33, .tup []), (209, 34, .tup []), (210, 35, .tup []), (211, 36, .tup []), (212, 37, .tup []), (213, 38, .tup []), (214, 39, .tup []), (215, 40, .tup []), (216, 41, .tup []), (217, 42, .tup []), (218, 43, .tup []), (219, 44, .tup []), (220, 45, .tup []), (221, 46, .d (.lit (.bool true)))], ?_, ?_⟩
                  · exact ⟨by kernel_rfl, by kernel_rfl, by kernel_rfl, by kernel_rfl, by kernel_rfl, [([], []), ([], []), ([0, 1], []), ([2], []), ([3], []), ([], []), ([], []), ([6], []), ([4, 5, 7], []), ([], []), ([], []), ([9, 10], []), ([11], []), ([12], []), ([8, 13], []), ([14], []), ([15], []), ([15], []), ([15, 16, 17], []), ([15, 18], []), ([15, 19], []), ([15], []), ([15], []), ([15, 22], []), ([15, 20, 21, 23], []), ([15], []), ([15], []), ([15, 25, 26], []), ([15, 27], []), ([15, 28], []), ([15, 24, 29], []), ([15, 30], []), ([31], []), ([32], []), ([32], []), ([32, 33, 34], []), ([32, 35], []), ([32], []), ([32], []), ([32, 38], []), ([32, 36, 37, 39], []), ([32], []), ([32], []), ([32, 41, 42], []), ([32, 43], []), ([32, 40, 44], []), ([32, 45], [])], by kernel_rfl, ⟨fun S hS => aG rfl (aR rfl (aC (v := .d (.sl 4 (r64.1.map bH))) (aA rfl) (aF hS rfl) rfl)),
      fun S hS => aG rfl (aR rfl (aC (v := .d (.lit (.int .i64 i_4_71))) (aA rfl) (aF hS rfl) rfl)),
      fun S hS => aG rfl (aR rfl (bL (aA rfl) (aF hS rfl) (aF hS rfl) kT.of (bW bH h75))),
      fun S hS => aG rfl (aR rfl (cC (aA rfl) (aF hS rfl) rF (es := [.lit (.int .i64 x74.One)]) rfl)),
      fun S hS => aG rfl (aR rfl (bM (aA rfl) (aF hS rfl) bG)),
      fun S hS => aG rfl (aR rfl (aC (v := .d (.lit (.int .i64 x25))) (aA rfl) (aF hS rfl) rfl)),
      fun S hS => aG rfl (aR rfl (aU (aA rfl) (aF hS rfl) iD)),
      fun S hS => aG rfl (aR rfl (aW (aA rfl) (aF hS rfl) (i := 1) rfl rfl bG)),
      fun S hS => aG rfl (aR rfl (cP (aA rfl) (.func _ _ Try.call26) (ev2 (aF hS rfl) (ev2 (aF hS rfl) (ev2 (aF hS rfl) evn))) rfl (BVs.refl _ _) (gZ _ _ _ h77) rfl)),
      fun S hS => aG rfl (aR rfl (aC (v := .d (.sl 4 (r66.1.map bH))) (aA rfl) (aF hS rfl) rfl)),
      fun S hS => aG rfl (aR rfl (aC (v := .d (.lit (.int .i64 i_4_71))) (aA rfl) (aF hS rfl) rfl)),
      fun S hS => aG rfl (aR rfl (bL (aA rfl) (aF hS rfl) (aF hS rfl) kT.of (bW bH h79))),
      fun S hS => aG rfl (aR rfl (cC (aA rfl) (aF hS rfl) rF (es := [.lit (.int .i64 x78.One)]) rfl)),
      fun S hS => aG rfl (aR rfl (bM (aA rfl) (aF hS rfl) bG)),
      fun S hS => aG rfl (aR rfl (bI (aA rfl) (aF hS rfl) (aF hS rfl) rfl)),
      fun S hS => aG rfl (aR rfl (aC (v := .d (.lit (.bool ((!decide (r76 = x78.One)))))) (aA rfl) (aF hS rfl) rfl)),
      fun S hS => aG rfl (bB rfl rfl (aA rfl) (aS hS rfl) c82 (aC (v := .d (.sl 4 (r64.1.map bH))) (aA rfl) (aF hS rfl) rfl)),
      fun S hS => aG rfl (bB rfl rfl (aA rfl) (aS hS rfl) c82 (aC (v := .d (.lit (.int .i64 i_4_71))) (aA rfl) (aF hS rfl) rfl)),
      fun S hS => aG rfl (bB rfl rfl (aA rfl) (aS hS rfl) c82 (bL (aA rfl) (aF hS rfl) (aF hS rfl) kT.of (bW bH h84))),
      fun S hS => aG rfl (bB rfl rfl (aA rfl) (aS hS rfl) c82 (cC (aA rfl) (aF hS rfl) vT (es := [.lit (.int .i64 x83.Two)]) rfl)),
      fun S hS => aG rfl (bB rfl rfl (aA rfl) (aS hS rfl) c82 (bM (aA rfl) (aF hS rfl) bG)),
      fun S hS => aG rfl (bB rfl rfl (aA rfl) (aS hS rfl) c82 (aC (v := .d (.lit (.int .i64 x25))) (aA rfl) (aF hS rfl) rfl)),
      fun S hS => aG rfl (bB rfl rfl (aA rfl) (aS hS rfl) c82 (aU (aA rfl) (aF hS rfl) iD)),
      fun S hS => aG rfl (bB rfl rfl (aA rfl) (aS hS rfl) c82 (aW (aA rfl) (aF hS rfl) (i := 1) rfl rfl bG)),
      fun S hS => aG rfl (bB rfl rfl (aA rfl) (aS hS rfl) c82 (cP (aA rfl) (.func _ _ Try.call26) (ev2 (aF hS rfl) (ev2 (aF hS rfl) (ev2 (aF hS rfl) evn))) rfl (BVs.refl _ _) (gZ _ _ _ h86) rfl)),
      fun S hS => aG rfl (bB rfl rfl (aA rfl) (aS hS rfl) c82 (aC (v := .d (.sl 4 (r66.1.map bH))) (aA rfl) (aF hS rfl) rfl)),
      fun S hS => aG rfl (bB rfl rfl (aA rfl) (aS hS rfl) c82 (aC (v := .d (.lit (.int .i64 i_4_71))) (aA rfl) (aF hS rfl) rfl)),
      fun S hS => aG rfl (bB rfl rfl (aA rfl) (aS hS rfl) c82 (bL (aA rfl) (aF hS rfl) (aF hS rfl) kT.of (bW bH h88))),
      fun S hS => aG rfl (bB rfl rfl (aA rfl) (aS hS rfl) c82 (cC (aA rfl) (aF hS rfl) vT (es := [.lit (.int .i64 x87.Two)]) rfl)),
      fun S hS => aG rfl (bB rfl rfl (aA rfl) (aS hS rfl) c82 (bM (aA rfl) (aF hS rfl) bG)),
      fun S hS => aG rfl (bB rfl rfl (aA rfl) (aS hS rfl) c82 (bI (aA rfl) (aF hS rfl) (aF hS rfl) rfl)),
      fun S hS => aG rfl (aR rfl (bS (v := .d (.lit (.bool ((!decide (r85 = x87.Two)))))) (aA rfl) (aF hS rfl) c82 (aF hS rfl) rfl)),
      fun S hS => aG rfl (aR rfl (aC (v := .d (.lit (.bool (!decide (r85 = x87.Two))))) (aA rfl) (aF hS rfl) rfl)),
      fun S hS => aG rfl (bE rfl rfl (aA rfl) rfl (aA rfl) (aS hS rfl) c91),
      fun S hS => aG rfl (bE rfl rfl (aA rfl) rfl (aA rfl) (aS hS rfl) c91),
      fun S hS => aG rfl (bE rfl rfl (aA rfl) rfl (aA rfl) (aS hS rfl) c91),
      fun S hS => aG rfl (bE rfl rfl (aA rfl) rfl (aA rfl) (aS hS rfl) c91),
      fun S hS => aG rfl (bE rfl rfl (aA rfl) rfl (aA rfl) (aS hS rfl) c91),
      fun S hS => aG rfl (bE rfl rfl (aA rfl) rfl (aA rfl) (aS hS rfl) c91),
      fun S hS => aG rfl (bE rfl rfl (aA rfl) rfl (aA rfl) (aS hS rfl) c91),
      fun S hS => aG rfl (bE rfl rfl (aA rfl) rfl (aA rfl) (aS hS rfl) c91),
      fun S hS => aG rfl (bE rfl rfl (aA rfl) rfl (aA rfl) (aS hS rfl) c91),
      fun S hS => aG rfl (bE rfl rfl (aA rfl) rfl (aA rfl) (aS hS rfl) c91),
      fun S hS => aG rfl (bE rfl rfl (aA rfl) rfl (aA rfl) (aS hS rfl) c91),
      fun S hS => aG rfl (bE rfl rfl (aA rfl) rfl (aA rfl) (aS hS rfl) c91),
      fun S hS => aG rfl (bE rfl rfl (aA rfl) rfl (aA rfl) (aS hS rfl) c91),
      fun S hS => aG rfl (aR rfl (bU (v := .d (.lit (.bool true))) (aA rfl) (aF hS rfl) c91 rfl rfl)), trivial⟩⟩
                  · exact cW (aV rfl (bC ⟨rfl, rfl, rfl, rfl, rfl, rfl, rfl, rfl, rfl, rfl, trivial⟩))
                 ·have h90 := aY c91 h90
                  obtain ⟨x92, h93, h90⟩ := bind_some h90
                  obtain ⟨r94, h95, h90⟩ := bind_some h90
                  obtain ⟨x96, h97, h90⟩ := bind_some h90
                  have h90 := Option.some.inj h90
                  subst h90
                  refine ⟨[(175, 0, .d (.sl 4 (r64.1.map bH))), (176, 1, .d (.lit (.int .i64 i_4_71))), (177, 2, .cp [.lit (.int .i64 x74.Round), .lit (.int .i64 x74.Place), .lit (.int .i64 x74.One), .lit (.int .i64 x74.Two)]), (178, 3, .cp [.lit (.int .i64 x74.One)]), (179, 4, .d (.lit (.int .i64 x74.One))), (180, 5, .d (.lit (.int .i64 x25))), (181, 6, .bp b2 0 2), (182, 7, .d (.lit (.int .i64 x_2.A))), (183, 8, .d (.lit (.int .i64 r76))), (184, 9, .d (.sl 4 (r66.1.map bH))), (185, 10, .d (.lit (.int .i64 i_4_71))), (186, 11, .cp [.lit (.int .i64 x78.Round), .lit (.int .i64 x78.Place), .lit (.int .i64 x78.One), .lit (.int .i64 x78.Two)]), (187, 12, .cp [.lit (.int .i64 x78.One)]), (188, 13, .d (.lit (.int .i64 x78.One))), (189, 14, .d (.lit (.bool ((!decide (r76 = x78.One)))))), (190, 15, .d (.lit (.bool ((!decide (r76 = x78.One)))))), (191, 16, .d (.sl 4 (r64.1.map bH))), (192, 17, .d (.lit (.int .i64 i_4_71))), (193, 18, .cp [.lit (.int .i64 x83.Round), .lit (.int .i64 x83.Place), .lit (.int .i64 x83.One), .lit (.int .i64 x83.Two)]), (194, 19, .cp [.lit (.int .i64 x83.Two)]), (195, 20, .d (.lit (.int .i64 x83.Two))), (196, 21, .d (.lit (.int .i64 x25))), (197, 22, .bp b2 0 2), (198, 23, .d (.lit (.int .i64 x_2.A))), (199, 24, .d (.lit (.int .i64 r85))), (200, 25, .d (.sl 4 (r66.1.map bH))), (201, 26, .d (.lit (.int .i64 i_4_71))), (202, 27, .cp [.lit (.int .i64 x87.Round), .lit (.int .i64 x87.Place), .lit (.int .i64 x87.One), .lit (.int .i64 x87.Two)]), (203, 28, .cp [.lit (.int .i64 x87.Two)]), (204, 29, .d (.lit (.int .i64 x87.Two))), (205, 30, .d (.lit (.bool ((!decide (r85 = x87.Two)))))), (206, 31, .d (.lit (.bool ((!decide (r85 = x87.Two)))))), (207, 32, .d (.lit (.bool (!decide (r85 = x87.Two))))), (208, 33, .d (.sl 1 (r64.2.1.map aP))), (209, 34, .d (.lit (.int .i64 i_4_71))), (210, 35, .cp [.lit (.int .i64 x92)]), (211, 36, .d (.lit (.int .i64 x92))), (212, 37, .d (.lit (.int .i64 x25))), (213, 38, .bp b2 0 2), (214, 39, .d (.lit (.int .i64 x_2.A))), (215, 40, .d (.lit (.int .i64 r94))), (216, 41, .d (.sl 1 (r66.2.1.map aP))), (217, 42, .d (.lit (.int .i64 i_4_71))), (218, 43, .cp [.lit (.int .i64 x96)]), (219, 44, .d (.lit (.int .i64 x96))), (220, 45, .d (.lit (.bool ((!decide (r94 = x96)))))), (221, 46, .d (.lit (.bool ((!decide (r94 = x96))))))], ?_, ?_⟩
                  · exact ⟨by kernel_rfl, by kernel_rfl, by kernel_rfl, by kernel_rfl, by kernel_rfl, [([], []), ([], []), ([0, 1], []), ([2], []), ([3], []), ([], []), ([], []), ([6], []), ([4, 5, 7], []), ([], []), ([], []), ([9, 10], []), ([11], []), ([12], []), ([8, 13], []), ([14], []), ([15], []), ([15], []), ([15, 16, 17], []), ([15, 18], []), ([15, 19], []), ([15], []), ([15], []), ([15, 22], []), ([15, 20, 21, 23], []), ([15], []), ([15], []), ([15, 25, 26], []), ([15, 27], []), ([15, 28], []), ([15, 24, 29], []), ([15, 30], []), ([31], []), ([32], []), ([32], []), ([32, 33, 34], []), ([32, 35], []), ([32], []), ([32], []), ([32, 38], []), ([32, 36, 37, 39], []), ([32], []), ([32], []), ([32, 41, 42], []), ([32, 43], []), ([32, 40, 44], []), ([32, 45], [])], by kernel_rfl, ⟨fun S hS => aG rfl (aR rfl (aC (v := .d (.sl 4 (r64.1.map bH))) (aA rfl) (aF hS rfl) rfl)),
      fun S hS => aG rfl (aR rfl (aC (v := .d (.lit (.int .i64 i_4_71))) (aA rfl) (aF hS rfl) rfl)),
      fun S hS => aG rfl (aR rfl (bL (aA rfl) (aF hS rfl) (aF hS rfl) kT.of (bW bH h75))),
      fun S hS => aG rfl (aR rfl (cC (aA rfl) (aF hS rfl) rF (es := [.lit (.int .i64 x74.One)]) rfl)),
      fun S hS => aG rfl (aR rfl (bM (aA rfl) (aF hS rfl) bG)),
      fun S hS => aG rfl (aR rfl (aC (v := .d (.lit (.int .i64 x25))) (aA rfl) (aF hS rfl) rfl)),
      fun S hS => aG rfl (aR rfl (aU (aA rfl) (aF hS rfl) iD)),
      fun S hS => aG rfl (aR rfl (aW (aA rfl) (aF hS rfl) (i := 1) rfl rfl bG)),
      fun S hS => aG rfl (aR rfl (cP (aA rfl) (.func _ _ Try.call26) (ev2 (aF hS rfl) (ev2 (aF hS rfl) (ev2 (aF hS rfl) evn))) rfl (BVs.refl _ _) (gZ _ _ _ h77) rfl)),
      fun S hS => aG rfl (aR rfl (aC (v := .d (.sl 4 (r66.1.map bH))) (aA rfl) (aF hS rfl) rfl)),
      fun S hS => aG rfl (aR rfl (aC (v := .d (.lit (.int .i64 i_4_71))) (aA rfl) (aF hS rfl) rfl)),
      fun S hS => aG rfl (aR rfl (bL (aA rfl) (aF hS rfl) (aF hS rfl) kT.of (bW bH h79))),
      fun S hS => aG rfl (aR rfl (cC (aA rfl) (aF hS rfl) rF (es := [.lit (.int .i64 x78.One)]) rfl)),
      fun S hS => aG rfl (aR rfl (bM (aA rfl) (aF hS rfl) bG)),
      fun S hS => aG rfl (aR rfl (bI (aA rfl) (aF hS rfl) (aF hS rfl) rfl)),
      fun S hS => aG rfl (aR rfl (aC (v := .d (.lit (.bool ((!decide (r76 = x78.One)))))) (aA rfl) (aF hS rfl) rfl)),
      fun S hS => aG rfl (bB rfl rfl (aA rfl) (aS hS rfl) c82 (aC (v := .d (.sl 4 (r64.1.map bH))) (aA rfl) (aF hS rfl) rfl)),
      fun S hS => aG rfl (bB rfl rfl (aA rfl) (aS hS rfl) c82 (aC (v := .d (.lit (.int .i64 i_4_71))) (aA rfl) (aF hS rfl) rfl)),
      fun S hS => aG rfl (bB rfl rfl (aA rfl) (aS hS rfl) c82 (bL (aA rfl) (aF hS rfl) (aF hS rfl) kT.of (bW bH h84))),
      fun S hS => aG rfl (bB rfl rfl (aA rfl) (aS hS rfl) c82 (cC (aA rfl) (aF hS rfl) vT (es := [.lit (.int .i64 x83.Two)]) rfl)),
      fun S hS => aG rfl (bB rfl rfl (aA rfl) (aS hS rfl) c82 (bM (aA rfl) (aF hS rfl) bG)),
      fun S hS => aG rfl (bB rfl rfl (aA rfl) (aS hS rfl) c82 (aC (v := .d (.lit (.int .i64 x25))) (aA rfl) (aF hS rfl) rfl)),
      fun S hS => aG rfl (bB rfl rfl (aA rfl) (aS hS rfl) c82 (aU (aA rfl) (aF hS rfl) iD)),
      fun S hS => aG rfl (bB rfl rfl (aA rfl) (aS hS rfl) c82 (aW (aA rfl) (aF hS rfl) (i := 1) rfl rfl bG)),
      fun S hS => aG rfl (bB rfl rfl (aA rfl) (aS hS rfl) c82 (cP (aA rfl) (.func _ _ Try.call26) (ev2 (aF hS rfl) (ev2 (aF hS rfl) (ev2 (aF hS rfl) evn))) rfl (BVs.refl _ _) (gZ _ _ _ h86) rfl)),
      fun S hS => aG rfl (bB rfl rfl (aA rfl) (aS hS rfl) c82 (aC (v := .d (.sl 4 (r66.1.map bH))) (aA rfl) (aF hS rfl) rfl)),
      fun S hS => aG rfl (bB rfl rfl (aA rfl) (aS hS rfl) c82 (aC (v := .d (.lit (.int .i64 i_4_71))) (aA rfl) (aF hS rfl) rfl)),
      fun S hS => aG rfl (bB rfl rfl (aA rfl) (aS hS rfl) c82 (bL (aA rfl) (aF hS rfl) (aF hS rfl) kT.of (bW bH h88))),
      fun S hS => aG rfl (bB rfl rfl (aA rfl) (aS hS rfl) c82 (cC (aA rfl) (aF hS rfl) vT (es := [.lit (.int .i64 x87.Two)]) rfl)),
      fun S hS => aG rfl (bB rfl rfl (aA rfl) (aS hS rfl) c82 (bM (aA rfl) (aF hS rfl) bG)),
      fun S hS => aG rfl (bB rfl rfl (aA rfl) (aS hS rfl) c82 (bI (aA rfl) (aF hS rfl) (aF hS rfl) rfl)),
      fun S hS => aG rfl (aR rfl (bS (v := .d (.lit (.bool ((!decide (r85 = x87.Two)))))) (aA rfl) (aF hS rfl) c82 (aF hS rfl) rfl)),
      fun S hS => aG rfl (aR rfl (aC (v := .d (.lit (.bool (!decide (r85 = x87.Two))))) (aA rfl) (aF hS rfl) rfl)),
      fun S hS => aG rfl (bB rfl rfl (aA rfl) (aS hS rfl) c91 (aC (v := .d (.sl 1 (r64.2.1.map aP))) (aA rfl) (aF hS rfl) rfl)),
      fun S hS => aG rfl (bB rfl rfl (aA rfl) (aS hS rfl) c91 (aC (v := .d (.lit (.int .i64 i_4_71))) (aA rfl) (aF hS rfl) rfl)),
      fun S hS => aG rfl (bB rfl rfl (aA rfl) (aS hS rfl) c91 (bL (aA rfl) (aF hS rfl) (aF hS rfl) bZ.of (bW aP h93))),
      fun S hS => aG rfl (bB rfl rfl (aA rfl) (aS hS rfl) c91 (bM (aA rfl) (aF hS rfl) bG)),
      fun S hS => aG rfl (bB rfl rfl (aA rfl) (aS hS rfl) c91 (aC (v := .d (.lit (.int .i64 x25))) (aA rfl) (aF hS rfl) rfl)),
      fun S hS => aG rfl (bB rfl rfl (aA rfl) (aS hS rfl) c91 (aU (aA rfl) (aF hS rfl) iD)),
      fun S hS => aG rfl (bB rfl rfl (aA rfl) (aS hS rfl) c91 (aW (aA rfl) (aF hS rfl) (i := 1) rfl rfl bG)),
      fun S hS => aG rfl (bB rfl rfl (aA rfl) (aS hS rfl) c91 (cP (aA rfl) (.func _ _ Try.call26) (ev2 (aF hS rfl) (ev2 (aF hS rfl) (ev2 (aF hS rfl) evn))) rfl (BVs.refl _ _) (gZ _ _ _ h95) rfl)),
      fun S hS => aG rfl (bB rfl rfl (aA rfl) (aS hS rfl) c91 (aC (v := .d (.sl 1 (r66.2.1.map aP))) (aA rfl) (aF hS rfl) rfl)),
      fun S hS => aG rfl (bB rfl rfl (aA rfl) (aS hS rfl) c91 (aC (v := .d (.lit (.int .i64 i_4_71))) (aA rfl) (aF hS rfl) rfl)),
      fun S hS => aG rfl (bB rfl rfl (aA rfl) (aS hS rfl) c91 (bL (aA rfl) (aF hS rfl) (aF hS rfl) bZ.of (bW aP h97))),
      fun S hS => aG rfl (bB rfl rfl (aA rfl) (aS hS rfl) c91 (bM (aA rfl) (aF hS rfl) bG)),
      fun S hS => aG rfl (bB rfl rfl (aA rfl) (aS hS rfl) c91 (bI (aA rfl) (aF hS rfl) (aF hS rfl) rfl)),
      fun S hS => aG rfl (aR rfl (bS (v := .d (.lit (.bool ((!decide (r94 = x96)))))) (aA rfl) (aF hS rfl) c91 (aF hS rfl) rfl)), trivial⟩⟩
                  · exact cW (aV rfl (bC ⟨rfl, rfl, rfl, rfl, rfl, rfl, rfl, rfl, rfl, rfl, trivial⟩))
               ·refine aH ?_
                refine bX rfl (fun c98 => ?_) (fun c98 => ?_)
                ·have h := aZ c98 h
                 refine aI ?_
                 refine aD ?_
                 refine tr1 rfl (aK (v := .d (.lit (.bool false))) (aA rfl) rfl rfl) ?_
                 refine aH ?_
                 have h := Option.some.inj h
                 subst h
                 refine cR (cO (cV (l := [6]) ⟨rfl, trivial⟩)) ?_
                 exact bQ ⟨rfl, _, .one _, rfl, rfl⟩
                ·have h := aY c98 h
                 refine eM ?_
                 refine aD ?_
                 refine tr1 rfl (aC (v := .d (.lit (.int .i64 i_4_71))) (aA rfl) rfl rfl) ?_
                 refine tr1 rfl (bT (aA rfl) rfl rfl rfl) ?_
                 refine tr1 rfl (aK (v := .d (.lit (.int .i64 ((w64 (i_4_71 + 1)))))) (aA rfl) rfl rfl) ?_
                 refine aH ?_
                 exact ⟨(w64 (i_4_71 + 1)), h, bF [0, 1] rfl rfl (aV rfl (bC ⟨rfl, rfl, rfl, rfl, rfl, rfl, rfl, rfl, rfl, trivial⟩))⟩
              ·have h := aY c73 h
               refine dD ?_
               refine .inl ⟨rfl, ?_⟩
               simp only [iK] at h
               refine aI ?_
               refine aD ?_
               refine tr1 rfl (bP (aA rfl) rfl (i := 0) rfl dY (es := (aT t_0)) rfl rfl) ?_
               refine tr1 rfl (aC (v := .d (.sl 5 (l_1.map aL))) (aA rfl) rfl rfl) ?_
               refine tr1 rfl (aC (v := .d (.lit (.int .i64 x25))) (aA rfl) rfl rfl) ?_
               obtain ⟨r99, h100, h⟩ := bind_some h
               refine tr1 rfl (fW (aA rfl) (.func _ _ Try.call17) rfl rfl (mI _ _ _ h100)) ?_
               refine tr1 rfl (aC (v := .tup [.agg (dJ r99.1), .d (.lit (.int .i64 r99.2))]) (aA rfl) rfl rfl) ?_
               refine tr1 rfl (bN (aA rfl) rfl rfl) ?_
               refine tr1 rfl (bN (aA rfl) rfl rfl) ?_
               refine cB rfl (dX (zs := [.lit (.int .i64 0), .lit (.int .i64 0)]) (aA rfl) Try.zeroValue39 rfl rfl) ?_
               rintro _ ⟨b101, rfl⟩
               refine tr1 rfl (cI (i := 2) rfl rfl rfl rfl rfl Try.sizeOf39 rfl (aA rfl) (Nat.le_of_ble_eq_true rfl) (ds' := (dJ r99.1)) rfl) ?_
               refine tr1 rfl (aK (v := .d (.lit (.int .i64 r99.2))) (aA rfl) rfl rfl) ?_
               refine aH ?_
               refine aI ?_
               refine aD ?_
               refine tr1 rfl (bP (aA rfl) rfl (i := 0) rfl dY (es := (aT t_0)) rfl rfl) ?_
               refine tr1 rfl (aC (v := .d (.sl 5 (x61.map aL))) (aA rfl) rfl rfl) ?_
               refine tr1 rfl (aU (aA rfl) rfl iD) ?_
               refine tr1 rfl (aW (aA rfl) rfl (i := 1) rfl rfl bG) ?_
               obtain ⟨r102, h103, h⟩ := bind_some h
               refine tr1 rfl (fW (aA rfl) (.func _ _ Try.call17) rfl rfl (mI _ _ _ h103)) ?_
               refine tr1 rfl (aC (v := .tup [.agg (dJ r102.1), .d (.lit (.int .i64 r102.2))]) (aA rfl) rfl rfl) ?_
               refine tr1 rfl (bN (aA rfl) rfl rfl) ?_
               refine tr1 rfl (bN (aA rfl) rfl rfl) ?_
               refine cB rfl (dX (zs := [.lit (.int .i64 0), .lit (.int .i64 0)]) (aA rfl) Try.zeroValue39 rfl rfl) ?_
               rintro _ ⟨b104, rfl⟩
               refine tr1 rfl (cI (i := 3) rfl rfl rfl rfl rfl Try.sizeOf39 rfl (aA rfl) (Nat.le_of_ble_eq_true rfl) (ds' := (dJ r102.1)) rfl) ?_
               refine tr1 rfl (aK (v := .d (.lit (.int .i64 r102.2))) (aA rfl) rfl rfl) ?_
               refine aH ?_
               refine aI ?_
               refine aD ?_
               refine tr1 rfl (bP (aA rfl) rfl (i := 0) rfl dY (es := (aT t_0)) rfl rfl) ?_
               refine tr1 rfl (aC (v := .d (.sl 5 (x61.map aL))) (aA rfl) rfl rfl) ?_
               refine tr1 rfl (aC (v := .d (.lit (.int .i64 x25))) (aA rfl) rfl rfl) ?_
               obtain ⟨r105, h106, h⟩ := bind_some h
               refine tr1 rfl (fW (aA rfl) (.func _ _ Try.call17) rfl rfl (mI _ _ _ h106)) ?_
               refine tr1 rfl (aC (v := .tup [.agg (dJ r105.1), .d (.lit (.int .i64 r105.2))]) (aA rfl) rfl rfl) ?_
               refine tr1 rfl (bN (aA rfl) rfl rfl) ?_
               refine tr1 rfl (bN (aA rfl) rfl rfl) ?_
               refine cB rfl (dX (zs := [.lit (.int .i64 0), .lit (.int .i64 0)]) (aA rfl) Try.zeroValue39 rfl rfl) ?_
               rintro _ ⟨b107, rfl⟩
               refine tr1 rfl (cI (i := 4) rfl rfl rfl rfl rfl Try.sizeOf39 rfl (aA rfl) (Nat.le_of_ble_eq_true rfl) (ds' := (dJ r105.1)) rfl) ?_
               refine tr1 rfl (aK (v := .d (.lit (.int .i64 r105.2))) (aA rfl) rfl rfl) ?_
               refine aH ?_
               refine aI ?_
               refine aD ?_
               refine tr1 rfl (aC (v := .d (.lit (.int .i64 r99.2))) (aA rfl) rfl rfl) ?_
               refine tr1 rfl (bI (aA rfl) rfl rfl rfl) ?_
               refine tr1 rfl (aC (v := .d (.lit (.bool ((decide (r99.2 = 0)))))) (aA rfl) rfl rfl) ?_
               obtain ⟨b108, h109, h⟩ := bind_some h
               refine cE 3 [20, 22, 25] 249 b108 ?_ ?_
               ·refine bJ (decide (r99.2 = 0)) (fun c121 => ?_) (fun c121 => ?_)
                ·have h109 := aZ c121 h109
                 refine aM rfl rfl (aA rfl) rfl c121 (aC (v := .d (.lit (.int .i64 r102.2))) (aA rfl) rfl rfl) ?_
                 refine aM rfl rfl (aA rfl) rfl c121 (bI (aA rfl) rfl rfl rfl) ?_
                 refine tr1 rfl (bU (v := .d (.lit (.bool ((decide (r102.2 = 0)))))) (aA rfl) rfl c121 rfl rfl) ?_
                 have h109 := Option.some.inj h109
                 subst h109
                 refine aH (bD rfl ⟨rfl, rfl, rfl, trivial⟩ rfl)
                ·have h109 := aY c121 h109
                 refine aN rfl rfl (aA rfl) rfl (aA rfl) rfl c121 ?_
                 refine aN rfl rfl (aA rfl) rfl (aA rfl) rfl c121 ?_
                 refine tr1 rfl (bS (v := .d (.lit (.bool false))) (aA rfl) rfl c121 rfl rfl) ?_
                 have h109 := Option.some.inj h109
                 subst h109
                 refine aH (bD rfl ⟨rfl, rfl, rfl, trivial⟩ rfl)
               ·refine tr1 rfl (aC (v := .d (.lit (.bool b108))) (aA rfl) rfl rfl) ?_
                obtain ⟨b110, h111, h⟩ := bind_some h
                refine cE 3 [20, 22] 253 b110 ?_ ?_
                ·refine bJ (b108) (fun c120 => ?_) (fun c120 => ?_)
                 ·have h111 := aZ c120 h111
                  refine aM rfl rfl (aA rfl) rfl c120 (aC (v := .d (.lit (.int .i64 r105.2))) (aA rfl) rfl rfl) ?_
                  refine aM rfl rfl (aA rfl) rfl c120 (bI (aA rfl) rfl rfl rfl) ?_
                  refine tr1 rfl (bU (v := .d (.lit (.bool ((decide (r105.2 = 3)))))) (aA rfl) rfl c120 rfl rfl) ?_
                  have h111 := Option.some.inj h111
                  subst h111
                  refine aH (bD rfl ⟨rfl, rfl, trivial⟩ rfl)
                 ·have h111 := aY c120 h111
                  refine aN rfl rfl (aA rfl) rfl (aA rfl) rfl c120 ?_
                  refine aN rfl rfl (aA rfl) rfl (aA rfl) rfl c120 ?_
                  refine tr1 rfl (bS (v := .d (.lit (.bool false))) (aA rfl) rfl c120 rfl rfl) ?_
                  have h111 := Option.some.inj h111
                  subst h111
                  refine aH (bD rfl ⟨rfl, rfl, trivial⟩ rfl)
                ·refine tr1 rfl (aC (v := .d (.lit (.bool b110))) (aA rfl) rfl rfl) ?_
                 obtain ⟨b112, h113, h⟩ := bind_some h
                 refine cE 4 [] 258 b112 ?_ ?_
                 ·refine bJ (b110) (fun c119 => ?_) (fun c119 => ?_)
                  ·have h113 := aZ c119 h113
                   refine aM rfl rfl (aA rfl) rfl c119 (bP (aA rfl) rfl (i := 2) rfl uZ (es := (dJ r99.1)) rfl rfl) ?_
                   refine aM rfl rfl (aA rfl) rfl c119 (bP (aA rfl) rfl (i := 3) rfl uZ (es := (dJ r102.1)) rfl rfl) ?_
                   refine aM rfl rfl (aA rfl) rfl c119 (wH (a := r99.1) (b := r102.1) (aA rfl) rfl rfl rfl rfl Try.eqGuardType39 aIg) ?_
                   refine tr1 rfl (bU (v := .d (.lit (.bool ((decide (r99.1 = r102.1)))))) (aA rfl) rfl c119 rfl rfl) ?_
                   have h113 := Option.some.inj h113
                   subst h113
                   refine aH (bD rfl trivial rfl)
                  ·have h113 := aY c119 h113
                   refine aN rfl rfl (aA rfl) rfl (aA rfl) rfl c119 ?_
                   refine aN rfl rfl (aA rfl) rfl (aA rfl) rfl c119 ?_
                   refine aN rfl rfl (aA rfl) rfl (aA rfl) rfl c119 ?_
                   refine tr1 rfl (bS (v := .d (.lit (.bool false))) (aA rfl) rfl c119 rfl rfl) ?_
                   have h113 := Option.some.inj h113
                   subst h113
                   refine aH (bD rfl trivial rfl)
                 ·refine tr1 rfl (aC (v := .d (.lit (.bool b112))) (aA rfl) rfl rfl) ?_
                  obtain ⟨b114, h115, h⟩ := bind_some h
                  refine cE 2 [] 261 b114 ?_ ?_
                  ·refine bJ (b112) (fun c116 => ?_) (fun c116 => ?_)
                   ·have h115 := aZ c116 h115
                    obtain ⟨r117, h118, h115⟩ := bind_some h115
                    refine aM rfl rfl (aA rfl) rfl c116 (cP (aA rfl) (.func _ _ Try.call14) rfl rfl (BVs.refl _ _) (kG h118) rfl) ?_
                    refine tr1 rfl (bU (v := .d (.lit (.bool r117))) (aA rfl) rfl c116 rfl rfl) ?_
                    have h115 := Option.some.inj h115
                    subst h115
                    refine aH (bD rfl trivial rfl)
                   ·have h115 := aY c116 h115
                    refine aN rfl rfl (aA rfl) rfl (aA rfl) rfl c116 ?_
                    refine tr1 rfl (bS (v := .d (.lit (.bool false))) (aA rfl) rfl c116 rfl rfl) ?_
                    have h115 := Option.some.inj h115
                    subst h115
                    refine aH (bD rfl trivial rfl)
                  ·refine tr1 rfl (aK (v := .d (.lit (.bool b114))) (aA rfl) rfl rfl) ?_
                   refine aH ?_
                   have h := Option.some.inj h
                   subst h
                   refine cR (cO (cV (l := [6]) ⟨rfl, trivial⟩)) ?_
                   exact bQ ⟨rfl, _, .one _, rfl, rfl⟩

end Go.Am
