/- The functions compute what the shallow ones say: printed by program. -/
import Derived.Test.YtenffgkkeafnpaaBracketLeftSimP1
namespace Go.Am
open Go.Proofs
set_option maxRecDepth 100000
set_option maxHeartbeats 4000000

theorem vK (t_0 : aO) (l_1 : List aE) {r : (List Int) × Bool} (h : kB t_0 l_1 = some r) : Fn Try.prog 18 [.agg (aR t_0), .d (.sl 5 (l_1.map aL))] (.tup [.d (.sl 1 (r.1.map aP)), .d (.lit (.bool r.2))]) := by
 unfold kB at h
 refine Fn.of_tr Try.func18 rfl (rs := [.tmp 4, .tmp 5]) Try.results18 Try.ntmps18 (Nat.le_of_ble_eq_true rfl) ?_
 refine aG ?_
 refine aC ?_
 refine bU rfl (gD (v := .agg (aR t_0)) (aA rfl) rfl rfl rfl) ?_
 rintro _ ⟨b1, rfl⟩
 refine tr1 rfl (oW 1 (aA rfl)) ?_
 refine tr1 rfl (aI (v := .d (.lit (.bool false))) (aA rfl) rfl rfl) ?_
 refine aF ?_
 refine aG ?_
 refine aC ?_
 refine tr1 rfl (aD (v := .d (.sl 5 (l_1.map aL))) (aA rfl) rfl rfl) ?_
 obtain ⟨r2, h3, h⟩ := bind_some h
 refine tr1 rfl (iF (aA rfl) (.func _ _ Try.call51) rfl rfl (sQ _ h3)) ?_
 refine tr1 rfl (aI (v := .d (.sl 5 (r2.map aL))) (aA rfl) rfl rfl) ?_
 refine aF ?_
 refine aG ?_
 refine aC ?_
 refine bU rfl (xS (aA rfl) cB rfl rfl (rows := (([] : List Int)).map aP) rfl (cV (f := aP) fun _ => rfl) rfl (by decide)) ?_
 rintro _ ⟨v4, rfl⟩
 refine tr1 rfl (aV (aA rfl) rfl dV) ?_
 refine tr1 rfl (aZ (aA rfl) rfl (i := 0) rfl rfl dH) ?_
 obtain ⟨x5, h6, h⟩ := bind_some h
 refine bU rfl (eI (i := 1) (aA rfl) cB rfl rfl rfl (fun _ => rfl) h6 rfl) ?_
 rintro _ ⟨v7, rfl⟩
 refine tr1 rfl (aI (v := .d (.lit v7)) (aA rfl) rfl rfl) ?_
 refine aF ?_
 refine aG ?_
 refine aC ?_
 refine tr1 rfl (iB 3 1 (.inl rfl) (aA rfl)) ?_
 refine aF ?_
 refine aG ?_
 refine aC ?_
 refine tr1 rfl (aI (v := .d (.lit (.int .i64 0))) (aA rfl) rfl rfl) ?_
 refine aF ?_
 refine aG ?_
 refine aG ?_
 refine aC ?_
 refine tr1 rfl (aI (v := .d (.lit (.int .i64 0))) (aA rfl) rfl rfl) ?_
 refine aF ?_
 refine cH ?_
 refine dR [2, 6] (fun (s9 : Int × Int × (List Int) × (List Int) × Value × Value) => [(7, .d (.lit s9.2.2.2.2.2)), (8, .d (.lit s9.2.2.2.2.1)), (9, .d (.lit (.int .i64 s9.1))), (10, .d (.lit (.int .i64 s9.2.1)))]) (fun (s9 : Int × Int × (List Int) × (List Int) × Value × Value) => [.box b1 0 (aR t_0), .arr s9.2.2.2.2.1 3 1 (s9.2.2.1.map aP), .arr s9.2.2.2.2.2 3 1 (s9.2.2.2.1.map aP)]) (fun (k : Nat) (s9 : Int × Int × (List Int) × (List Int) × Value × Value) => dO r2 t_0 k s9.1 s9.2.1 s9.2.2.1 s9.2.2.2.1) (fun _ => rfl) (0, 0, ([] : List Int), x5, (.slice none 0 0), v7) h (bF [0, 2, 1] rfl rfl (aS rfl (aS rfl (aS rfl (aS rfl (bD ⟨rfl, rfl, trivial⟩)))))) ?_
 rintro k12 ⟨used_0_9, i_0_9, out_0_9, o18_0_9, w10, w11⟩ h
 simp only [dO] at h
 refine aG ?_
 refine aG ?_
 refine aC ?_
 refine tr1 rfl (aD (v := .d (.lit (.int .i64 i_0_9))) (aA rfl) rfl rfl) ?_
 refine tr1 rfl (aV (aA rfl) rfl dV) ?_
 refine tr1 rfl (aZ (aA rfl) rfl (i := 0) rfl rfl dH) ?_
 refine tr1 rfl (dL (aA rfl) rfl cB.of) ?_
 refine tr1 rfl (bH (aA rfl) rfl rfl rfl) ?_
 refine aF ?_
 refine bQ rfl (fun c13 => ?_) (fun c13 => ?_)
 ·have h := aY c13 h
  refine bO ?_
  refine aG ?_
  refine cH ?_
  refine aG ?_
  refine aC ?_
  refine tr1 rfl (aV (aA rfl) rfl dV) ?_
  refine tr1 rfl (aZ (aA rfl) rfl (i := 0) rfl rfl dH) ?_
  refine tr1 rfl (aD (v := .d (.lit (.int .i64 i_0_9))) (aA rfl) rfl rfl) ?_
  obtain ⟨x14, h15, h⟩ := bind_some h
  refine tr1 rfl (bT (aA rfl) rfl rfl cB.of (cE aP h15)) ?_
  refine tr1 rfl (bV (aA rfl) rfl bK) ?_
  refine tr1 rfl (aI (v := .d (.lit (.int .i64 x14))) (aA rfl) rfl rfl) ?_
  refine aF ?_
  refine aG ?_
  refine aG ?_
  refine aC ?_
  refine tr1 rfl (aI (v := .d (.lit (.bool true))) (aA rfl) rfl rfl) ?_
  refine aF ?_
  refine cH ?_
  refine dR [2, 6, 8, 10] (fun (s16 : Int × Int × Bool × (List Int) × Value) => [(7, .d (.lit s16.2.2.2.2)), (9, .d (.lit (.int .i64 s16.1))), (11, .d (.lit (.int .i64 s16.2.1))), (12, .d (.lit (.bool s16.2.2.1)))]) (fun (s16 : Int × Int × Bool × (List Int) × Value) => [.box b1 0 (aR t_0), .arr w10 3 1 (out_0_9.map aP), .arr s16.2.2.2.2 3 1 (s16.2.2.2.1.map aP)]) (fun (k : Nat) (s16 : Int × Int × Bool × (List Int) × Value) => eP (dO r2 t_0 k12) r2 i_0_9 t_0 out_0_9 k s16.1 s16.2.1 s16.2.2.1 s16.2.2.2.1) (fun _ => rfl) (used_0_9, x14, true, o18_0_9, w11) h (bF [0, 1, 2] rfl rfl (aS rfl (aS rfl (aS rfl (aS rfl (bD ⟨rfl, rfl, rfl, rfl, trivial⟩)))))) ?_
  rintro k18 ⟨used_2_16, now_2_16, again_2_16, o18_2_16, w17⟩ h
  simp only [eP] at h
  refine aG ?_
  refine aG ?_
  refine aC ?_
  refine tr1 rfl (aD (v := .d (.lit (.bool again_2_16))) (aA rfl) rfl rfl) ?_
  refine aF ?_
  refine bQ rfl (fun c19 => ?_) (fun c19 => ?_)
  ·have h := aY c19 h
   refine bO ?_
   refine cH ?_
   refine aG ?_
   refine aC ?_
   refine tr1 rfl (aI (v := .d (.lit (.bool false))) (aA rfl) rfl rfl) ?_
   refine aF ?_
   refine aG ?_
   refine aC ?_
   refine tr1 rfl (iB 3 1 (.inl rfl) (aA rfl)) ?_
   refine aF ?_
   refine aG ?_
   refine aG ?_
   refine aC ?_
   refine tr1 rfl (aI (v := .d (.lit (.int .i64 0))) (aA rfl) rfl rfl) ?_
   refine aF ?_
   refine cH ?_
   refine dR [2, 6, 7, 8, 9, 10, 11, 12] (fun (s21 : Int × (List Int) × Value) => [(13, .d (.lit s21.2.2)), (14, .d (.lit (.int .i64 s21.1)))]) (fun (s21 : Int × (List Int) × Value) => [.box b1 0 (aR t_0), .arr w10 3 1 (out_0_9.map aP), .arr s21.2.2 3 1 (s21.2.1.map aP), .arr w17 3 1 (o18_2_16.map aP)]) (fun (k : Nat) (s21 : Int × (List Int) × Value) => eD (dO r2 t_0 k12) (eP (dO r2 t_0 k12) r2 i_0_9 t_0 out_0_9 k18) r2 used_2_16 i_0_9 now_2_16 false t_0 out_0_9 o18_2_16 k s21.1 s21.2.1) (fun _ => rfl) (0, ([] : List Int), (.slice none 0 0)) h (bF [0, 1, 3, 2] rfl rfl (aS rfl (aS rfl (bD ⟨rfl, rfl, rfl, rfl, rfl, rfl, rfl, rfl, trivial⟩)))) ?_
   rintro k23 ⟨k_4_21, nextv_4_21, w22⟩ h
   simp only [eD] at h
   refine aG ?_
   refine aG ?_
   refine aC ?_
   refine tr1 rfl (aD (v := .d (.lit (.int .i64 k_4_21))) (aA rfl) rfl rfl) ?_
   refine tr1 rfl (aD (v := .d (.sl 5 (r2.map aL))) (aA rfl) rfl rfl) ?_
   refine tr1 rfl (dL (aA rfl) rfl fM.of) ?_
   refine tr1 rfl (bH (aA rfl) rfl rfl rfl) ?_
   refine aF ?_
   refine bQ rfl (fun c24 => ?_) (fun c24 => ?_)
   ·have h := aY c24 h
    refine bO ?_
    refine aG ?_
    refine cH ?_
    refine aG ?_
    refine aC ?_
    refine tr1 rfl (aD (v := .d (.sl 5 (r2.map aL))) (aA rfl) rfl rfl) ?_
    refine tr1 rfl (aD (v := .d (.lit (.int .i64 k_4_21))) (aA rfl) rfl rfl) ?_
    obtain ⟨x25, h26, h⟩ := bind_some h
    refine tr1 rfl (bT (aA rfl) rfl rfl fM.of (cE aL h26)) ?_
    refine tr1 rfl (cO (aA rfl) rfl nF (es := [.lit (.int .i64 x25.Kind)]) rfl) ?_
    refine tr1 rfl (bV (aA rfl) rfl bK) ?_
    refine tr1 rfl (bH (aA rfl) rfl rfl rfl) ?_
    refine tr1 rfl (aD (v := .d (.lit (.bool ((decide (x25.Kind = 5)))))) (aA rfl) rfl rfl) ?_
    obtain ⟨b27, h28, h⟩ := bind_some h
    refine cC 8 [2, 6, 7, 8, 9, 10, 11, 12, 13, 14] 55 b27 ?_ ?_
    ·refine bI (decide (x25.Kind = 5)) (fun c40 => ?_) (fun c40 => ?_)
     ·have h28 := aY c40 h28
      refine aM rfl rfl (aA rfl) rfl c40 (aD (v := .d (.sl 5 (r2.map aL))) (aA rfl) rfl rfl) ?_
      refine aM rfl rfl (aA rfl) rfl c40 (aD (v := .d (.lit (.int .i64 k_4_21))) (aA rfl) rfl rfl) ?_
      obtain ⟨x41, h42, h28⟩ := bind_some h28
      refine aM rfl rfl (aA rfl) rfl c40 (bT (aA rfl) rfl rfl fM.of (cE aL h42)) ?_
      refine aM rfl rfl (aA rfl) rfl c40 (cO (aA rfl) rfl iK (es := [.lit (.int .i64 x41.Place)]) rfl) ?_
      refine aM rfl rfl (aA rfl) rfl c40 (bV (aA rfl) rfl bK) ?_
      refine aM rfl rfl (aA rfl) rfl c40 (aD (v := .d (.lit (.int .i64 i_0_9))) (aA rfl) rfl rfl) ?_
      refine aM rfl rfl (aA rfl) rfl c40 (bH (aA rfl) rfl rfl rfl) ?_
      refine tr1 rfl (bS (v := .d (.lit (.bool ((decide (x41.Place = i_0_9)))))) (aA rfl) rfl c40 rfl rfl) ?_
      have h28 := Option.some.inj h28
      subst h28
      refine aF (bC rfl ⟨rfl, rfl, rfl, rfl, rfl, rfl, rfl, rfl, rfl, rfl, trivial⟩ rfl)
     ·have h28 := aX c40 h28
      refine aN rfl rfl (aA rfl) rfl (aA rfl) rfl c40 ?_
      refine aN rfl rfl (aA rfl) rfl (aA rfl) rfl c40 ?_
      refine aN rfl rfl (aA rfl) rfl (aA rfl) rfl c40 ?_
      refine aN rfl rfl (aA rfl) rfl (aA rfl) rfl c40 ?_
      refine aN rfl rfl (aA rfl) rfl (aA rfl) rfl c40 ?_
      refine aN rfl rfl (aA rfl) rfl (aA rfl) rfl c40 ?_
      refine aN rfl rfl (aA rfl) rfl (aA rfl) rfl c40 ?_
      refine tr1 rfl (bR (v := .d (.lit (.bool false))) (aA rfl) rfl c40 rfl rfl) ?_
      have h28 := Option.some.inj h28
      subst h28
      refine aF (bC rfl ⟨rfl, rfl, rfl, rfl, rfl, rfl, rfl, rfl, rfl, rfl, trivial⟩ rfl)
    ·refine tr1 rfl (aD (v := .d (.lit (.bool b27))) (aA rfl) rfl rfl) ?_
     obtain ⟨b29, h30, h⟩ := bind_some h
     refine cC 8 [2, 6, 7, 8, 9, 10, 11, 12, 13, 14] 64 b29 ?_ ?_
     ·refine bI (b27) (fun c37 => ?_) (fun c37 => ?_)
      ·have h30 := aY c37 h30
       refine aM rfl rfl (aA rfl) rfl c37 (aD (v := .d (.sl 5 (r2.map aL))) (aA rfl) rfl rfl) ?_
       refine aM rfl rfl (aA rfl) rfl c37 (aD (v := .d (.lit (.int .i64 k_4_21))) (aA rfl) rfl rfl) ?_
       obtain ⟨x38, h39, h30⟩ := bind_some h30
       refine aM rfl rfl (aA rfl) rfl c37 (bT (aA rfl) rfl rfl fM.of (cE aL h39)) ?_
       refine aM rfl rfl (aA rfl) rfl c37 (cO (aA rfl) rfl rC (es := [.lit (.int .i64 x38.Old)]) rfl) ?_
       refine aM rfl rfl (aA rfl) rfl c37 (bV (aA rfl) rfl bK) ?_
       refine aM rfl rfl (aA rfl) rfl c37 (aD (v := .d (.lit (.int .i64 now_2_16))) (aA rfl) rfl rfl) ?_
       refine aM rfl rfl (aA rfl) rfl c37 (bH (aA rfl) rfl rfl rfl) ?_
       refine tr1 rfl (bS (v := .d (.lit (.bool ((decide (x38.Old = now_2_16)))))) (aA rfl) rfl c37 rfl rfl) ?_
       have h30 := Option.some.inj h30
       subst h30
       refine aF (bC rfl ⟨rfl, rfl, rfl, rfl, rfl, rfl, rfl, rfl, rfl, rfl, trivial⟩ rfl)
      ·have h30 := aX c37 h30
       refine aN rfl rfl (aA rfl) rfl (aA rfl) rfl c37 ?_
       refine aN rfl rfl (aA rfl) rfl (aA rfl) rfl c37 ?_
       refine aN rfl rfl (aA rfl) rfl (aA rfl) rfl c37 ?_
       refine aN rfl rfl (aA rfl) rfl (aA rfl) rfl c37 ?_
       refine aN rfl rfl (aA rfl) rfl (aA rfl) rfl c37 ?_
       refine aN rfl rfl (aA rfl) rfl (aA rfl) rfl c37 ?_
       refine aN rfl rfl (aA rfl) rfl (aA rfl) rfl c37 ?_
       refine tr1 rfl (bR (v := .d (.lit (.bool false))) (aA rfl) rfl c37 rfl rfl) ?_
       have h30 := Option.some.inj h30
       subst h30
       refine aF (bC rfl ⟨rfl, rfl, rfl, rfl, rfl, rfl, rfl, rfl, rfl, rfl, trivial⟩ rfl)
     ·refine aF ?_
      refine bQ rfl (fun c31 => ?_) (fun c31 => ?_)
      ·have h := aY c31 h
       refine aC ?_
       refine tr1 rfl (aD (v := .d (.lit w22)) (aA rfl) rfl rfl) ?_
       refine tr1 rfl (aD (v := .d (.sl 5 (r2.map aL))) (aA rfl) rfl rfl) ?_
       refine tr1 rfl (aD (v := .d (.lit (.int .i64 k_4_21))) (aA rfl) rfl rfl) ?_
       obtain ⟨x32, h33, h⟩ := bind_some h
       refine tr1 rfl (bT (aA rfl) rfl rfl fM.of (cE aL h33)) ?_
       refine tr1 rfl (cO (aA rfl) rfl mB (es := [.lit (.int .i64 x32.Player)]) rfl) ?_
       refine tr1 rfl (bV (aA rfl) rfl bK) ?_
       refine tr1 rfl (eW (aA rfl) cB rfl rfl (rows := ([x32.Player]).map aP) rfl (cV (f := aP) fun _ => rfl) rfl (by decide)) ?_
       obtain ⟨x34, h35, h⟩ := bind_some h
       refine bU rfl (eI (i := 2) (aA rfl) cB rfl rfl rfl (fun _ => rfl) h35 rfl) ?_
       rintro _ ⟨v36, rfl⟩
       refine tr1 rfl (aI (v := .d (.lit v36)) (aA rfl) rfl rfl) ?_
       refine fF ?_
       refine aC ?_
       refine tr1 rfl (aD (v := .d (.lit (.int .i64 k_4_21))) (aA rfl) rfl rfl) ?_
       refine tr1 rfl (bM (aA rfl) rfl rfl rfl) ?_
       refine tr1 rfl (aI (v := .d (.lit (.int .i64 ((w64 (k_4_21 + 1)))))) (aA rfl) rfl rfl) ?_
       refine aF ?_
       exact ⟨(w64 (k_4_21 + 1), x34, v36), h, bF [0, 1, 2, 3] rfl rfl (aS rfl (aS rfl (bD ⟨rfl, rfl, rfl, rfl, rfl, rfl, rfl, rfl, trivial⟩)))⟩
      ·have h := aX c31 h
       refine eG ?_
       refine aC ?_
       refine tr1 rfl (aD (v := .d (.lit (.int .i64 k_4_21))) (aA rfl) rfl rfl) ?_
       refine tr1 rfl (bM (aA rfl) rfl rfl rfl) ?_
       refine tr1 rfl (aI (v := .d (.lit (.int .i64 ((w64 (k_4_21 + 1)))))) (aA rfl) rfl rfl) ?_
       refine aF ?_
       exact ⟨(w64 (k_4_21 + 1), nextv_4_21, w22), h, bF [0, 1, 2, 3] rfl rfl (aS rfl (aS rfl (bD ⟨rfl, rfl, rfl, rfl, rfl, rfl, rfl, rfl, trivial⟩)))⟩
   ·have h := aX c24 h
    refine dF ?_
    refine .inl ⟨rfl, ?_⟩
    simp only [iP] at h
    refine aG ?_
    refine aG ?_
    refine aC ?_
    refine tr1 rfl (aD (v := .d (.lit w22)) (aA rfl) rfl rfl) ?_
    refine tr1 rfl (oV (m := 2) (aA rfl) rfl rfl cB.of) ?_
    refine tr1 rfl (bH (aA rfl) rfl rfl rfl) ?_
    refine tr1 rfl (aD (v := .d (.lit (.bool ((decide (1 < (nextv_4_21.length : Int))))))) (aA rfl) rfl rfl) ?_
    obtain ⟨b43, h44, h⟩ := bind_some h
    refine cC 11 [2, 6, 7, 8, 9, 10, 11, 12, 13] 87 b43 ?_ ?_
    ·refine bI (decide (1 < (nextv_4_21.length : Int))) (fun c52 => ?_) (fun c52 => ?_)
     ·have h44 := aY c52 h44
      refine aN rfl rfl (aA rfl) rfl (aA rfl) rfl c52 ?_
      refine aN rfl rfl (aA rfl) rfl (aA rfl) rfl c52 ?_
      refine aN rfl rfl (aA rfl) rfl (aA rfl) rfl c52 ?_
      refine aN rfl rfl (aA rfl) rfl (aA rfl) rfl c52 ?_
      refine dG rfl rfl (aA rfl) rfl (aA rfl) rfl ?_
      refine dG rfl rfl (aA rfl) rfl (aA rfl) rfl ?_
      refine dG rfl rfl (aA rfl) rfl (aA rfl) rfl ?_
      refine dG rfl rfl (aA rfl) rfl (aA rfl) rfl ?_
      refine dG rfl rfl (aA rfl) rfl (aA rfl) rfl ?_
      refine aN rfl rfl (aA rfl) rfl (aA rfl) rfl c52 ?_
      refine tr1 rfl (bS (v := .d (.lit (.bool true))) (aA rfl) rfl c52 rfl rfl) ?_
      have h44 := Option.some.inj h44
      subst h44
      refine aF (bC rfl ⟨rfl, rfl, rfl, rfl, rfl, rfl, rfl, rfl, rfl, trivial⟩ rfl)
     ·have h44 := aX c52 h44
      refine aM rfl rfl (aA rfl) rfl c52 (aD (v := .d (.lit w22)) (aA rfl) rfl rfl) ?_
      refine aM rfl rfl (aA rfl) rfl c52 (oV (m := 2) (aA rfl) rfl rfl cB.of) ?_
      refine aM rfl rfl (aA rfl) rfl c52 (bH (aA rfl) rfl rfl rfl) ?_
      refine aM rfl rfl (aA rfl) rfl c52 (aD (v := .d (.lit (.bool ((decide ((nextv_4_21.length : Int) = 1)))))) (aA rfl) rfl rfl) ?_
      obtain ⟨b53, h54, h44⟩ := bind_some h44
      refine cC 6 [2, 6, 7, 8, 9, 10, 11, 12, 13, 76, 77, 78, 79, 80] 86 b53 ?_ ?_
      ·refine bI (decide ((nextv_4_21.length : Int) = 1)) (fun c55 => ?_) (fun c55 => ?_)
       ·have h54 := aY c55 h54
        refine aM rfl rfl (aA rfl) rfl c55 (aD (v := .d (.lit w17)) (aA rfl) rfl rfl) ?_
        refine aM rfl rfl (aA rfl) rfl c55 (aD (v := .d (.lit w22)) (aA rfl) rfl rfl) ?_
        obtain ⟨x56, h57, h54⟩ := bind_some h54
        refine aM rfl rfl (aA rfl) rfl c55 (iX (m := 2) (aA rfl) rfl rfl rfl cB.of (cE aP h57)) ?_
        refine aM rfl rfl (aA rfl) rfl c55 (mV (aA rfl) rfl (m := 2) rfl (sG aP h57) rfl bK) ?_
        obtain ⟨r58, h59, h54⟩ := bind_some h54
        refine aM rfl rfl (aA rfl) rfl c55 (cS (aA rfl) (.func _ _ Try.call52) rfl rfl (.cons (.d (kR 3 rfl (cV (f := aP) fun _ => rfl))) (.cons (.same _) .nil)) (aAi _ _ h59) rfl) ?_
        refine aM rfl rfl (aA rfl) rfl c52 (bS (v := .d (.lit (.bool r58))) (aA rfl) rfl c55 rfl rfl) ?_
        have h54 := Option.some.inj h54
        subst h54
        refine aF (bC rfl ⟨rfl, rfl, rfl, rfl, rfl, rfl, rfl, rfl, rfl, rfl, rfl, rfl, rfl, rfl, trivial⟩ rfl)
       ·have h54 := aX c55 h54
        refine aN rfl rfl (aA rfl) rfl (aA rfl) rfl c55 ?_
        refine aN rfl rfl (aA rfl) rfl (aA rfl) rfl c55 ?_
        refine aN rfl rfl (aA rfl) rfl (aA rfl) rfl c55 ?_
        refine aN rfl rfl (aA rfl) rfl (aA rfl) rfl c55 ?_
        refine aN rfl rfl (aA rfl) rfl (aA rfl) rfl c55 ?_
        refine aM rfl rfl (aA rfl) rfl c52 (bR (v := .d (.lit (.bool false))) (aA rfl) rfl c55 rfl rfl) ?_
        have h54 := Option.some.inj h54
        subst h54
        refine aF (bC rfl ⟨rfl, rfl, rfl, rfl, rfl, rfl, rfl, rfl, rfl, rfl, rfl, rfl, rfl, rfl, trivial⟩ rfl)
      ·refine tr1 rfl (bR (v := .d (.lit (.bool b53))) (aA rfl) rfl c52 rfl rfl) ?_
       have h44 := Option.some.inj h44
       subst h44
       refine aF (bC rfl ⟨rfl, rfl, rfl, rfl, rfl, rfl, rfl, rfl, rfl, trivial⟩ rfl)
    ·refine aF ?_
     refine bQ rfl (fun c45 => ?_) (fun c45 => ?_)
     ·have h := aY c45 h
      refine aG ?_
      refine aC ?_
      refine tr1 rfl (oW 1 (aA rfl)) ?_
      refine tr1 rfl (aI (v := .d (.lit (.bool false))) (aA rfl) rfl rfl) ?_
      refine aF ?_
      have h := Option.some.inj h
      subst h
      refine cP (cR (cU (l := [4, 5]) ⟨rfl, rfl, trivial⟩)) ?_
      exact bN ⟨rfl, _, .two _ _, rfl, rfl⟩
     ·have h := aX c45 h
      refine bO ?_
      refine aG ?_
      refine aC ?_
      refine tr1 rfl (aD (v := .d (.lit w22)) (aA rfl) rfl rfl) ?_
      refine tr1 rfl (oV (m := 2) (aA rfl) rfl rfl cB.of) ?_
      refine tr1 rfl (bH (aA rfl) rfl rfl rfl) ?_
      refine aF ?_
      refine bQ rfl (fun c46 => ?_) (fun c46 => ?_)
      ·have h := aY c46 h
       refine aG ?_
       refine aC ?_
       refine tr1 rfl (aD (v := .d (.lit w22)) (aA rfl) rfl rfl) ?_
       obtain ⟨x47, h48, h⟩ := bind_some h
       refine tr1 rfl (iX (m := 2) (aA rfl) rfl rfl rfl cB.of (cE aP h48)) ?_
       refine tr1 rfl (mV (aA rfl) rfl (m := 2) rfl (sG aP h48) rfl bK) ?_
       refine tr1 rfl (aI (v := .d (.lit (.int .i64 x47))) (aA rfl) rfl rfl) ?_
       refine aF ?_
       refine aG ?_
       refine aC ?_
       refine tr1 rfl (aD (v := .d (.lit w17)) (aA rfl) rfl rfl) ?_
       refine tr1 rfl (aD (v := .d (.lit (.int .i64 x47))) (aA rfl) rfl rfl) ?_
       refine tr1 rfl (eW (aA rfl) cB rfl rfl (rows := ([x47]).map aP) rfl (cV (f := aP) fun _ => rfl) rfl (by decide)) ?_
       obtain ⟨x49, h50, h⟩ := bind_some h
       refine bU rfl (eI (i := 3) (aA rfl) cB rfl rfl rfl (fun _ => rfl) h50 rfl) ?_
       rintro _ ⟨v51, rfl⟩
       refine tr1 rfl (aI (v := .d (.lit v51)) (aA rfl) rfl rfl) ?_
       refine aF ?_
       refine aG ?_
       refine aC ?_
       refine tr1 rfl (aD (v := .d (.lit (.int .i64 used_2_16))) (aA rfl) rfl rfl) ?_
       refine tr1 rfl (bM (aA rfl) rfl rfl rfl) ?_
       refine tr1 rfl (aI (v := .d (.lit (.int .i64 ((w64 (used_2_16 + 1)))))) (aA rfl) rfl rfl) ?_
       refine aF ?_
       refine aC ?_
       refine tr1 rfl (aI (v := .d (.lit (.bool true))) (aA rfl) rfl rfl) ?_
       refine fF ?_
       simp only [gU] at h
       exact ⟨(w64 (used_2_16 + 1), x47, true, x49, v51), h, bF [0, 1, 3] rfl rfl (aS rfl (aS rfl (aS rfl (aS rfl (bD ⟨rfl, rfl, rfl, rfl, trivial⟩)))))⟩
      ·have h := aX c46 h
       refine eG ?_
       simp only [gU] at h
       exact ⟨(used_2_16, now_2_16, false, o18_2_16, w17), h, bF [0, 1, 3] rfl rfl (aS rfl (aS rfl (aS rfl (aS rfl (bD ⟨rfl, rfl, rfl, rfl, trivial⟩)))))⟩
  ·have h := aX c19 h
   refine dF ?_
   refine .inl ⟨rfl, ?_⟩
   simp only [kJ] at h
   refine aC ?_
   refine tr1 rfl (aD (v := .d (.lit w10)) (aA rfl) rfl rfl) ?_
   refine tr1 rfl (aD (v := .d (.lit (.int .i64 now_2_16))) (aA rfl) rfl rfl) ?_
   refine tr1 rfl (eW (aA rfl) cB rfl rfl (rows := ([now_2_16]).map aP) rfl (cV (f := aP) fun _ => rfl) rfl (by decide)) ?_
   obtain ⟨x60, h61, h⟩ := bind_some h
   refine bU rfl (eI (i := 1) (aA rfl) cB rfl rfl rfl (fun _ => rfl) h61 rfl) ?_
   rintro _ ⟨v62, rfl⟩
   refine tr1 rfl (aI (v := .d (.lit v62)) (aA rfl) rfl rfl) ?_
   refine fF ?_
   simp only [mN] at h
   refine aC ?_
   refine tr1 rfl (aD (v := .d (.lit (.int .i64 i_0_9))) (aA rfl) rfl rfl) ?_
   refine tr1 rfl (bM (aA rfl) rfl rfl rfl) ?_
   refine tr1 rfl (aI (v := .d (.lit (.int .i64 ((w64 (i_0_9 + 1)))))) (aA rfl) rfl rfl) ?_
   refine aF ?_
   exact ⟨(used_2_16, w64 (i_0_9 + 1), x60, o18_2_16, v62, w17), h, bF [0, 1, 2] rfl rfl (aS rfl (aS rfl (aS rfl (aS rfl (bD ⟨rfl, rfl, trivial⟩)))))⟩
 ·have h := aX c13 h
  refine dF ?_
  refine .inl ⟨rfl, ?_⟩
  simp only [mM] at h
  refine aG ?_
  refine aG ?_
  refine aC ?_
  refine tr1 rfl (aI (v := .d (.lit (.int .i64 0))) (aA rfl) rfl rfl) ?_
  refine aF ?_
  refine cH ?_
  refine dR [6, 8] (fun (s63 : Int × Int) => [(9, .d (.lit (.int .i64 s63.1))), (15, .d (.lit (.int .i64 s63.2)))]) (fun (s63 : Int × Int) => [.arr w10 3 1 (out_0_9.map aP)]) (fun (k : Nat) (s63 : Int × Int) => eE r2 out_0_9 k s63.1 s63.2) (fun _ => rfl) (used_0_9, 0) h (bF [1] rfl rfl (aS rfl (aS rfl (bD ⟨rfl, rfl, trivial⟩)))) ?_
  rintro k64 ⟨used_6_63, k_6_63⟩ h
  simp only [eE] at h
  refine aG ?_
  refine aG ?_
  refine aC ?_
  refine tr1 rfl (aD (v := .d (.lit (.int .i64 k_6_63))) (aA rfl) rfl rfl) ?_
  refine tr1 rfl (aD (v := .d (.sl 5 (r2.map aL))) (aA rfl) rfl rfl) ?_
  refine tr1 rfl (dL (aA rfl) rfl fM.of) ?_
  refine tr1 rfl (bH (aA rfl) rfl rfl rfl) ?_
  refine aF ?_
  refine bQ rfl (fun c65 => ?_) (fun c65 => ?_)
  ·have h := aY c65 h
   refine bO ?_
   refine aG ?_
   refine cH ?_
   refine aG ?_
   refine aC ?_
   refine tr1 rfl (aD (v := .d (.sl 5 (r2.map aL))) (aA rfl) rfl rfl) ?_
   refine tr1 rfl (aD (v := .d (.lit (.int .i64 k_6_63))) (aA rfl) rfl rfl) ?_
   obtain ⟨x66, h67, h⟩ := bind_some h
   refine tr1 rfl (bT (aA rfl) rfl rfl fM.of (cE aL h67)) ?_
   refine tr1 rfl (cO (aA rfl) rfl nF (es := [.lit (.int .i64 x66.Kind)]) rfl) ?_
   refine tr1 rfl (bV (aA rfl) rfl bK) ?_
   refine tr1 rfl (bH (aA rfl) rfl rfl rfl) ?_
   refine aF ?_
   refine bQ rfl (fun c68 => ?_) (fun c68 => ?_)
   ·have h := aY c68 h
    refine aC ?_
    refine tr1 rfl (aD (v := .d (.lit (.int .i64 used_6_63))) (aA rfl) rfl rfl) ?_
    refine tr1 rfl (bM (aA rfl) rfl rfl rfl) ?_
    refine tr1 rfl (aI (v := .d (.lit (.int .i64 ((w64 (used_6_63 - 1)))))) (aA rfl) rfl rfl) ?_
    refine fF ?_
    refine aC ?_
    refine tr1 rfl (aD (v := .d (.lit (.int .i64 k_6_63))) (aA rfl) rfl rfl) ?_
    refine tr1 rfl (bM (aA rfl) rfl rfl rfl) ?_
    refine tr1 rfl (aI (v := .d (.lit (.int .i64 ((w64 (k_6_63 + 1)))))) (aA rfl) rfl rfl) ?_
    refine aF ?_
    exact ⟨(w64 (used_6_63 - 1), w64 (k_6_63 + 1)), h, bF [0] rfl rfl (aS rfl (aS rfl (bD ⟨rfl, rfl, trivial⟩)))⟩
   ·have h := aX c68 h
    refine eG ?_
    refine aC ?_
    refine tr1 rfl (aD (v := .d (.lit (.int .i64 k_6_63))) (aA rfl) rfl rfl) ?_
    refine tr1 rfl (bM (aA rfl) rfl rfl rfl) ?_
    refine tr1 rfl (aI (v := .d (.lit (.int .i64 ((w64 (k_6_63 + 1)))))) (aA rfl) rfl rfl) ?_
    refine aF ?_
    exact ⟨(used_6_63, w64 (k_6_63 + 1)), h, bF [0] rfl rfl (aS rfl (aS rfl (bD ⟨rfl, rfl, trivial⟩)))⟩
  ·have h := aX c65 h
   refine dF ?_
   refine .inl ⟨rfl, ?_⟩
   simp only [mO] at h
   refine aG ?_
   refine aC ?_
   refine tr1 rfl (aD (v := .d (.lit w10)) (aA rfl) rfl rfl) ?_
   refine tr1 rfl (aD (v := .d (.lit (.int .i64 used_6_63))) (aA rfl) rfl rfl) ?_
   refine tr1 rfl (bH (aA rfl) rfl rfl rfl) ?_
   refine tr1 rfl (aI (v := .d (.lit w10)) (aA rfl) rfl rfl) ?_
   refine tr1 rfl (aI (v := .d (.lit (.bool ((decide (used_6_63 = 0)))))) (aA rfl) rfl rfl) ?_
   refine aF ?_
   have h := Option.some.inj h
   subst h
   refine cP (cR (lR (k := 5) (v := .d (.lit (.bool ((decide (used_6_63 = 0)))))) (.same _) (lR (k := 4) (v := .d (.sl 1 (out_0_9.map aP))) (.d (kR 0 rfl (cV (f := aP) fun _ => rfl))) (uR)))) ?_
   exact bN ⟨rfl, _, .two _ _, rfl, rfl⟩

theorem yO (t_0 : aO) (l_1 : List aE) {r : aQ × Bool} (h : cQ t_0 l_1 = some r) : Fn Try.prog 55 [.agg (aR t_0), .d (.sl 5 (l_1.map aL))] (.tup [.agg (cJ r.1), .d (.lit (.bool r.2))]) := by
 unfold cQ at h
 refine sL Try.func55 rfl (rs := [.cell 4 89, .tmp 5]) Try.results55 Try.ntmps55 (Nat.le_of_ble_eq_true rfl) ?_
 refine aG ?_
 refine aC ?_
 refine bU rfl (gD (v := .agg (aR t_0)) (aA rfl) rfl rfl rfl) ?_
 rintro _ ⟨b1, rfl⟩
 refine bU rfl (dQ (zs := [.sl 1 ((([] : List Int)).map aP), .sl 1 ((([] : List (List Int))).map lB)]) (aA rfl) Try.zeroValue89 rfl rfl) ?_
 rintro _ ⟨b2, rfl⟩
 refine tr1 rfl (aI (v := .d (.lit (.bool false))) (aA rfl) rfl rfl) ?_
 refine aF ?_
 refine aG ?_
 refine aC ?_
 refine tr1 rfl (bL (aA rfl) rfl (i := 0) rfl dY (es := (aR t_0)) rfl rfl) ?_
 refine tr1 rfl (aD (v := .d (.sl 5 (l_1.map aL))) (aA rfl) rfl rfl) ?_
 obtain ⟨r3, h4, h⟩ := bind_some h
 refine tr1 rfl (iF (aA rfl) (.func _ _ Try.call18) rfl rfl (vK _ _ h4)) ?_
 refine tr1 rfl (aD (v := .tup [.d (.sl 1 (r3.1.map aP)), .d (.lit (.bool r3.2))]) (aA rfl) rfl rfl) ?_
 refine tr1 rfl (bJ (aA rfl) rfl rfl) ?_
 refine tr1 rfl (bJ (aA rfl) rfl rfl) ?_
 refine tr1 rfl (aI (v := .d (.sl 1 (r3.1.map aP))) (aA rfl) rfl rfl) ?_
 refine tr1 rfl (aI (v := .d (.lit (.bool r3.2))) (aA rfl) rfl rfl) ?_
 refine aF ?_
 refine aG ?_
 refine aG ?_
 refine aC ?_
 refine tr1 rfl (aD (v := .d (.lit (.bool r3.2))) (aA rfl) rfl rfl) ?_
 refine tr1 rfl (fQ (aA rfl) rfl) ?_
 refine aF ?_
 refine bQ rfl (fun c5 => ?_) (fun c5 => ?_)
 ·have h := aY c5 h
  refine aG ?_
  refine aC ?_
  refine tr1 rfl (eX (aA rfl) xY (zs := [.sl 1 ((([] : List Int)).map aP), .sl 1 ((([] : List (List Int))).map lB)]) rfl rfl rfl rfl (es := [.sl 1 ((([] : List Int)).map aP), .sl 1 ((([] : List (List Int))).map lB)]) rfl) ?_
  refine tr1 rfl (cG (i := 1) rfl rfl rfl rfl rfl Try.sizeOf89 rfl (aA rfl) (Nat.le_of_ble_eq_true rfl) (ds' := (cJ (aQ.mk ([] : List Int) ([] : List (List Int))))) rfl) ?_
  refine tr1 rfl (aI (v := .d (.lit (.bool false))) (aA rfl) rfl rfl) ?_
  refine aF ?_
  have h := Option.some.inj h
  subst h
  exact bN ⟨rfl, _, [.box b1 0 (aR t_0), .box b2 0 (cJ (aQ.mk ([] : List Int) ([] : List (List Int))))], .two (.cell 4 89 rfl (i := 1) rfl uQ (es := (cJ (aQ.mk ([] : List Int) ([] : List (List Int))))) rfl rfl) (.tmp 5 (v := .d (.lit (.bool false))) rfl), .refl _, .same _⟩
 ·have h := aX c5 h
  refine bO ?_
  refine aG ?_
  refine aC ?_
  refine tr1 rfl (aD (v := .d (.sl 1 (r3.1.map aP))) (aA rfl) rfl rfl) ?_
  refine tr1 rfl (eX (aA rfl) xY (zs := [.sl 1 ((([] : List Int)).map aP), .lit (.slice none 0 0)]) rfl rfl rfl rfl (es := [.sl 1 (r3.1.map aP), .lit (.slice none 0 0)]) rfl) ?_
  refine bU rfl (dQ (zs := [.sl 1 ((([] : List Int)).map aP), .lit (.slice none 0 0)]) (aA rfl) Try.zeroValue89 rfl rfl) ?_
  rintro _ ⟨b6, rfl⟩
  refine jG (vL 22 1) ?_
  refine jG (aGp 3 1) ?_
  refine tr1 rfl (cG (i := 2) rfl rfl rfl rfl rfl Try.sizeOf89 rfl (aA rfl) (Nat.le_of_ble_eq_true rfl) (ds' := [.sl 1 (r3.1.map aP), .lit (.slice none 0 0)]) rfl) ?_
  refine aF ?_
  refine aG ?_
  refine aG ?_
  refine aC ?_
  refine tr1 rfl (aI (v := .d (.lit (.int .i64 0))) (aA rfl) rfl rfl) ?_
  refine aF ?_
  refine cH ?_
  refine dR [1, 2, 4, 6, 8] (fun (s7 : Int × (List (List Int)) × (List Int) × (List Value) × Value) => [(9, .d (.lit (.int .i64 s7.1)))]) (fun (s7 : Int × (List (List Int)) × (List Int) × (List Value) × Value) => [.box b1 0 (aR t_0), .box b2 0 (cJ (aQ.mk ([] : List Int) ([] : List (List Int)))), .fam 3 1 s7.2.2.2.1 (s7.2.1.map fun r => r.map aP), .arr s7.2.2.2.2 22 1 (s7.2.2.2.1.map fun v => [.lit v]), .box b6 0 [.sl 1 (s7.2.2.1.map aP), .lit s7.2.2.2.2]]) (fun (k : Nat) (s7 : Int × (List (List Int)) × (List Int) × (List Value) × Value) => fB l_1 r3.1 t_0 (aQ.mk ([] : List Int) ([] : List (List Int))) k s7.1 s7.2.1 s7.2.2.1) (fun _ => rfl) (0, ([] : List (List Int)), r3.1, [], (.slice none 0 0)) h (bF [0, 1, 4, 3, 2] rfl rfl (aS rfl (bD ⟨rfl, rfl, rfl, rfl, rfl, trivial⟩))) ?_
  rintro k10 ⟨r_0_7, d_0_7, d_0_7_2, vs8, w9⟩ h
  simp only [fB] at h
  refine aG ?_
  refine aG ?_
  refine aC ?_
  refine tr1 rfl (aD (v := .d (.lit (.int .i64 r_0_7))) (aA rfl) rfl rfl) ?_
  refine tr1 rfl (aV (aA rfl) rfl iJ) ?_
  refine tr1 rfl (aZ (aA rfl) rfl (i := 0) rfl rfl bK) ?_
  refine tr1 rfl (bH (aA rfl) rfl rfl rfl) ?_
  refine aF ?_
  refine bQ rfl (fun c11 => ?_) (fun c11 => ?_)
  ·have h := aY c11 h
   refine bO ?_
   refine aG ?_
   refine cH ?_
   refine aG ?_
   refine aC ?_
   refine tr1 rfl (iB 3 1 (.inl rfl) (aA rfl)) ?_
   refine aF ?_
   refine aG ?_
   refine aG ?_
   refine aC ?_
   refine tr1 rfl (aI (v := .d (.lit (.int .i64 0))) (aA rfl) rfl rfl) ?_
   refine aF ?_
   refine cH ?_
   refine dR [1, 2, 4, 6, 8, 9] (fun (s13 : Int × (List Int) × Value) => [(10, .d (.lit s13.2.2)), (11, .d (.lit (.int .i64 s13.1)))]) (fun (s13 : Int × (List Int) × Value) => [.box b1 0 (aR t_0), .box b2 0 (cJ (aQ.mk ([] : List Int) ([] : List (List Int)))), .fam 3 1 vs8 (d_0_7.map fun r => r.map aP), .arr w9 22 1 (vs8.map fun v => [.lit v]), .box b6 0 [.sl 1 (d_0_7_2.map aP), .lit w9], .arr s13.2.2 3 1 (s13.2.1.map aP)]) (fun (k : Nat) (s13 : Int × (List Int) × Value) => dT (fB l_1 r3.1 t_0 (aQ.mk ([] : List Int) ([] : List (List Int))) k10) l_1 r3.1 r_0_7 t_0 (aQ.mk ([] : List Int) ([] : List (List Int))) d_0_7 d_0_7_2 k s13.1 s13.2.1) (fun _ => rfl) (0, ([] : List Int), (.slice none 0 0)) h (bF [0, 1, 2, 3, 4, 5] rfl rfl (aS rfl (aS rfl (bD ⟨rfl, rfl, rfl, rfl, rfl, rfl, trivial⟩)))) ?_
   rintro k15 ⟨p_2_13, row_2_13, w14⟩ h
   simp only [dT] at h
   refine aG ?_
   refine aG ?_
   refine aC ?_
   refine tr1 rfl (aD (v := .d (.lit (.int .i64 p_2_13))) (aA rfl) rfl rfl) ?_
   refine tr1 rfl (bL (aA rfl) rfl (i := 0) rfl dY (es := (aR t_0)) rfl rfl) ?_
   refine tr1 rfl (aD (v := .d (.lit (.int .i64 r_0_7))) (aA rfl) rfl rfl) ?_
   obtain ⟨r16, h17, h⟩ := bind_some h
   refine tr1 rfl (cS (aA rfl) (.func _ _ Try.call42) rfl rfl (BVs.refl _ _) (qT _ _ h17) rfl) ?_
   refine tr1 rfl (bH (aA rfl) rfl rfl rfl) ?_
   refine aF ?_
   refine bQ rfl (fun c18 => ?_) (fun c18 => ?_)
   ·have h := aY c18 h
    refine bO ?_
    refine aG ?_
    refine cH ?_
    refine aG ?_
    refine aC ?_
    refine tr1 rfl (aI (v := .d (.lit (.int .i64 (-2)))) (aA rfl) rfl rfl) ?_
    refine aF ?_
    refine aG ?_
    refine aG ?_
    refine aC ?_
    refine tr1 rfl (aD (v := .d (.lit (.int .i64 r_0_7))) (aA rfl) rfl rfl) ?_
    refine tr1 rfl (bH (aA rfl) rfl rfl rfl) ?_
    refine tr1 rfl (aD (v := .d (.lit (.bool ((decide (r_0_7 = 0)))))) (aA rfl) rfl rfl) ?_
    obtain ⟨b19, h20, h⟩ := bind_some h
    refine cC 7 [1, 2, 4, 6, 8, 9, 10, 11, 12] 55 b19 ?_ ?_
    ·refine bI (decide (r_0_7 = 0)) (fun c52 => ?_) (fun c52 => ?_)
     ·have h20 := aY c52 h20
      refine aM rfl rfl (aA rfl) rfl c52 (aD (v := .d (.sl 1 (r3.1.map aP))) (aA rfl) rfl rfl) ?_
      refine aM rfl rfl (aA rfl) rfl c52 (aD (v := .d (.lit (.int .i64 p_2_13))) (aA rfl) rfl rfl) ?_
      refine aM rfl rfl (aA rfl) rfl c52 (bM (aA rfl) rfl rfl rfl) ?_
      obtain ⟨x53, h54, h20⟩ := bind_some h20
      refine aM rfl rfl (aA rfl) rfl c52 (bT (aA rfl) rfl rfl cB.of (cE aP h54)) ?_
      refine aM rfl rfl (aA rfl) rfl c52 (bV (aA rfl) rfl bK) ?_
      refine aM rfl rfl (aA rfl) rfl c52 (bH (aA rfl) rfl rfl rfl) ?_
      refine tr1 rfl (bS (v := .d (.lit (.bool ((decide (x53 = (-1))))))) (aA rfl) rfl c52 rfl rfl) ?_
      have h20 := Option.some.inj h20
      subst h20
      refine aF (bC rfl ⟨rfl, rfl, rfl, rfl, rfl, rfl, rfl, rfl, rfl, trivial⟩ rfl)
     ·have h20 := aX c52 h20
      refine aN rfl rfl (aA rfl) rfl (aA rfl) rfl c52 ?_
      refine aN rfl rfl (aA rfl) rfl (aA rfl) rfl c52 ?_
      refine aN rfl rfl (aA rfl) rfl (aA rfl) rfl c52 ?_
      refine aN rfl rfl (aA rfl) rfl (aA rfl) rfl c52 ?_
      refine aN rfl rfl (aA rfl) rfl (aA rfl) rfl c52 ?_
      refine aN rfl rfl (aA rfl) rfl (aA rfl) rfl c52 ?_
      refine tr1 rfl (bR (v := .d (.lit (.bool false))) (aA rfl) rfl c52 rfl rfl) ?_
      have h20 := Option.some.inj h20
      subst h20
      refine aF (bC rfl ⟨rfl, rfl, rfl, rfl, rfl, rfl, rfl, rfl, rfl, trivial⟩ rfl)
    ·refine aF ?_
     refine bQ rfl (fun c21 => ?_) (fun c21 => ?_)
     ·have h := aY c21 h
      refine aC ?_
      refine tr1 rfl (aD (v := .d (.sl 1 (r3.1.map aP))) (aA rfl) rfl rfl) ?_
      refine tr1 rfl (aD (v := .d (.lit (.int .i64 p_2_13))) (aA rfl) rfl rfl) ?_
      refine tr1 rfl (bM (aA rfl) rfl rfl rfl) ?_
      refine tr1 rfl (bM (aA rfl) rfl rfl rfl) ?_
      obtain ⟨x22, h23, h⟩ := bind_some h
      refine tr1 rfl (bT (aA rfl) rfl rfl cB.of (cE aP h23)) ?_
      refine tr1 rfl (bV (aA rfl) rfl bK) ?_
      refine tr1 rfl (aI (v := .d (.lit (.int .i64 x22))) (aA rfl) rfl rfl) ?_
      refine aF ?_
      refine aG ?_
      refine aG ?_
      refine aC ?_
      refine tr1 rfl (aD (v := .d (.lit (.int .i64 r_0_7))) (aA rfl) rfl rfl) ?_
      refine tr1 rfl (bH (aA rfl) rfl rfl rfl) ?_
      refine tr1 rfl (aD (v := .d (.lit (.bool ((decide (r_0_7 = 0)))))) (aA rfl) rfl rfl) ?_
      obtain ⟨b24, h25, h⟩ := bind_some h
      refine cC 8 [1, 2, 4, 6, 8, 9, 10, 11, 12] 72 b24 ?_ ?_
      ·refine bI (decide (r_0_7 = 0)) (fun c35 => ?_) (fun c35 => ?_)
       ·have h25 := aY c35 h25
        refine aM rfl rfl (aA rfl) rfl c35 (aD (v := .d (.sl 1 (r3.1.map aP))) (aA rfl) rfl rfl) ?_
        refine aM rfl rfl (aA rfl) rfl c35 (aD (v := .d (.lit (.int .i64 p_2_13))) (aA rfl) rfl rfl) ?_
        refine aM rfl rfl (aA rfl) rfl c35 (bM (aA rfl) rfl rfl rfl) ?_
        refine aM rfl rfl (aA rfl) rfl c35 (bM (aA rfl) rfl rfl rfl) ?_
        obtain ⟨x36, h37, h25⟩ := bind_some h25
        refine aM rfl rfl (aA rfl) rfl c35 (bT (aA rfl) rfl rfl cB.of (cE aP h37)) ?_
        refine aM rfl rfl (aA rfl) rfl c35 (bV (aA rfl) rfl bK) ?_
        refine aM rfl rfl (aA rfl) rfl c35 (bH (aA rfl) rfl rfl rfl) ?_
        refine tr1 rfl (bS (v := .d (.lit (.bool ((decide (x36 = (-1))))))) (aA rfl) rfl c35 rfl rfl) ?_
        have h25 := Option.some.inj h25
        subst h25
        refine aF (bC rfl ⟨rfl, rfl, rfl, rfl, rfl, rfl, rfl, rfl, rfl, trivial⟩ rfl)
       ·have h25 := aX c35 h25
        refine aN rfl rfl (aA rfl) rfl (aA rfl) rfl c35 ?_
        refine aN rfl rfl (aA rfl) rfl (aA rfl) rfl c35 ?_
        refine aN rfl rfl (aA rfl) rfl (aA rfl) rfl c35 ?_
        refine aN rfl rfl (aA rfl) rfl (aA rfl) rfl c35 ?_
        refine aN rfl rfl (aA rfl) rfl (aA rfl) rfl c35 ?_
        refine aN rfl rfl (aA rfl) rfl (aA rfl) rfl c35 ?_
        refine aN rfl rfl (aA rfl) rfl (aA rfl) rfl c35 ?_
        refine tr1 rfl (bR (v := .d (.lit (.bool false))) (aA rfl) rfl c35 rfl rfl) ?_
        have h25 := Option.some.inj h25
        subst h25
        refine aF (bC rfl ⟨rfl, rfl, rfl, rfl, rfl, rfl, rfl, rfl, rfl, trivial⟩ rfl)
      ·refine aF ?_
       refine bQ rfl (fun c26 => ?_) (fun c26 => ?_)
       ·have h := aY c26 h
        refine aC ?_
        refine tr1 rfl (aD (v := .d (.sl 1 (r3.1.map aP))) (aA rfl) rfl rfl) ?_
        refine tr1 rfl (aD (v := .d (.lit (.int .i64 p_2_13))) (aA rfl) rfl rfl) ?_
        refine tr1 rfl (bM (aA rfl) rfl rfl rfl) ?_
        obtain ⟨x27, h28, h⟩ := bind_some h
        refine tr1 rfl (bT (aA rfl) rfl rfl cB.of (cE aP h28)) ?_
        refine tr1 rfl (bV (aA rfl) rfl bK) ?_
        refine tr1 rfl (aI (v := .d (.lit (.int .i64 x27))) (aA rfl) rfl rfl) ?_
        refine aF ?_
        refine aC ?_
        refine tr1 rfl (aD (v := .d (.lit w14)) (aA rfl) rfl rfl) ?_
        refine tr1 rfl (aD (v := .d (.lit (.int .i64 x27))) (aA rfl) rfl rfl) ?_
        refine tr1 rfl (eW (aA rfl) cB rfl rfl (rows := ([x27]).map aP) rfl (cV (f := aP) fun _ => rfl) rfl (by decide)) ?_
        obtain ⟨x29, h30, h⟩ := bind_some h
        refine bU rfl (eI (i := 5) (aA rfl) cB rfl rfl rfl (fun _ => rfl) h30 rfl) ?_
        rintro _ ⟨v31, rfl⟩
        refine tr1 rfl (aI (v := .d (.lit v31)) (aA rfl) rfl rfl) ?_
        refine fF ?_
        refine aC ?_
        refine tr1 rfl (aD (v := .d (.lit (.int .i64 p_2_13))) (aA rfl) rfl rfl) ?_
        refine tr1 rfl (bM (aA rfl) rfl rfl rfl) ?_
        refine tr1 rfl (aI (v := .d (.lit (.int .i64 ((w64 (p_2_13 + 1)))))) (aA rfl) rfl rfl) ?_
        refine aF ?_
        exact ⟨(w64 (p_2_13 + 1), x29, v31), h, bF [0, 1, 2, 3, 4, 5] rfl rfl (aS rfl (aS rfl (bD ⟨rfl, rfl, rfl, rfl, rfl, rfl, trivial⟩)))⟩
       ·have h := aX c26 h
        refine bO ?_
        refine aC ?_
        refine tr1 rfl (aD (v := .d (.lit w14)) (aA rfl) rfl rfl) ?_
        refine tr1 rfl (aD (v := .d (.lit (.int .i64 x22))) (aA rfl) rfl rfl) ?_
        refine tr1 rfl (eW (aA rfl) cB rfl rfl (rows := ([x22]).map aP) rfl (cV (f := aP) fun _ => rfl) rfl (by decide)) ?_
        obtain ⟨x32, h33, h⟩ := bind_some h
        refine bU rfl (eI (i := 5) (aA rfl) cB rfl rfl rfl (fun _ => rfl) h33 rfl) ?_
        rintro _ ⟨v34, rfl⟩
        refine tr1 rfl (aI (v := .d (.lit v34)) (aA rfl) rfl rfl) ?_
        refine fF ?_
        refine aC ?_
        refine tr1 rfl (aD (v := .d (.lit (.int .i64 p_2_13))) (aA rfl) rfl rfl) ?_
        refine tr1 rfl (bM (aA rfl) rfl rfl rfl) ?_
        refine tr1 rfl (aI (v := .d (.lit (.int .i64 ((w64 (p_2_13 + 1)))))) (aA rfl) rfl rfl) ?_
        refine aF ?_
        exact ⟨(w64 (p_2_13 + 1), x32, v34), h, bF [0, 1, 2, 3, 4, 5] rfl rfl (aS rfl (aS rfl (bD ⟨rfl, rfl, rfl, rfl, rfl, rfl, trivial⟩)))⟩
     ·have h := aX c21 h
      refine bO ?_
      refine aG ?_
      refine aG ?_
      refine aC ?_
      refine tr1 rfl (aD (v := .d (.lit (.int .i64 r_0_7))) (aA rfl) rfl rfl) ?_
      refine tr1 rfl (bH (aA rfl) rfl rfl rfl) ?_
      refine tr1 rfl (aD (v := .d (.lit (.bool ((decide (r_0_7 = 0)))))) (aA rfl) rfl rfl) ?_
      obtain ⟨b38, h39, h⟩ := bind_some h
      refine cC 8 [1, 2, 4, 6, 8, 9, 10, 11, 12] 72 b38 ?_ ?_
      ·refine bI (decide (r_0_7 = 0)) (fun c49 => ?_) (fun c49 => ?_)
       ·have h39 := aY c49 h39
        refine aM rfl rfl (aA rfl) rfl c49 (aD (v := .d (.sl 1 (r3.1.map aP))) (aA rfl) rfl rfl) ?_
        refine aM rfl rfl (aA rfl) rfl c49 (aD (v := .d (.lit (.int .i64 p_2_13))) (aA rfl) rfl rfl) ?_
        refine aM rfl rfl (aA rfl) rfl c49 (bM (aA rfl) rfl rfl rfl) ?_
        refine aM rfl rfl (aA rfl) rfl c49 (bM (aA rfl) rfl rfl rfl) ?_
        obtain ⟨x50, h51, h39⟩ := bind_some h39
        refine aM rfl rfl (aA rfl) rfl c49 (bT (aA rfl) rfl rfl cB.of (cE aP h51)) ?_
        refine aM rfl rfl (aA rfl) rfl c49 (bV (aA rfl) rfl bK) ?_
        refine aM rfl rfl (aA rfl) rfl c49 (bH (aA rfl) rfl rfl rfl) ?_
        refine tr1 rfl (bS (v := .d (.lit (.bool ((decide (x50 = (-1))))))) (aA rfl) rfl c49 rfl rfl) ?_
        have h39 := Option.some.inj h39
        subst h39
        refine aF (bC rfl ⟨rfl, rfl, rfl, rfl, rfl, rfl, rfl, rfl, rfl, trivial⟩ rfl)
       ·have h39 := aX c49 h39
        refine aN rfl rfl (aA rfl) rfl (aA rfl) rfl c49 ?_
        refine aN rfl rfl (aA rfl) rfl (aA rfl) rfl c49 ?_
        refine aN rfl rfl (aA rfl) rfl (aA rfl) rfl c49 ?_
        refine aN rfl rfl (aA rfl) rfl (aA rfl) rfl c49 ?_
        refine aN rfl rfl (aA rfl) rfl (aA rfl) rfl c49 ?_
        refine aN rfl rfl (aA rfl) rfl (aA rfl) rfl c49 ?_
        refine aN rfl rfl (aA rfl) rfl (aA rfl) rfl c49 ?_
        refine tr1 rfl (bR (v := .d (.lit (.bool false))) (aA rfl) rfl c49 rfl rfl) ?_
        have h39 := Option.some.inj h39
        subst h39
        refine aF (bC rfl ⟨rfl, rfl, rfl, rfl, rfl, rfl, rfl, rfl, rfl, trivial⟩ rfl)
      ·refine aF ?_
       refine bQ rfl (fun c40 => ?_) (fun c40 => ?_)
       ·have h := aY c40 h
        refine aC ?_
        refine tr1 rfl (aD (v := .d (.sl 1 (r3.1.map aP))) (aA rfl) rfl rfl) ?_
        refine tr1 rfl (aD (v := .d (.lit (.int .i64 p_2_13))) (aA rfl) rfl rfl) ?_
        refine tr1 rfl (bM (aA rfl) rfl rfl rfl) ?_
        obtain ⟨x41, h42, h⟩ := bind_some h
        refine tr1 rfl (bT (aA rfl) rfl rfl cB.of (cE aP h42)) ?_
        refine tr1 rfl (bV (aA rfl) rfl bK) ?_
        refine tr1 rfl (aI (v := .d (.lit (.int .i64 x41))) (aA rfl) rfl rfl) ?_
        refine aF ?_
        refine aC ?_
        refine tr1 rfl (aD (v := .d (.lit w14)) (aA rfl) rfl rfl) ?_
        refine tr1 rfl (aD (v := .d (.lit (.int .i64 x41))) (aA rfl) rfl rfl) ?_
        refine tr1 rfl (eW (aA rfl) cB rfl rfl (rows := ([x41]).map aP) rfl (cV (f := aP) fun _ => rfl) rfl (by decide)) ?_
        obtain ⟨x43, h44, h⟩ := bind_some h
        refine bU rfl (eI (i := 5) (aA rfl) cB rfl rfl rfl (fun _ => rfl) h44 rfl) ?_
        rintro _ ⟨v45, rfl⟩
        refine tr1 rfl (aI (v := .d (.lit v45)) (aA rfl) rfl rfl) ?_
        refine fF ?_
        refine aC ?_
        refine tr1 rfl (aD (v := .d (.lit (.int .i64 p_2_13))) (aA rfl) rfl rfl) ?_
        refine tr1 rfl (bM (aA rfl) rfl rfl rfl) ?_
        refine tr1 rfl (aI (v := .d (.lit (.int .i64 ((w64 (p_2_13 + 1)))))) (aA rfl) rfl rfl) ?_
        refine aF ?_
        exact ⟨(w64 (p_2_13 + 1), x43, v45), h, bF [0, 1, 2, 3, 4, 5] rfl rfl (aS rfl (aS rfl (bD ⟨rfl, rfl, rfl, rfl, rfl, rfl, trivial⟩)))⟩
       ·have h := aX c40 h
        refine bO ?_
        refine aC ?_
        refine tr1 rfl (aD (v := .d (.lit w14)) (aA rfl) rfl rfl) ?_
        refine tr1 rfl (aD (v := .d (.lit (.int .i64 (-2)))) (aA rfl) rfl rfl) ?_
        refine tr1 rfl (eW (aA rfl) cB rfl rfl (rows := ([(-2)]).map aP) rfl (cV (f := aP) fun _ => rfl) rfl (by decide)) ?_
        obtain ⟨x46, h47, h⟩ := bind_some h
        refine bU rfl (eI (i := 5) (aA rfl) cB rfl rfl rfl (fun _ => rfl) h47 rfl) ?_
        rintro _ ⟨v48, rfl⟩
        refine tr1 rfl (aI (v := .d (.lit v48)) (aA rfl) rfl rfl) ?_
        refine fF ?_
        refine aC ?_
        refine tr1 rfl (aD (v := .d (.lit (.int .i64 p_2_13))) (aA rfl) rfl rfl) ?_
        refine tr1 rfl (bM (aA rfl) rfl rfl rfl) ?_
        refine tr1 rfl (aI (v := .d (.lit (.int .i64 ((w64 (p_2_13 + 1)))))) (aA rfl) rfl rfl) ?_
        refine aF ?_
        exact ⟨(w64 (p_2_13 + 1), x46, v48), h, bF [0, 1, 2, 3, 4, 5] rfl rfl (aS rfl (aS rfl (bD ⟨rfl, rfl, rfl, rfl, rfl, rfl, trivial⟩)))⟩
   ·have h := aX c18 h
    refine dF ?_
    refine .inl ⟨rfl, ?_⟩
    simp only [iS] at h
    refine aC ?_
    refine tr1 rfl (aV (aA rfl) rfl rD) ?_
    refine tr1 rfl (aZ (aA rfl) rfl (i := 4) rfl rfl xP) ?_
    refine tr1 rfl (aD (v := .d (.lit w14)) (aA rfl) rfl rfl) ?_
    refine tr1 rfl (eW (aA rfl) yG rfl rfl (rows := [[.lit w14]]) rfl (fun r hr => by cases hr with | head => rfl | tail _ h => cases h) rfl (by decide)) ?_
    obtain ⟨x55, h56, h⟩ := bind_some h
    refine bU rfl (aEm (m := 3) (f := 2) (aA rfl) yG rfl rfl rfl rfl h56 rfl) ?_
    rintro _ ⟨v57, rfl⟩
    refine jG (aFd (i := 2) [.box b1 0 (aR t_0), .box b2 0 (cJ (aQ.mk ([] : List Int) ([] : List (List Int)))), .fam 3 1 vs8 (d_0_7.map fun r => r.map aP), .arr v57 22 1 ((vs8 ++ [w14]).map fun v => [.lit v]), .box b6 0 [.sl 1 (d_0_7_2.map aP), .lit w9]] [.box b1 0 (aR t_0), .box b2 0 (cJ (aQ.mk ([] : List Int) ([] : List (List Int)))), .fam 3 1 (vs8 ++ [w14]) (x55.map fun r => r.map aP), .arr v57 22 1 ((vs8 ++ [w14]).map fun v => [.lit v]), .box b6 0 [.sl 1 (d_0_7_2.map aP), .lit w9]] rfl rfl h56 rfl) ?_
    refine tr1 rfl (aV (aA rfl) rfl rD) ?_
    refine tr1 rfl (cG (i := 4) rfl rfl rfl rfl rfl Try.sizeOf53 rfl (aA rfl) (Nat.le_of_ble_eq_true rfl) (ds' := [.sl 1 (d_0_7_2.map aP), .lit v57]) rfl) ?_
    refine fF ?_
    simp only [oH] at h
    refine aC ?_
    refine tr1 rfl (aD (v := .d (.lit (.int .i64 r_0_7))) (aA rfl) rfl rfl) ?_
    refine tr1 rfl (bM (aA rfl) rfl rfl rfl) ?_
    refine tr1 rfl (aI (v := .d (.lit (.int .i64 ((w64 (r_0_7 + 1)))))) (aA rfl) rfl rfl) ?_
    refine aF ?_
    exact ⟨(w64 (r_0_7 + 1), x55, d_0_7_2, (vs8 ++ [w14]), v57), h, bF [0, 1, 2, 3, 4] rfl rfl (aS rfl (bD ⟨rfl, rfl, rfl, rfl, rfl, trivial⟩))⟩
  ·have h := aX c11 h
   refine dF ?_
   refine .inl ⟨rfl, ?_⟩
   simp only [iR] at h
   refine aG ?_
   refine aC ?_
   refine tr1 rfl (aD (v := .d (.sl 5 (l_1.map aL))) (aA rfl) rfl rfl) ?_
   obtain ⟨r58, h59, h⟩ := bind_some h
   refine tr1 rfl (iF (aA rfl) (.func _ _ Try.call51) rfl rfl (sQ _ h59)) ?_
   refine tr1 rfl (aI (v := .d (.sl 5 (r58.map aL))) (aA rfl) rfl rfl) ?_
   refine aF ?_
   refine aG ?_
   refine aG ?_
   refine aC ?_
   refine tr1 rfl (aI (v := .d (.lit (.int .i64 0))) (aA rfl) rfl rfl) ?_
   refine aF ?_
   refine cH ?_
   refine dR [4, 6, 8, 13] (fun (s60 : Int × aQ × (List (List Int)) × (List Value)) => [(14, .d (.lit (.int .i64 s60.1)))]) (fun (s60 : Int × aQ × (List (List Int)) × (List Value)) => [.box b2 0 (cJ s60.2.1), .fam 3 1 s60.2.2.2 (s60.2.2.1.map fun r => r.map aP), .arr w9 22 1 (s60.2.2.2.map fun v => [.lit v]), .box b6 0 [.sl 1 (d_0_7_2.map aP), .lit w9]]) (fun (k : Nat) (s60 : Int × aQ × (List (List Int)) × (List Value)) => dC r3.1 r58 d_0_7_2 k s60.1 s60.2.1 s60.2.2.1) (fun _ => rfl) (0, (aQ.mk ([] : List Int) ([] : List (List Int))), d_0_7, vs8) h (bF [1, 2, 3, 4] rfl rfl (aS rfl (bD ⟨rfl, rfl, rfl, rfl, trivial⟩))) ?_
   rintro k62 ⟨i_4_60, o4_4_60, d_4_60, vs61⟩ h
   simp only [dC] at h
   refine aG ?_
   refine aG ?_
   refine aC ?_
   refine tr1 rfl (aD (v := .d (.lit (.int .i64 i_4_60))) (aA rfl) rfl rfl) ?_
   refine tr1 rfl (aD (v := .d (.sl 5 (r58.map aL))) (aA rfl) rfl rfl) ?_
   refine tr1 rfl (dL (aA rfl) rfl fM.of) ?_
   refine tr1 rfl (bH (aA rfl) rfl rfl rfl) ?_
   refine aF ?_
   refine bQ rfl (fun c63 => ?_) (fun c63 => ?_)
   ·have h := aY c63 h
    refine bO ?_
    refine aG ?_
    refine cH ?_
    refine aG ?_
    refine aC ?_
    refine tr1 rfl (aD (v := .d (.sl 5 (r58.map aL))) (aA rfl) rfl rfl) ?_
    refine tr1 rfl (aD (v := .d (.lit (.int .i64 i_4_60))) (aA rfl) rfl rfl) ?_
    obtain ⟨x64, h65, h⟩ := bind_some h
    refine tr1 rfl (bT (aA rfl) rfl rfl fM.of (cE aL h65)) ?_
    refine tr1 rfl (gP (aA rfl) rfl jM (es := (aL x64)) rfl rfl) ?_
    refine bU rfl (dQ (zs := [.lit (.int .i64 0), .lit (.int .i64 0), .lit (.int .i64 0), .lit (.int .i64 0), .lit (.int .i64 0)]) (aA rfl) Try.zeroValue32 rfl rfl) ?_
    rintro _ ⟨b66, rfl⟩
    refine tr1 rfl (cG (i := 4) rfl rfl rfl rfl rfl Try.sizeOf32 rfl (aA rfl) (Nat.le_of_ble_eq_true rfl) (ds' := (aL x64)) rfl) ?_
    refine aF ?_
    refine aG ?_
    refine aG ?_
    refine aC ?_
    refine tr1 rfl (aV (aA rfl) rfl nF) ?_
    refine tr1 rfl (aZ (aA rfl) rfl (i := 4) rfl rfl bK) ?_
    refine tr1 rfl (bH (aA rfl) rfl rfl rfl) ?_
    refine aF ?_
    refine bQ rfl (fun c67 => ?_) (fun c67 => ?_)
    ·have h := aY c67 h
     refine dF ?_
     refine .inl ⟨rfl, ?_⟩
     simp only [iT] at h
     refine aC ?_
     refine tr1 rfl (aD (v := .d (.lit (.int .i64 i_4_60))) (aA rfl) rfl rfl) ?_
     refine tr1 rfl (bM (aA rfl) rfl rfl rfl) ?_
     refine tr1 rfl (aI (v := .d (.lit (.int .i64 ((w64 (i_4_60 + 1)))))) (aA rfl) rfl rfl) ?_
     refine aF ?_
     exact ⟨(w64 (i_4_60 + 1), o4_4_60, d_4_60, vs61), h, bF [0, 1, 2, 3] rfl rfl (aS rfl (bD ⟨rfl, rfl, rfl, rfl, trivial⟩))⟩
    ·have h := aX c67 h
     refine bO ?_
     refine aG ?_
     refine aG ?_
     refine aC ?_
     refine tr1 rfl (aI (v := .d (.lit (.int .i64 0))) (aA rfl) rfl rfl) ?_
     refine aF ?_
     refine cH ?_
     refine dR [4, 6, 8, 13, 14, 15] (fun (s68 : Int × aQ) => [(16, .d (.lit (.int .i64 s68.1)))]) (fun (s68 : Int × aQ) => [.box b2 0 (cJ s68.2), .fam 3 1 vs61 (d_4_60.map fun r => r.map aP), .arr w9 22 1 (vs61.map fun v => [.lit v]), .box b6 0 [.sl 1 (d_0_7_2.map aP), .lit w9], .box b66 0 (aL x64)]) (fun (k : Nat) (s68 : Int × aQ) => fS (dC r3.1 r58 d_0_7_2 k62) r3.1 r58 i_4_60 d_4_60 d_0_7_2 x64 k s68.1 s68.2) (fun _ => rfl) (0, o4_4_60) h (bF [0, 1, 2, 3, 4] rfl rfl (aS rfl (bD ⟨rfl, rfl, rfl, rfl, rfl, rfl, trivial⟩))) ?_
     rintro k69 ⟨k_6_68, o4_6_68⟩ h
     simp only [fS] at h
     refine aG ?_
     refine aG ?_
     refine aC ?_
     refine tr1 rfl (aD (v := .d (.lit (.int .i64 k_6_68))) (aA rfl) rfl rfl) ?_
     refine tr1 rfl (aD (v := .d (.lit (.int .i64 i_4_60))) (aA rfl) rfl rfl) ?_
     refine tr1 rfl (bH (aA rfl) rfl rfl rfl) ?_
     refine aF ?_
     refine bQ rfl (fun c70 => ?_) (fun c70 => ?_)
     ·have h := aY c70 h
      refine bO ?_
      refine aG ?_
      refine cH ?_
      refine aG ?_
      refine aC ?_
      refine tr1 rfl (aD (v := .d (.sl 5 (r58.map aL))) (aA rfl) rfl rfl) ?_
      refine tr1 rfl (aD (v := .d (.lit (.int .i64 k_6_68))) (aA rfl) rfl rfl) ?_
      obtain ⟨x71, h72, h⟩ := bind_some h
      refine tr1 rfl (bT (aA rfl) rfl rfl fM.of (cE aL h72)) ?_
      refine tr1 rfl (gP (aA rfl) rfl jM (es := (aL x71)) rfl rfl) ?_
      refine bU rfl (dQ (zs := [.lit (.int .i64 0), .lit (.int .i64 0), .lit (.int .i64 0), .lit (.int .i64 0), .lit (.int .i64 0)]) (aA rfl) Try.zeroValue32 rfl rfl) ?_
      rintro _ ⟨b73, rfl⟩
      refine tr1 rfl (cG (i := 5) rfl rfl rfl rfl rfl Try.sizeOf32 rfl (aA rfl) (Nat.le_of_ble_eq_true rfl) (ds' := (aL x71)) rfl) ?_
      refine aF ?_
      refine aG ?_
      refine aC ?_
      refine tr1 rfl (aV (aA rfl) rfl nF) ?_
      refine tr1 rfl (aZ (aA rfl) rfl (i := 5) rfl rfl bK) ?_
      refine tr1 rfl (bH (aA rfl) rfl rfl rfl) ?_
      refine tr1 rfl (aD (v := .d (.lit (.bool ((!decide (x71.Kind = 5)))))) (aA rfl) rfl rfl) ?_
      obtain ⟨b74, h75, h⟩ := bind_some h
      refine cC 6 [4, 6, 8, 13, 14, 15, 16, 17] 121 b74 ?_ ?_
      ·refine bI (!decide (x71.Kind = 5)) (fun c80 => ?_) (fun c80 => ?_)
       ·have h75 := aY c80 h75
        refine aM rfl rfl (aA rfl) rfl c80 (aV (aA rfl) rfl lF) ?_
        refine aM rfl rfl (aA rfl) rfl c80 (aZ (aA rfl) rfl (i := 5) rfl rfl bK) ?_
        refine aM rfl rfl (aA rfl) rfl c80 (aV (aA rfl) rfl lF) ?_
        refine aM rfl rfl (aA rfl) rfl c80 (aZ (aA rfl) rfl (i := 4) rfl rfl bK) ?_
        refine aM rfl rfl (aA rfl) rfl c80 (bH (aA rfl) rfl rfl rfl) ?_
        refine tr1 rfl (bS (v := .d (.lit (.bool ((decide (x71.Round = x64.Round)))))) (aA rfl) rfl c80 rfl rfl) ?_
        have h75 := Option.some.inj h75
        subst h75
        refine aF (bC rfl ⟨rfl, rfl, rfl, rfl, rfl, rfl, rfl, rfl, trivial⟩ rfl)
       ·have h75 := aX c80 h75
        refine aN rfl rfl (aA rfl) rfl (aA rfl) rfl c80 ?_
        refine aN rfl rfl (aA rfl) rfl (aA rfl) rfl c80 ?_
        refine aN rfl rfl (aA rfl) rfl (aA rfl) rfl c80 ?_
        refine aN rfl rfl (aA rfl) rfl (aA rfl) rfl c80 ?_
        refine aN rfl rfl (aA rfl) rfl (aA rfl) rfl c80 ?_
        refine tr1 rfl (bR (v := .d (.lit (.bool false))) (aA rfl) rfl c80 rfl rfl) ?_
        have h75 := Option.some.inj h75
        subst h75
        refine aF (bC rfl ⟨rfl, rfl, rfl, rfl, rfl, rfl, rfl, rfl, trivial⟩ rfl)
      ·refine tr1 rfl (aD (v := .d (.lit (.bool b74))) (aA rfl) rfl rfl) ?_
       obtain ⟨b76, h77, h⟩ := bind_some h
       refine cC 6 [4, 6, 8, 13, 14, 15, 16] 128 b76 ?_ ?_
       ·refine bI (b74) (fun c79 => ?_) (fun c79 => ?_)
        ·have h77 := aY c79 h77
         refine aM rfl rfl (aA rfl) rfl c79 (aV (aA rfl) rfl iK) ?_
         refine aM rfl rfl (aA rfl) rfl c79 (aZ (aA rfl) rfl (i := 5) rfl rfl bK) ?_
         refine aM rfl rfl (aA rfl) rfl c79 (aV (aA rfl) rfl iK) ?_
         refine aM rfl rfl (aA rfl) rfl c79 (aZ (aA rfl) rfl (i := 4) rfl rfl bK) ?_
         refine aM rfl rfl (aA rfl) rfl c79 (bH (aA rfl) rfl rfl rfl) ?_
         refine tr1 rfl (bS (v := .d (.lit (.bool ((decide (x71.Place = x64.Place)))))) (aA rfl) rfl c79 rfl rfl) ?_
         have h77 := Option.some.inj h77
         subst h77
         refine aF (bC rfl ⟨rfl, rfl, rfl, rfl, rfl, rfl, rfl, trivial⟩ rfl)
        ·have h77 := aX c79 h77
         refine aN rfl rfl (aA rfl) rfl (aA rfl) rfl c79 ?_
         refine aN rfl rfl (aA rfl) rfl (aA rfl) rfl c79 ?_
         refine aN rfl rfl (aA rfl) rfl (aA rfl) rfl c79 ?_
         refine aN rfl rfl (aA rfl) rfl (aA rfl) rfl c79 ?_
         refine aN rfl rfl (aA rfl) rfl (aA rfl) rfl c79 ?_
         refine tr1 rfl (bR (v := .d (.lit (.bool false))) (aA rfl) rfl c79 rfl rfl) ?_
         have h77 := Option.some.inj h77
         subst h77
         refine aF (bC rfl ⟨rfl, rfl, rfl, rfl, rfl, rfl, rfl, trivial⟩ rfl)
       ·refine aF ?_
        refine bQ rfl (fun c78 => ?_) (fun c78 => ?_)
        ·have h := aY c78 h
         refine aG ?_
         refine aC ?_
         refine tr1 rfl (eX (aA rfl) xY (zs := [.sl 1 ((([] : List Int)).map aP), .sl 1 ((([] : List (List Int))).map lB)]) rfl rfl rfl rfl (es := [.sl 1 ((([] : List Int)).map aP), .sl 1 ((([] : List (List Int))).map lB)]) rfl) ?_
         refine tr1 rfl (cG (i := 0) rfl rfl rfl rfl rfl Try.sizeOf89 rfl (aA rfl) (Nat.le_of_ble_eq_true rfl) (ds' := (cJ (aQ.mk ([] : List Int) ([] : List (List Int))))) rfl) ?_
         refine tr1 rfl (aI (v := .d (.lit (.bool false))) (aA rfl) rfl rfl) ?_
         refine aF ?_
         have h := Option.some.inj h
         subst h
         exact bN ⟨rfl, _, [.box b2 0 (cJ (aQ.mk ([] : List Int) ([] : List (List Int)))), .fam 3 1 vs61 (d_4_60.map fun r => r.map aP), .arr w9 22 1 (vs61.map fun v => [.lit v]), .box b6 0 [.sl 1 (d_0_7_2.map aP), .lit w9], .box b66 0 (aL x64), .box b73 0 (aL x71)], .two (.cell 4 89 rfl (i := 0) rfl uQ (es := (cJ (aQ.mk ([] : List Int) ([] : List (List Int))))) rfl rfl) (.tmp 5 (v := .d (.lit (.bool false))) rfl), .refl _, .same _⟩
        ·have h := aX c78 h
         refine eG ?_
         refine aC ?_
         refine tr1 rfl (aD (v := .d (.lit (.int .i64 k_6_68))) (aA rfl) rfl rfl) ?_
         refine tr1 rfl (bM (aA rfl) rfl rfl rfl) ?_
         refine tr1 rfl (aI (v := .d (.lit (.int .i64 ((w64 (k_6_68 + 1)))))) (aA rfl) rfl rfl) ?_
         refine aF ?_
         exact ⟨(w64 (k_6_68 + 1), o4_6_68), h, bF [0, 1, 2, 3, 4] rfl rfl (aS rfl (bD ⟨rfl, rfl, rfl, rfl, rfl, rfl, trivial⟩))⟩
     ·have h := aX c70 h
      refine dF ?_
      refine .inl ⟨rfl, ?_⟩
      simp only [lV] at h
      refine aG ?_
      refine aC ?_
      refine tr1 rfl (aI (v := .d (.lit (.int .i64 (-1)))) (aA rfl) rfl rfl) ?_
      refine aF ?_
      refine aG ?_
      refine aG ?_
      refine aC ?_
      refine tr1 rfl (aI (v := .d (.lit (.int .i64 0))) (aA rfl) rfl rfl) ?_
      refine aF ?_
      refine cH ?_
      refine dR [4, 6, 8, 13, 14, 15] (fun (s81 : Int × Int) => [(18, .d (.lit (.int .i64 s81.1))), (19, .d (.lit (.int .i64 s81.2)))]) (fun (s81 : Int × Int) => [.box b2 0 (cJ o4_6_68), .fam 3 1 vs61 (d_4_60.map fun r => r.map aP), .arr w9 22 1 (vs61.map fun v => [.lit v]), .box b6 0 [.sl 1 (d_0_7_2.map aP), .lit w9], .box b66 0 (aL x64)]) (fun (k : Nat) (s81 : Int × Int) => dP (dC r3.1 r58 d_0_7_2 k62) r3.1 r58 i_4_60 o4_6_68 d_4_60 d_0_7_2 x64 k s81.1 s81.2) (fun _ => rfl) ((-1), 0) h (bF [0, 1, 2, 3, 4] rfl rfl (aS rfl (aS rfl (bD ⟨rfl, rfl, rfl, rfl, rfl, rfl, trivial⟩)))) ?_
      rintro k82 ⟨atv_8_81, s_8_81⟩ h
      simp only [dP] at h
      refine aG ?_
      refine aG ?_
      refine aC ?_
      refine tr1 rfl (aD (v := .d (.lit (.int .i64 s_8_81))) (aA rfl) rfl rfl) ?_
      refine tr1 rfl (aD (v := .d (.sl 1 (r3.1.map aP))) (aA rfl) rfl rfl) ?_
      refine tr1 rfl (dL (aA rfl) rfl cB.of) ?_
      refine tr1 rfl (bH (aA rfl) rfl rfl rfl) ?_
      refine aF ?_
      refine bQ rfl (fun c83 => ?_) (fun c83 => ?_)
      ·have h := aY c83 h
       refine bO ?_
       refine aG ?_
       refine cH ?_
       refine aG ?_
       obtain ⟨x84, h85, h⟩ := bind_some h
       refine dX mix 6 [4, 6, 8, 13, 14, 15, 18, 19] [(139, .d (.lit (.int .i64 x84))), (141, .d (.lit (.int .i64 x64.Player)))] ?_ ?_
       ·refine ⟨[(136, 0, .d (.sl 1 (r3.1.map aP))), (137, 1, .d (.lit (.int .i64 s_8_81))), (138, 2, .cp [.lit (.int .i64 x84)]), (139, 3, .d (.lit (.int .i64 x84))), (140, 4, .bp b66 0 3), (141, 5, .d (.lit (.int .i64 x64.Player)))], ?_, ?_⟩
        · exact ⟨by kernel_rfl, by kernel_rfl, by kernel_rfl, by kernel_rfl, by kernel_rfl, [([], []), ([], []), ([0, 1], []), ([2], []), ([], []), ([4], [])], by kernel_rfl, ⟨fun S hS => aK rfl (aT rfl (aD (v := .d (.sl 1 (r3.1.map aP))) (aA rfl) (aJ hS rfl) rfl)),
      fun S hS => aK rfl (aT rfl (aD (v := .d (.lit (.int .i64 s_8_81))) (aA rfl) (aJ hS rfl) rfl)),
      fun S hS => aK rfl (aT rfl (bT (aA rfl) (aJ hS rfl) (aJ hS rfl) cB.of (cE aP h85))),
      fun S hS => aK rfl (aT rfl (bV (aA rfl) (aJ hS rfl) bK)),
      fun S hS => aK rfl (aT rfl (aV (aA rfl) (aJ hS rfl) mB)),
      fun S hS => aK rfl (aT rfl (aZ (aA rfl) (aJ hS rfl) (i := 4) rfl rfl bK)), trivial⟩⟩
        · exact dI (aS rfl (aS rfl (bD ⟨rfl, rfl, rfl, rfl, rfl, rfl, rfl, rfl, trivial⟩)))
       ·refine tr1 rfl (bH (aA rfl) rfl rfl rfl) ?_
        refine aF ?_
        refine bQ rfl (fun c86 => ?_) (fun c86 => ?_)
        ·have h := aY c86 h
         refine aC ?_
         refine tr1 rfl (aD (v := .d (.lit (.int .i64 s_8_81))) (aA rfl) rfl rfl) ?_
         refine tr1 rfl (aI (v := .d (.lit (.int .i64 s_8_81))) (aA rfl) rfl rfl) ?_
         refine fF ?_
         refine aC ?_
         refine tr1 rfl (aD (v := .d (.lit (.int .i64 s_8_81))) (aA rfl) rfl rfl) ?_
         refine tr1 rfl (bM (aA rfl) rfl rfl rfl) ?_
         refine tr1 rfl (aI (v := .d (.lit (.int .i64 ((w64 (s_8_81 + 1)))))) (aA rfl) rfl rfl) ?_
         refine aF ?_
         exact ⟨(s_8_81, w64 (s_8_81 + 1)), h, bF [0, 1, 2, 3, 4] rfl rfl (aS rfl (aS rfl (bD ⟨rfl, rfl, rfl, rfl, rfl, rfl, trivial⟩)))⟩
        ·have h := aX c86 h
         refine eG ?_
         refine aC ?_
         refine tr1 rfl (aD (v := .d (.lit (.int .i64 s_8_81))) (aA rfl) rfl rfl) ?_
         refine tr1 rfl (bM (aA rfl) rfl rfl rfl) ?_
         refine tr1 rfl (aI (v := .d (.lit (.int .i64 ((w64 (s_8_81 + 1)))))) (aA rfl) rfl rfl) ?_
         refine aF ?_
         exact ⟨(atv_8_81, w64 (s_8_81 + 1)), h, bF [0, 1, 2, 3, 4] rfl rfl (aS rfl (aS rfl (bD ⟨rfl, rfl, rfl, rfl, rfl, rfl, trivial⟩)))⟩
      ·have h := aX c83 h
       refine dF ?_
       refine .inl ⟨rfl, ?_⟩
       simp only [fR] at h
       refine aG ?_
       refine aG ?_
       refine aC ?_
       refine tr1 rfl (aD (v := .d (.lit (.int .i64 atv_8_81))) (aA rfl) rfl rfl) ?_
       refine tr1 rfl (bH (aA rfl) rfl rfl rfl) ?_
       refine tr1 rfl (aD (v := .d (.lit (.bool ((decide (atv_8_81 < 0)))))) (aA rfl) rfl rfl) ?_
       obtain ⟨b87, h88, h⟩ := bind_some h
       refine cC 10 [4, 6, 8, 13, 14, 15, 18] 156 b87 ?_ ?_
       ·refine bI (decide (atv_8_81 < 0)) (fun c112 => ?_) (fun c112 => ?_)
        ·have h88 := aY c112 h88
         refine aN rfl rfl (aA rfl) rfl (aA rfl) rfl c112 ?_
         refine aN rfl rfl (aA rfl) rfl (aA rfl) rfl c112 ?_
         refine aN rfl rfl (aA rfl) rfl (aA rfl) rfl c112 ?_
         refine aN rfl rfl (aA rfl) rfl (aA rfl) rfl c112 ?_
         refine aN rfl rfl (aA rfl) rfl (aA rfl) rfl c112 ?_
         refine aN rfl rfl (aA rfl) rfl (aA rfl) rfl c112 ?_
         refine aN rfl rfl (aA rfl) rfl (aA rfl) rfl c112 ?_
         refine aN rfl rfl (aA rfl) rfl (aA rfl) rfl c112 ?_
         refine aN rfl rfl (aA rfl) rfl (aA rfl) rfl c112 ?_
         refine tr1 rfl (bS (v := .d (.lit (.bool true))) (aA rfl) rfl c112 rfl rfl) ?_
         have h88 := Option.some.inj h88
         subst h88
         refine aF (bC rfl ⟨rfl, rfl, rfl, rfl, rfl, rfl, rfl, trivial⟩ rfl)
        ·have h88 := aX c112 h88
         refine aM rfl rfl (aA rfl) rfl c112 (aD (v := .d (.lit (.int .i64 atv_8_81))) (aA rfl) rfl rfl) ?_
         refine aM rfl rfl (aA rfl) rfl c112 (aV (aA rfl) rfl lF) ?_
         refine aM rfl rfl (aA rfl) rfl c112 (aZ (aA rfl) rfl (i := 4) rfl rfl bK) ?_
         refine aM rfl rfl (aA rfl) rfl c112 (bM (aA rfl) rfl rfl rfl) ?_
         refine aM rfl rfl (aA rfl) rfl c112 (aBd (aA rfl) rfl Try.runUnderlying3 Try.runUnderlying45) ?_
         obtain ⟨u113, h114, h88⟩ := bind_some h88
         refine aM rfl rfl (aA rfl) rfl c112 (aBf (aA rfl) rfl rfl (tZ h114)) ?_
         refine aM rfl rfl (aA rfl) rfl c112 (aV (aA rfl) rfl iK) ?_
         refine aM rfl rfl (aA rfl) rfl c112 (aZ (aA rfl) rfl (i := 4) rfl rfl bK) ?_
         refine aM rfl rfl (aA rfl) rfl c112 (bH (aA rfl) rfl rfl rfl) ?_
         refine tr1 rfl (bR (v := .d (.lit (.bool ((!decide ((atv_8_81.fdiv (2 ^ (min (IntKind.u64.wrap (w64 (x64.Round + 1))).toNat 64))) = x64.Place)))))) (aA rfl) rfl c112 rfl rfl) ?_
         have h88 := Option.some.inj h88
         subst h88
         refine aF (bC rfl ⟨rfl, rfl, rfl, rfl, rfl, rfl, rfl, trivial⟩ rfl)
       ·refine aF ?_
        refine bQ rfl (fun c89 => ?_) (fun c89 => ?_)
        ·have h := aY c89 h
         refine aG ?_
         refine aC ?_
         refine tr1 rfl (eX (aA rfl) xY (zs := [.sl 1 ((([] : List Int)).map aP), .sl 1 ((([] : List (List Int))).map lB)]) rfl rfl rfl rfl (es := [.sl 1 ((([] : List Int)).map aP), .sl 1 ((([] : List (List Int))).map lB)]) rfl) ?_
         refine tr1 rfl (cG (i := 0) rfl rfl rfl rfl rfl Try.sizeOf89 rfl (aA rfl) (Nat.le_of_ble_eq_true rfl) (ds' := (cJ (aQ.mk ([] : List Int) ([] : List (List Int))))) rfl) ?_
         refine tr1 rfl (aI (v := .d (.lit (.bool false))) (aA rfl) rfl rfl) ?_
         refine aF ?_
         have h := Option.some.inj h
         subst h
         exact bN ⟨rfl, _, [.box b2 0 (cJ (aQ.mk ([] : List Int) ([] : List (List Int)))), .fam 3 1 vs61 (d_4_60.map fun r => r.map aP), .arr w9 22 1 (vs61.map fun v => [.lit v]), .box b6 0 [.sl 1 (d_0_7_2.map aP), .lit w9], .box b66 0 (aL x64)], .two (.cell 4 89 rfl (i := 0) rfl uQ (es := (cJ (aQ.mk ([] : List Int) ([] : List (List Int))))) rfl rfl) (.tmp 5 (v := .d (.lit (.bool false))) rfl), .refl _, .same _⟩
        ·have h := aX c89 h
         refine bO ?_
         refine aG ?_
         refine aC ?_
         refine tr1 rfl (aI (v := .d (.lit (.int .i64 0))) (aA rfl) rfl rfl) ?_
         refine aF ?_
         refine yI ?_
         refine dR [4, 6, 8, 13, 14, 15, 18] (fun (s90 : Int × aQ × (List (List Int)) × (List Value)) => [(20, .d (.lit (.int .i64 s90.1)))]) (fun (s90 : Int × aQ × (List (List Int)) × (List Value)) => [.box b2 0 (cJ s90.2.1), .fam 3 1 s90.2.2.2 (s90.2.2.1.map fun r => r.map aP), .arr w9 22 1 (s90.2.2.2.map fun v => [.lit v]), .box b6 0 [.sl 1 (d_0_7_2.map aP), .lit w9], .box b66 0 (aL x64)]) (fun (k : Nat) (s90 : Int × aQ × (List (List Int)) × (List Value)) => fJ (dC r3.1 r58 d_0_7_2 k62) r3.1 r58 i_4_60 atv_8_81 d_0_7_2 x64 k s90.1 s90.2.1 s90.2.2.1) (fun _ => rfl) (0, o4_6_68, d_4_60, vs61) h (bF [0, 1, 2, 3, 4] rfl rfl (aS rfl (bD ⟨rfl, rfl, rfl, rfl, rfl, rfl, rfl, trivial⟩))) ?_
         rintro k92 ⟨r_10_90, o4_10_90, d_10_90, vs91⟩ h
         simp only [fJ] at h
         refine aG ?_
         refine aG ?_
         refine aC ?_
         refine tr1 rfl (aD (v := .d (.lit (.int .i64 r_10_90))) (aA rfl) rfl rfl) ?_
         refine tr1 rfl (aV (aA rfl) rfl lF) ?_
         refine tr1 rfl (aZ (aA rfl) rfl (i := 4) rfl rfl bK) ?_
         refine tr1 rfl (bH (aA rfl) rfl rfl rfl) ?_
         refine aF ?_
         refine bQ rfl (fun c93 => ?_) (fun c93 => ?_)
         ·have h := aY c93 h
          refine bO ?_
          refine aG ?_
          refine cH ?_
          refine aG ?_
          refine aC ?_
          refine tr1 rfl (aD (v := .d (.lit (.int .i64 atv_8_81))) (aA rfl) rfl rfl) ?_
          refine tr1 rfl (aD (v := .d (.lit (.int .i64 r_10_90))) (aA rfl) rfl rfl) ?_
          refine tr1 rfl (bM (aA rfl) rfl rfl rfl) ?_
          refine tr1 rfl (aBd (aA rfl) rfl Try.runUnderlying3 Try.runUnderlying45) ?_
          obtain ⟨u94, h95, h⟩ := bind_some h
          refine tr1 rfl (aBf (aA rfl) rfl rfl (tZ h95)) ?_
          refine tr1 rfl (aI (v := .d (.lit (.int .i64 ((atv_8_81.fdiv (2 ^ (min (IntKind.u64.wrap (w64 (r_10_90 + 1))).toNat 64))))))) (aA rfl) rfl rfl) ?_
          refine aF ?_
          refine aG ?_
          refine aG ?_
          obtain ⟨x96, h97, h⟩ := bind_some h
          obtain ⟨x98, h99, h⟩ := bind_some h
          obtain ⟨b100, h101, h⟩ := bind_some h
          refine dX mix 22 [4, 6, 8, 13, 14, 15, 18, 20, 21] [(190, .d (.lit (.bool b100)))] ?_ ?_
          ·refine bI (!decide (x98 = (-2))) (fun c102 => ?_) (fun c102 => ?_)
           ·have h101 := aY c102 h101
            obtain ⟨x103, h104, h101⟩ := bind_some h101
            obtain ⟨x105, h106, h101⟩ := bind_some h101
            have h101 := Option.some.inj h101
            subst h101
            refine ⟨[(169, 0, .bp b6 0 1), (170, 1, .d (.lit w9)), (171, 2, .d (.lit (.int .i64 r_10_90))), (172, 3, .ep w9 1 r_10_90.toNat 0), (173, 4, .d (.lit (pN vs91 r_10_90))), (174, 5, .d (.lit (.int .i64 ((atv_8_81.fdiv (2 ^ (min (IntKind.u64.wrap (w64 (r_10_90 + 1))).toNat 64))))))), (175, 6, .ep (pN vs91 r_10_90) 1 (atv_8_81.fdiv (2 ^ (min (IntKind.u64.wrap (w64 (r_10_90 + 1))).toNat 64))).toNat 0), (176, 7, .d (.lit (.int .i64 x98))), (177, 8, .d (.lit (.bool ((!decide (x98 = (-2))))))), (178, 9, .d (.lit (.bool ((!decide (x98 = (-2))))))), (179, 10, .bp b6 0 1), (180, 11, .d (.lit w9)), (181, 12, .d (.lit (.int .i64 r_10_90))), (182, 13, .ep w9 1 r_10_90.toNat 0), (183, 14, .d (.lit (pN vs91 r_10_90))), (184, 15, .d (.lit (.int .i64 ((atv_8_81.fdiv (2 ^ (min (IntKind.u64.wrap (w64 (r_10_90 + 1))).toNat 64))))))), (185, 16, .ep (pN vs91 r_10_90) 1 (atv_8_81.fdiv (2 ^ (min (IntKind.u64.wrap (w64 (r_10_90 + 1))).toNat 64))).toNat 0), (186, 17, .d (.lit (.int .i64 x105))), (187, 18, .bp b66 0 3), (188, 19, .d (.lit (.int .i64 x64.Player))), (189, 20, .d (.lit (.bool ((!decide (x105 = x64.Player)))))), (190, 21, .d (.lit (.bool ((!decide (x105 = x64.Player))))))], ?_, ?_⟩
            · exact ⟨by kernel_rfl, by kernel_rfl, by kernel_rfl, by kernel_rfl, by kernel_rfl, [([], []), ([0], []), ([], []), ([1, 2], []), ([3], []), ([], []), ([4, 5], []), ([6], []), ([7], []), ([8], []), ([9], []), ([9, 10], []), ([9], []), ([9, 11, 12], []), ([9, 13], []), ([9], []), ([9, 14, 15], []), ([9, 16], []), ([9], []), ([9, 18], []), ([9, 17, 19], []), ([9, 20], [])], by kernel_rfl, ⟨fun S hS => aK rfl (aT rfl (aV (aA rfl) (aJ hS rfl) rD)),
      fun S hS => aK rfl (aT rfl (aZ (aA rfl) (aJ hS rfl) (i := 3) rfl rfl xP)),
      fun S hS => aK rfl (aT rfl (aD (v := .d (.lit (.int .i64 r_10_90))) (aA rfl) (aJ hS rfl) rfl)),
      fun S hS => aK rfl (aT rfl (qM (m := 2) (f := 1) (aA rfl) (aJ hS rfl) rfl rfl (aJ hS rfl) yG.of h97)),
      fun S hS => aK rfl (aT rfl (rN (m := 2) (f := 1) (aA rfl) (aJ hS rfl) rfl rfl h97 dH)),
      fun S hS => aK rfl (aT rfl (aD (v := .d (.lit (.int .i64 ((atv_8_81.fdiv (2 ^ (min (IntKind.u64.wrap (w64 (r_10_90 + 1))).toNat 64))))))) (aA rfl) (aJ hS rfl) rfl)),
      fun S hS => aK rfl (aT rfl (rM (f := 1) (g := aP) (aA rfl) (aJ hS rfl) rfl h97 (aJ hS rfl) cB.of h99)),
      fun S hS => aK rfl (aT rfl (wF (f := 1) (g := aP) (aA rfl) (aJ hS rfl) rfl h97 h99 rfl bK)),
      fun S hS => aK rfl (aT rfl (bH (aA rfl) (aJ hS rfl) rfl rfl)),
      fun S hS => aK rfl (aT rfl (aD (v := .d (.lit (.bool ((!decide (x98 = (-2))))))) (aA rfl) (aJ hS rfl) rfl)),
      fun S hS => aK rfl (bY rfl rfl (aA rfl) (bE hS rfl) c102 (aV (aA rfl) (aJ hS rfl) rD)),
      fun S hS => aK rfl (bY rfl rfl (aA rfl) (bE hS rfl) c102 (aZ (aA rfl) (aJ hS rfl) (i := 3) rfl rfl xP)),
      fun S hS => aK rfl (bY rfl rfl (aA rfl) (bE hS rfl) c102 (aD (v := .d (.lit (.int .i64 r_10_90))) (aA rfl) (aJ hS rfl) rfl)),
      fun S hS => aK rfl (bY rfl rfl (aA rfl) (bE hS rfl) c102 (qM (m := 2) (f := 1) (aA rfl) (aJ hS rfl) rfl rfl (aJ hS rfl) yG.of h104)),
      fun S hS => aK rfl (bY rfl rfl (aA rfl) (bE hS rfl) c102 (rN (m := 2) (f := 1) (aA rfl) (aJ hS rfl) rfl rfl h104 dH)),
      fun S hS => aK rfl (bY rfl rfl (aA rfl) (bE hS rfl) c102 (aD (v := .d (.lit (.int .i64 ((atv_8_81.fdiv (2 ^ (min (IntKind.u64.wrap (w64 (r_10_90 + 1))).toNat 64))))))) (aA rfl) (aJ hS rfl) rfl)),
      fun S hS => aK rfl (bY rfl rfl (aA rfl) (bE hS rfl) c102 (rM (f := 1) (g := aP) (aA rfl) (aJ hS rfl) rfl h104 (aJ hS rfl) cB.of h106)),
      fun S hS => aK rfl (bY rfl rfl (aA rfl) (bE hS rfl) c102 (wF (f := 1) (g := aP) (aA rfl) (aJ hS rfl) rfl h104 h106 rfl bK)),
      fun S hS => aK rfl (bY rfl rfl (aA rfl) (bE hS rfl) c102 (aV (aA rfl) (aJ hS rfl) mB)),
      fun S hS => aK rfl (bY rfl rfl (aA rfl) (bE hS rfl) c102 (aZ (aA rfl) (aJ hS rfl) (i := 4) rfl rfl bK)),
      fun S hS => aK rfl (bY rfl rfl (aA rfl) (bE hS rfl) c102 (bH (aA rfl) (aJ hS rfl) (aJ hS rfl) rfl)),
      fun S hS => aK rfl (aT rfl (bS (v := .d (.lit (.bool ((!decide (x105 = x64.Player)))))) (aA rfl) (aJ hS rfl) c102 (aJ hS rfl) rfl)), trivial⟩⟩
            · exact dI (aS rfl (bD ⟨rfl, rfl, rfl, rfl, rfl, rfl, rfl, rfl, rfl, trivial⟩))
           ·have h101 := aX c102 h101
            have h101 := Option.some.inj h101
            subst h101
            refine ⟨[(169, 0, .bp b6 0 1), (170, 1, .d (.lit w9)), (171, 2, .d (.lit (.int .i64 r_10_90))), (172, 3, .ep w9 1 r_10_90.toNat 0), (173, 4, .d (.lit (pN vs91 r_10_90))), (174, 5, .d (.lit (.int .i64 ((atv_8_81.fdiv (2 ^ (min (IntKind.u64.wrap (w64 (r_10_90 + 1))).toNat 64))))))), (175, 6, .ep (pN vs91 r_10_90) 1 (atv_8_81.fdiv (2 ^ (min (IntKind.u64.wrap (w64 (r_10_90 + 1))).toNat 64))).toNat 0), (176, 7, .d (.lit (.int .i64 x98))), (177, 8, .d (.lit (.bool ((!decide (x98 = (-2))))))), (178, 9, .d (.lit (.bool ((!decide (x98 = (-2))))))), (179, 10, .tup []), (180, 11, .tup []), (181, 12, .tup []), (182, 13, .tup []), (183, 14, .tup []), (184, 15, .tup []), (185, 16, .tup []), (186, 17, .tup []), (187, 18, .tup []), (188, 19, .tup []), (189, 20, .tup []), (190, 21, .d (.lit (.bool false)))], ?_, ?_⟩
            · exact ⟨by kernel_rfl, by kernel_rfl, by kernel_rfl, by kernel_rfl, by kernel_rfl, [([], []), ([0], []), ([], []), ([1, 2], []), ([3], []), ([], []), ([4, 5], []), ([6], []), ([7], []), ([8], []), ([9], []), ([9, 10], []), ([9], []), ([9, 11, 12], []), ([9, 13], []), ([9], []), ([9, 14, 15], []), ([9, 16], []), ([9], []), ([9, 18], []), ([9, 17, 19], []), ([9, 20], [])], by kernel_rfl, ⟨fun S hS => aK rfl (aT rfl (aV (aA rfl) (aJ hS rfl) rD)),
      fun S hS => aK rfl (aT rfl (aZ (aA rfl) (aJ hS rfl) (i := 3) rfl rfl xP)),
      fun S hS => aK rfl (aT rfl (aD (v := .d (.lit (.int .i64 r_10_90))) (aA rfl) (aJ hS rfl) rfl)),
      fun S hS => aK rfl (aT rfl (qM (m := 2) (f := 1) (aA rfl) (aJ hS rfl) rfl rfl (aJ hS rfl) yG.of h97)),
      fun S hS => aK rfl (aT rfl (rN (m := 2) (f := 1) (aA rfl) (aJ hS rfl) rfl rfl h97 dH)),
      fun S hS => aK rfl (aT rfl (aD (v := .d (.lit (.int .i64 ((atv_8_81.fdiv (2 ^ (min (IntKind.u64.wrap (w64 (r_10_90 + 1))).toNat 64))))))) (aA rfl) (aJ hS rfl) rfl)),
      fun S hS => aK rfl (aT rfl (rM (f := 1) (g := aP) (aA rfl) (aJ hS rfl) rfl h97 (aJ hS rfl) cB.of h99)),
      fun S hS => aK rfl (aT rfl (wF (f := 1) (g := aP) (aA rfl) (aJ hS rfl) rfl h97 h99 rfl bK)),
      fun S hS => aK rfl (aT rfl (bH (aA rfl) (aJ hS rfl) rfl rfl)),
      fun S hS => aK rfl (aT rfl (aD (v := .d (.lit (.bool ((!decide (x98 = (-2))))))) (aA rfl) (aJ hS rfl) rfl)),
      fun S hS => aK rfl (bX rfl rfl (aA rfl) rfl (aA rfl) (bE hS rfl) c102),
      fun S hS => aK rfl (bX rfl rfl (aA rfl) rfl (aA rfl) (bE hS rfl) c102),
      fun S hS => aK rfl (bX rfl rfl (aA rfl) rfl (aA rfl) (bE hS rfl) c102),
      fun S hS => aK rfl (bX rfl rfl (aA rfl) rfl (aA rfl) (bE hS rfl) c102),
      fun S hS => aK rfl (bX rfl rfl (aA rfl) rfl (aA rfl) (bE hS rfl) c102),
      fun S hS => aK rfl (bX rfl rfl (aA rfl) rfl (aA rfl) (bE hS rfl) c102),
      fun S hS => aK rfl (bX rfl rfl (aA rfl) rfl (aA rfl) (bE hS rfl) c102),
      fun S hS => aK rfl (bX rfl rfl (aA rfl) rfl (aA rfl) (bE hS rfl) c102),
      fun S hS => aK rfl (bX rfl rfl (aA rfl) rfl (aA rfl) (bE hS rfl) c102),
      fun S hS => aK rfl (bX rfl rfl (aA rfl) rfl (aA rfl) (bE hS rfl) c102),
      fun S hS => aK rfl (bX rfl rfl (aA rfl) rfl (aA rfl) (bE hS rfl) c102),
      fun S hS => aK rfl (aT rfl (bR (v := .d (.lit (.bool false))) (aA rfl) (aJ hS rfl) c102 rfl rfl)), trivial⟩⟩
            · exact dI (aS rfl (bD ⟨rfl, rfl, rfl, rfl, rfl, rfl, rfl, rfl, rfl, trivial⟩))
          ·refine aF ?_
           refine bQ rfl (fun c107 => ?_) (fun c107 => ?_)
           ·have h := aY c107 h
            refine aG ?_
            refine aC ?_
            refine tr1 rfl (eX (aA rfl) xY (zs := [.sl 1 ((([] : List Int)).map aP), .sl 1 ((([] : List (List Int))).map lB)]) rfl rfl rfl rfl (es := [.sl 1 ((([] : List Int)).map aP), .sl 1 ((([] : List (List Int))).map lB)]) rfl) ?_
            refine tr1 rfl (cG (i := 0) rfl rfl rfl rfl rfl Try.sizeOf89 rfl (aA rfl) (Nat.le_of_ble_eq_true rfl) (ds' := (cJ (aQ.mk ([] : List Int) ([] : List (List Int))))) rfl) ?_
            refine tr1 rfl (aI (v := .d (.lit (.bool false))) (aA rfl) rfl rfl) ?_
            refine aF ?_
            have h := Option.some.inj h
            subst h
            exact bN ⟨rfl, _, [.box b2 0 (cJ (aQ.mk ([] : List Int) ([] : List (List Int)))), .fam 3 1 vs91 (d_10_90.map fun r => r.map aP), .arr w9 22 1 (vs91.map fun v => [.lit v]), .box b6 0 [.sl 1 (d_0_7_2.map aP), .lit w9], .box b66 0 (aL x64)], .two (.cell 4 89 rfl (i := 0) rfl uQ (es := (cJ (aQ.mk ([] : List Int) ([] : List (List Int))))) rfl rfl) (.tmp 5 (v := .d (.lit (.bool false))) rfl), .refl _, .same _⟩
           ·have h := aX c107 h
            refine bO ?_
            obtain ⟨x108, h109, h⟩ := bind_some h
            refine dX mix 8 [4, 6, 8, 13, 14, 15, 18, 20] [(196, .d (.lit (pN vs91 r_10_90))), (197, .d (.lit (.int .i64 ((atv_8_81.fdiv (2 ^ (min (IntKind.u64.wrap (w64 (r_10_90 + 1))).toNat 64))))))), (199, .d (.lit (.int .i64 x64.Player)))] ?_ ?_
            ·refine ⟨[(192, 0, .bp b6 0 1), (193, 1, .d (.lit w9)), (194, 2, .d (.lit (.int .i64 r_10_90))), (195, 3, .ep w9 1 r_10_90.toNat 0), (196, 4, .d (.lit (pN vs91 r_10_90))), (197, 5, .d (.lit (.int .i64 ((atv_8_81.fdiv (2 ^ (min (IntKind.u64.wrap (w64 (r_10_90 + 1))).toNat 64))))))), (198, 6, .bp b66 0 3), (199, 7, .d (.lit (.int .i64 x64.Player)))], ?_, ?_⟩
             · exact ⟨by kernel_rfl, by kernel_rfl, by kernel_rfl, by kernel_rfl, by kernel_rfl, [([], []), ([0], []), ([], []), ([1, 2], []), ([3], []), ([], []), ([], []), ([6], [])], by kernel_rfl, ⟨fun S hS => aK rfl (aT rfl (aV (aA rfl) (aJ hS rfl) rD)),
      fun S hS => aK rfl (aT rfl (aZ (aA rfl) (aJ hS rfl) (i := 3) rfl rfl xP)),
      fun S hS => aK rfl (aT rfl (aD (v := .d (.lit (.int .i64 r_10_90))) (aA rfl) (aJ hS rfl) rfl)),
      fun S hS => aK rfl (aT rfl (qM (m := 2) (f := 1) (aA rfl) (aJ hS rfl) rfl rfl (aJ hS rfl) yG.of h109)),
      fun S hS => aK rfl (aT rfl (rN (m := 2) (f := 1) (aA rfl) (aJ hS rfl) rfl rfl h109 dH)),
      fun S hS => aK rfl (aT rfl (aD (v := .d (.lit (.int .i64 ((atv_8_81.fdiv (2 ^ (min (IntKind.u64.wrap (w64 (r_10_90 + 1))).toNat 64))))))) (aA rfl) (aJ hS rfl) rfl)),
      fun S hS => aK rfl (aT rfl (aV (aA rfl) (aJ hS rfl) mB)),
      fun S hS => aK rfl (aT rfl (aZ (aA rfl) (aJ hS rfl) (i := 4) rfl rfl bK)), trivial⟩⟩
             · exact dI (aS rfl (aS rfl (aS rfl (bD ⟨rfl, rfl, rfl, rfl, rfl, rfl, rfl, rfl, trivial⟩))))
            ·obtain ⟨x110, h111, h⟩ := bind_some h
             refine tr1 rfl (rM (f := 1) (g := aP) (aA rfl) rfl rfl h109 rfl cB.of h111) ?_
             refine tr1 rfl (aFo (f := 1) (g := aP) rfl rfl h109 h111 rfl rfl rfl Try.sizeOf3 rfl (aA rfl) (Nat.le_of_ble_eq_true rfl) (a' := x64.Player) rfl (c' := (d_10_90.set r_10_90.toNat (x108.set (atv_8_81.fdiv (2 ^ (min (IntKind.u64.wrap (w64 (r_10_90 + 1))).toNat 64))).toNat x64.Player))) rfl) ?_
             refine fF ?_
             refine aC ?_
             refine tr1 rfl (aD (v := .d (.lit (.int .i64 r_10_90))) (aA rfl) rfl rfl) ?_
             refine tr1 rfl (bM (aA rfl) rfl rfl rfl) ?_
             refine tr1 rfl (aI (v := .d (.lit (.int .i64 ((w64 (r_10_90 + 1)))))) (aA rfl) rfl rfl) ?_
             refine aF ?_
             exact ⟨(w64 (r_10_90 + 1), o4_10_90, (d_10_90.set r_10_90.toNat (x108.set (atv_8_81.fdiv (2 ^ (min (IntKind.u64.wrap (w64 (r_10_90 + 1))).toNat 64))).toNat x64.Player)), vs91), h, bF [0, 1, 2, 3, 4] rfl rfl (aS rfl (bD ⟨rfl, rfl, rfl, rfl, rfl, rfl, rfl, trivial⟩))⟩
         ·have h := aX c93 h
          refine dF ?_
          refine .inl ⟨rfl, ?_⟩
          simp only [nT] at h
          simp only [iT] at h
          refine aC ?_
          refine tr1 rfl (aD (v := .d (.lit (.int .i64 i_4_60))) (aA rfl) rfl rfl) ?_
          refine tr1 rfl (bM (aA rfl) rfl rfl rfl) ?_
          refine tr1 rfl (aI (v := .d (.lit (.int .i64 ((w64 (i_4_60 + 1)))))) (aA rfl) rfl rfl) ?_
          refine aF ?_
          exact ⟨(w64 (i_4_60 + 1), o4_10_90, d_10_90, vs91), h, bF [0, 1, 2, 3] rfl rfl (aS rfl (bD ⟨rfl, rfl, rfl, rfl, trivial⟩))⟩
   ·have h := aX c63 h
    refine dF ?_
    refine .inl ⟨rfl, ?_⟩
    simp only [oI] at h
    refine aG ?_
    refine aC ?_
    refine tr1 rfl (bL (aA rfl) rfl (i := 3) rfl uQ (es := [.sl 1 (d_0_7_2.map aP), .lit w9]) rfl rfl) ?_
    refine tr1 rfl (cG (i := 0) rfl rfl rfl rfl rfl Try.sizeOf89 rfl (aA rfl) (Nat.le_of_ble_eq_true rfl) (ds' := [.sl 1 (d_0_7_2.map aP), .lit w9]) rfl) ?_
    refine tr1 rfl (aI (v := .d (.lit (.bool true))) (aA rfl) rfl rfl) ?_
    refine aF ?_
    have h := Option.some.inj h
    subst h
    exact bN ⟨rfl, _, [.box b2 0 [.sl 1 (d_0_7_2.map aP), .lit w9], .fam 3 1 vs61 (d_4_60.map fun r => r.map aP), .arr w9 22 1 (vs61.map fun v => [.lit v]), .box b6 0 [.sl 1 (d_0_7_2.map aP), .lit w9]], .two (.cell 4 89 rfl (i := 0) rfl uQ (es := [.sl 1 (d_0_7_2.map aP), .lit w9]) rfl rfl) (.tmp 5 (v := .d (.lit (.bool true))) rfl), .refl _, rU (.cons (.agg (dvc (.same _) (dvc (aMf 2 1 rfl rfl (h := lB) (fun _ => rfl)) dvn))) (.cons (.same _) .nil))⟩

theorem wY (t_0 : aO) (l_1 : List aE) {r : Int} (h : eF t_0 l_1 = some r) : Fn Try.prog 29 [.agg (aR t_0), .d (.sl 5 (l_1.map aL))] (.d (.lit (.int .i64 r))) := by
 unfold eF at h
 refine Fn.of_tr Try.func29 rfl (rs := [.tmp 4]) Try.results29 Try.ntmps29 (Nat.le_of_ble_eq_true rfl) ?_
 refine aG ?_
 refine aC ?_
 refine bU rfl (gD (v := .agg (aR t_0)) (aA rfl) rfl rfl rfl) ?_
 rintro _ ⟨b1, rfl⟩
 refine tr1 rfl (aI (v := .d (.lit (.int .i64 0))) (aA rfl) rfl rfl) ?_
 refine aF ?_
 refine aG ?_
 refine aG ?_
 refine aC ?_
 refine tr1 rfl (bL (aA rfl) rfl (i := 0) rfl dY (es := (aR t_0)) rfl rfl) ?_
 obtain ⟨r2, h3, h⟩ := bind_some h
 refine tr1 rfl (cS (aA rfl) (.func _ _ Try.call53) rfl rfl (BVs.refl _ _) (wN _ h3) rfl) ?_
 refine tr1 rfl (fQ (aA rfl) rfl) ?_
 refine aF ?_
 refine bQ rfl (fun c4 => ?_) (fun c4 => ?_)
 ·have h := aY c4 h
  refine aG ?_
  refine aC ?_
  refine tr1 rfl (aI (v := .d (.lit (.int .i64 70))) (aA rfl) rfl rfl) ?_
  refine aF ?_
  have h := Option.some.inj h
  subst h
  refine cP (cR (cU (l := [4]) ⟨rfl, trivial⟩)) ?_
  exact bN ⟨rfl, _, .one _, rfl, rfl⟩
 ·have h := aX c4 h
  refine bO ?_
  refine aG ?_
  refine aG ?_
  refine aC ?_
  refine tr1 rfl (aD (v := .d (.sl 5 (l_1.map aL))) (aA rfl) rfl rfl) ?_
  refine tr1 rfl (dL (aA rfl) rfl fM.of) ?_
  refine tr1 rfl (bH (aA rfl) rfl rfl rfl) ?_
  refine aF ?_
  refine bQ rfl (fun c5 => ?_) (fun c5 => ?_)
  ·have h := aY c5 h
   refine aG ?_
   refine aC ?_
   refine tr1 rfl (aI (v := .d (.lit (.int .i64 71))) (aA rfl) rfl rfl) ?_
   refine aF ?_
   have h := Option.some.inj h
   subst h
   refine cP (cR (cU (l := [4]) ⟨rfl, trivial⟩)) ?_
   exact bN ⟨rfl, _, .one _, rfl, rfl⟩
  ·have h := aX c5 h
   refine bO ?_
   refine aG ?_
   refine aG ?_
   refine aC ?_
   refine tr1 rfl (aI (v := .d (.lit (.int .i64 0))) (aA rfl) rfl rfl) ?_
   refine aF ?_
   refine cH ?_
   refine dR [1, 2] (fun (s6 : Int) => [(5, .d (.lit (.int .i64 s6)))]) (fun (s6 : Int) => [.box b1 0 (aR t_0)]) (fun (k : Nat) (s6 : Int) => fH l_1 t_0 k s6) (fun _ => rfl) (0) h (bF [0] rfl rfl (aS rfl (bD ⟨rfl, rfl, trivial⟩))) ?_
   rintro k7 i_0_6 h
   simp only [fH] at h
   refine aG ?_
   refine aG ?_
   refine aC ?_
   refine tr1 rfl (aD (v := .d (.lit (.int .i64 i_0_6))) (aA rfl) rfl rfl) ?_
   refine tr1 rfl (aD (v := .d (.sl 5 (l_1.map aL))) (aA rfl) rfl rfl) ?_
   refine tr1 rfl (dL (aA rfl) rfl fM.of) ?_
   refine tr1 rfl (bH (aA rfl) rfl rfl rfl) ?_
   refine aF ?_
   refine bQ rfl (fun c8 => ?_) (fun c8 => ?_)
   ·have h := aY c8 h
    refine bO ?_
    refine aG ?_
    refine cH ?_
    refine aG ?_
    obtain ⟨x9, h10, h⟩ := bind_some h
    refine dX mix 5 [1, 2, 5] [(20, .agg (aR t_0)), (24, .agg (aL x9))] ?_ ?_
    ·refine ⟨[(20, 0, .agg (aR t_0)), (21, 1, .d (.sl 5 (l_1.map aL))), (22, 2, .d (.lit (.int .i64 i_0_6))), (23, 3, .cp [.lit (.int .i64 x9.Kind), .lit (.int .i64 x9.Round), .lit (.int .i64 x9.Place), .lit (.int .i64 x9.Player), .lit (.int .i64 x9.Old)]), (24, 4, .agg (aL x9))], ?_, ?_⟩
     · exact ⟨by kernel_rfl, by kernel_rfl, by kernel_rfl, by kernel_rfl, by kernel_rfl, [([], []), ([], []), ([], []), ([1, 2], []), ([3], [])], by kernel_rfl, ⟨fun S hS => aK rfl (aT rfl (bL (aA rfl) (aJ hS rfl) (i := 0) rfl dY (es := (aR t_0)) rfl rfl)),
      fun S hS => aK rfl (aT rfl (aD (v := .d (.sl 5 (l_1.map aL))) (aA rfl) (aJ hS rfl) rfl)),
      fun S hS => aK rfl (aT rfl (aD (v := .d (.lit (.int .i64 i_0_6))) (aA rfl) (aJ hS rfl) rfl)),
      fun S hS => aK rfl (aT rfl (bT (aA rfl) (aJ hS rfl) (aJ hS rfl) fM.of (cE aL h10))),
      fun S hS => aK rfl (aT rfl (gP (aA rfl) (aJ hS rfl) jM (es := (aL x9)) rfl rfl)), trivial⟩⟩
     · exact dI (aS rfl (aS rfl (bD ⟨rfl, rfl, rfl, trivial⟩)))
    ·obtain ⟨r11, h12, h⟩ := bind_some h
     refine tr1 rfl (cS (aA rfl) (.func _ _ Try.call54) rfl rfl (BVs.refl _ _) (wO _ _ h12) rfl) ?_
     refine tr1 rfl (fQ (aA rfl) rfl) ?_
     refine aF ?_
     refine bQ rfl (fun c13 => ?_) (fun c13 => ?_)
     ·have h := aY c13 h
      refine aG ?_
      refine aC ?_
      refine tr1 rfl (aI (v := .d (.lit (.int .i64 71))) (aA rfl) rfl rfl) ?_
      refine aF ?_
      have h := Option.some.inj h
      subst h
      refine cP (cR (cU (l := [4]) ⟨rfl, trivial⟩)) ?_
      exact bN ⟨rfl, _, .one _, rfl, rfl⟩
     ·have h := aX c13 h
      refine eG ?_
      refine aC ?_
      refine tr1 rfl (aD (v := .d (.lit (.int .i64 i_0_6))) (aA rfl) rfl rfl) ?_
      refine tr1 rfl (bM (aA rfl) rfl rfl rfl) ?_
      refine tr1 rfl (aI (v := .d (.lit (.int .i64 ((w64 (i_0_6 + 1)))))) (aA rfl) rfl rfl) ?_
      refine aF ?_
      exact ⟨(w64 (i_0_6 + 1)), h, bF [0] rfl rfl (aS rfl (bD ⟨rfl, rfl, trivial⟩))⟩
   ·have h := aX c8 h
    refine dF ?_
    refine .inl ⟨rfl, ?_⟩
    simp only [iD] at h
    refine aG ?_
    refine aG ?_
    refine aC ?_
    refine tr1 rfl (bL (aA rfl) rfl (i := 0) rfl dY (es := (aR t_0)) rfl rfl) ?_
    refine tr1 rfl (aD (v := .d (.sl 5 (l_1.map aL))) (aA rfl) rfl rfl) ?_
    obtain ⟨r14, h15, h⟩ := bind_some h
    refine tr1 rfl (iF (aA rfl) (.func _ _ Try.call55) rfl rfl (yO _ _ h15)) ?_
    refine tr1 rfl (aD (v := .tup [.agg (cJ r14.1), .d (.lit (.bool r14.2))]) (aA rfl) rfl rfl) ?_
    refine tr1 rfl (bJ (aA rfl) rfl rfl) ?_
    refine tr1 rfl (bJ (aA rfl) rfl rfl) ?_
    refine bU rfl (dQ (zs := [.sl 1 ((([] : List Int)).map aP), .sl 1 ((([] : List (List Int))).map lB)]) (aA rfl) Try.zeroValue89 rfl rfl) ?_
    rintro _ ⟨b16, rfl⟩
    refine tr1 rfl (cG (i := 1) rfl rfl rfl rfl rfl Try.sizeOf89 rfl (aA rfl) (Nat.le_of_ble_eq_true rfl) (ds' := (cJ r14.1)) rfl) ?_
    refine tr1 rfl (aI (v := .d (.lit (.bool r14.2))) (aA rfl) rfl rfl) ?_
    refine aF ?_
    refine aG ?_
    refine aC ?_
    refine tr1 rfl (aD (v := .d (.lit (.bool r14.2))) (aA rfl) rfl rfl) ?_
    refine tr1 rfl (fQ (aA rfl) rfl) ?_
    refine aF ?_
    refine bQ rfl (fun c17 => ?_) (fun c17 => ?_)
    ·have h := aY c17 h
     refine aG ?_
     refine aC ?_
     refine tr1 rfl (aI (v := .d (.lit (.int .i64 72))) (aA rfl) rfl rfl) ?_
     refine aF ?_
     have h := Option.some.inj h
     subst h
     refine cP (cR (cU (l := [4]) ⟨rfl, trivial⟩)) ?_
     exact bN ⟨rfl, _, .one _, rfl, rfl⟩
    ·have h := aX c17 h
     refine bO ?_
     refine aG ?_
     refine aC ?_
     refine tr1 rfl (aI (v := .d (.lit (.int .i64 0))) (aA rfl) rfl rfl) ?_
     refine aF ?_
     have h := Option.some.inj h
     subst h
     refine cP (cR (cU (l := [4]) ⟨rfl, trivial⟩)) ?_
     exact bN ⟨rfl, _, .one _, rfl, rfl⟩

theorem tY (a0 : aO) (a1 : List aE) {r : (List bA) × Int} (h : lU a0 a1 = some r) : Fn Try.prog 30 [.agg (aR a0), .d (.sl 5 (a1.map aL))] ((fun x : (List bA) × Int => .tup [.d (.sl 4 (x.1.map bB)), .d (.lit (.int .i64 x.2))]) r) := rE (enc := fun x : (List bA) × Int => .tup [.d (.sl 4 (x.1.map bB)), .d (.lit (.int .i64 x.2))]) (aAc a0 a1 (yK a0 a1 h (fun x => x = r) rfl))

theorem aCs (a0 : aO) (a1 : List aE) (a2 : Int) (a3 : Int) {r : (List Int) × Int} (h : sM a0 a1 a2 a3 = some r) : Fn Try.prog 15 [.agg (aR a0), .d (.sl 5 (a1.map aL)), .d (.lit (.int .i64 a2)), .d (.lit (.int .i64 a3))] ((fun x : (List Int) × Int => .tup [.d (.sl 1 (x.1.map aP)), .d (.lit (.int .i64 x.2))]) r) := rE (enc := fun x : (List Int) × Int => .tup [.d (.sl 1 (x.1.map aP)), .d (.lit (.int .i64 x.2))]) (aCr a0 a1 a2 a3 (aAd a0 a1 a2 a3 h (fun x => x = r) rfl))

theorem qY (a0 : aO) (a1 : List aE) {r : Int × Int} (h : lA a0 a1 = some r) : Fn Try.prog 34 [.agg (aR a0), .d (.sl 5 (a1.map aL))] ((fun x : Int × Int => .tup [.d (.lit (.int .i64 x.1)), .d (.lit (.int .i64 x.2))]) r) := rE (enc := fun x : Int × Int => .tup [.d (.lit (.int .i64 x.1)), .d (.lit (.int .i64 x.2))]) (aBl a0 a1 (zB a0 a1 h (fun x => x = r) rfl))

theorem yM (a0 : aO) (a1 : List aE) (a2 : Int) {r : dN × Int} (h : oY a0 a1 a2 = some r) : Fn Try.prog 17 [.agg (aR a0), .d (.sl 5 (a1.map aL)), .d (.lit (.int .i64 a2))] ((fun x : dN × Int => .tup [.agg (fC x.1), .d (.lit (.int .i64 x.2))]) r) := rE (enc := fun x : dN × Int => .tup [.agg (fC x.1), .d (.lit (.int .i64 x.2))]) (yL a0 a1 a2 (wM a0 a1 a2 h (fun x => x = r) rfl))

theorem oF {r : Bool} (h : jS = some r) : Fn Try.prog 14 [] (.d (.lit (.bool r))) := by
 unfold jS at h
 refine Fn.of_tr Try.func14 rfl (rs := [.tmp 0]) Try.results14 Try.ntmps14 (Nat.le_of_ble_eq_true rfl) ?_
 refine aG ?_
 refine aC ?_
 refine tr1 rfl (aI (v := .d (.lit (.bool false))) (aA rfl) rfl rfl) ?_
 refine aF ?_
 refine aG ?_
 refine aC ?_
 obtain ⟨r1, h2, h⟩ := bind_some h
 refine tr1 rfl (iF (aA rfl) (.func _ _ Try.call43) rfl rfl (vI h2)) ?_
 refine tr1 rfl (aD (v := .tup [.agg (aR r1.1), .d (.sl 5 (r1.2.map aL))]) (aA rfl) rfl rfl) ?_
 refine tr1 rfl (bJ (aA rfl) rfl rfl) ?_
 refine tr1 rfl (bJ (aA rfl) rfl rfl) ?_
 refine bU rfl (dQ (zs := [.lit (.int .i64 0), .sl 1 ((([] : List Int)).map aP)]) (aA rfl) Try.zeroValue24 rfl rfl) ?_
 rintro _ ⟨b3, rfl⟩
 refine tr1 rfl (cG (i := 0) rfl rfl rfl rfl rfl Try.sizeOf24 rfl (aA rfl) (Nat.le_of_ble_eq_true rfl) (ds' := (aR r1.1)) rfl) ?_
 refine tr1 rfl (aI (v := .d (.sl 5 (r1.2.map aL))) (aA rfl) rfl rfl) ?_
 refine aF ?_
 refine aG ?_
 refine aC ?_
 refine tr1 rfl (bL (aA rfl) rfl (i := 0) rfl dY (es := (aR r1.1)) rfl rfl) ?_
 refine tr1 rfl (aD (v := .d (.sl 5 (r1.2.map aL))) (aA rfl) rfl rfl) ?_
 obtain ⟨r4, h5, h⟩ := bind_some h
 refine tr1 rfl (iF (aA rfl) (.func _ _ Try.call30) rfl rfl (tY _ _ h5)) ?_
 refine tr1 rfl (aD (v := .tup [.d (.sl 4 (r4.1.map bB)), .d (.lit (.int .i64 r4.2))]) (aA rfl) rfl rfl) ?_
 refine tr1 rfl (bJ (aA rfl) rfl rfl) ?_
 refine tr1 rfl (bJ (aA rfl) rfl rfl) ?_
 refine tr1 rfl (aI (v := .d (.sl 4 (r4.1.map bB))) (aA rfl) rfl rfl) ?_
 refine tr1 rfl (aI (v := .d (.lit (.int .i64 r4.2))) (aA rfl) rfl rfl) ?_
 refine aF ?_
 refine aG ?_
 refine aC ?_
 refine tr1 rfl (bL (aA rfl) rfl (i := 0) rfl dY (es := (aR r1.1)) rfl rfl) ?_
 refine tr1 rfl (aD (v := .d (.sl 5 (r1.2.map aL))) (aA rfl) rfl rfl) ?_
 obtain ⟨r6, h7, h⟩ := bind_some h
 refine tr1 rfl (iF (aA rfl) (.func _ _ Try.call15) rfl rfl (aCs _ _ _ _ h7)) ?_
 refine tr1 rfl (aD (v := .tup [.d (.sl 1 (r6.1.map aP)), .d (.lit (.int .i64 r6.2))]) (aA rfl) rfl rfl) ?_
 refine tr1 rfl (bJ (aA rfl) rfl rfl) ?_
 refine tr1 rfl (bJ (aA rfl) rfl rfl) ?_
 refine tr1 rfl (aI (v := .d (.sl 1 (r6.1.map aP))) (aA rfl) rfl rfl) ?_
 refine tr1 rfl (aI (v := .d (.lit (.int .i64 r6.2))) (aA rfl) rfl rfl) ?_
 refine aF ?_
 refine aG ?_
 refine aC ?_
 refine tr1 rfl (bL (aA rfl) rfl (i := 0) rfl dY (es := (aR r1.1)) rfl rfl) ?_
 refine tr1 rfl (aD (v := .d (.sl 5 (r1.2.map aL))) (aA rfl) rfl rfl) ?_
 obtain ⟨r8, h9, h⟩ := bind_some h
 refine tr1 rfl (cS (aA rfl) (.func _ _ Try.call34) rfl rfl (BVs.refl _ _) (qY _ _ h9) rfl) ?_
 refine tr1 rfl (aD (v := .tup [.d (.lit (.int .i64 r8.1)), .d (.lit (.int .i64 r8.2))]) (aA rfl) rfl rfl) ?_
 refine tr1 rfl (bJ (aA rfl) rfl rfl) ?_
 refine tr1 rfl (bJ (aA rfl) rfl rfl) ?_
 refine tr1 rfl (aI (v := .d (.lit (.int .i64 r8.1))) (aA rfl) rfl rfl) ?_
 refine tr1 rfl (aI (v := .d (.lit (.int .i64 r8.2))) (aA rfl) rfl rfl) ?_
 refine aF ?_
 refine aG ?_
 refine aC ?_
 refine tr1 rfl (bL (aA rfl) rfl (i := 0) rfl dY (es := (aR r1.1)) rfl rfl) ?_
 refine tr1 rfl (aD (v := .d (.sl 5 (r1.2.map aL))) (aA rfl) rfl rfl) ?_
 obtain ⟨r10, h11, h⟩ := bind_some h
 refine tr1 rfl (iF (aA rfl) (.func _ _ Try.call17) rfl rfl (yM _ _ _ h11)) ?_
 refine tr1 rfl (aD (v := .tup [.agg (fC r10.1), .d (.lit (.int .i64 r10.2))]) (aA rfl) rfl rfl) ?_
 refine tr1 rfl (bJ (aA rfl) rfl rfl) ?_
 refine tr1 rfl (bJ (aA rfl) rfl rfl) ?_
 refine bU rfl (dQ (zs := [.lit (.int .i64 0), .lit (.int .i64 0)]) (aA rfl) Try.zeroValue39 rfl rfl) ?_
 rintro _ ⟨b12, rfl⟩
 refine tr1 rfl (cG (i := 1) rfl rfl rfl rfl rfl Try.sizeOf39 rfl (aA rfl) (Nat.le_of_ble_eq_true rfl) (ds' := (fC r10.1)) rfl) ?_
 refine tr1 rfl (aI (v := .d (.lit (.int .i64 r10.2))) (aA rfl) rfl rfl) ?_
 refine aF ?_
 refine aG ?_
 refine aC ?_
 refine tr1 rfl (aD (v := .d (.lit (.int .i64 r4.2))) (aA rfl) rfl rfl) ?_
 refine tr1 rfl (bH (aA rfl) rfl rfl rfl) ?_
 refine tr1 rfl (aD (v := .d (.lit (.bool ((decide (r4.2 = 0)))))) (aA rfl) rfl rfl) ?_
 obtain ⟨b13, h14, h⟩ := bind_some h
 refine cC 3 [3, 5, 7, 8, 9, 10] 44 b13 ?_ ?_
 ·refine bI (decide (r4.2 = 0)) (fun c45 => ?_) (fun c45 => ?_)
  ·have h14 := aY c45 h14
   refine aM rfl rfl (aA rfl) rfl c45 (aD (v := .d (.lit (.int .i64 r6.2))) (aA rfl) rfl rfl) ?_
   refine aM rfl rfl (aA rfl) rfl c45 (bH (aA rfl) rfl rfl rfl) ?_
   refine tr1 rfl (bS (v := .d (.lit (.bool ((decide (r6.2 = 0)))))) (aA rfl) rfl c45 rfl rfl) ?_
   have h14 := Option.some.inj h14
   subst h14
   refine aF (bC rfl ⟨rfl, rfl, rfl, rfl, rfl, rfl, trivial⟩ rfl)
  ·have h14 := aX c45 h14
   refine aN rfl rfl (aA rfl) rfl (aA rfl) rfl c45 ?_
   refine aN rfl rfl (aA rfl) rfl (aA rfl) rfl c45 ?_
   refine tr1 rfl (bR (v := .d (.lit (.bool false))) (aA rfl) rfl c45 rfl rfl) ?_
   have h14 := Option.some.inj h14
   subst h14
   refine aF (bC rfl ⟨rfl, rfl, rfl, rfl, rfl, rfl, trivial⟩ rfl)
 ·refine tr1 rfl (aD (v := .d (.lit (.bool b13))) (aA rfl) rfl rfl) ?_
  obtain ⟨b15, h16, h⟩ := bind_some h
  refine cC 3 [3, 5, 7, 9, 10] 48 b15 ?_ ?_
  ·refine bI (b13) (fun c44 => ?_) (fun c44 => ?_)
   ·have h16 := aY c44 h16
    refine aM rfl rfl (aA rfl) rfl c44 (aD (v := .d (.lit (.int .i64 r8.2))) (aA rfl) rfl rfl) ?_
    refine aM rfl rfl (aA rfl) rfl c44 (bH (aA rfl) rfl rfl rfl) ?_
    refine tr1 rfl (bS (v := .d (.lit (.bool ((decide (r8.2 = 0)))))) (aA rfl) rfl c44 rfl rfl) ?_
    have h16 := Option.some.inj h16
    subst h16
    refine aF (bC rfl ⟨rfl, rfl, rfl, rfl, rfl, trivial⟩ rfl)
   ·have h16 := aX c44 h16
    refine aN rfl rfl (aA rfl) rfl (aA rfl) rfl c44 ?_
    refine aN rfl rfl (aA rfl) rfl (aA rfl) rfl c44 ?_
    refine tr1 rfl (bR (v := .d (.lit (.bool false))) (aA rfl) rfl c44 rfl rfl) ?_
    have h16 := Option.some.inj h16
    subst h16
    refine aF (bC rfl ⟨rfl, rfl, rfl, rfl, rfl, trivial⟩ rfl)
  ·refine tr1 rfl (aD (v := .d (.lit (.bool b15))) (aA rfl) rfl rfl) ?_
   obtain ⟨b17, h18, h⟩ := bind_some h
   refine cC 3 [3, 5, 7, 9] 52 b17 ?_ ?_
   ·refine bI (b15) (fun c43 => ?_) (fun c43 => ?_)
    ·have h18 := aY c43 h18
     refine aM rfl rfl (aA rfl) rfl c43 (aD (v := .d (.lit (.int .i64 r10.2))) (aA rfl) rfl rfl) ?_
     refine aM rfl rfl (aA rfl) rfl c43 (bH (aA rfl) rfl rfl rfl) ?_
     refine tr1 rfl (bS (v := .d (.lit (.bool ((decide (r10.2 = 0)))))) (aA rfl) rfl c43 rfl rfl) ?_
     have h18 := Option.some.inj h18
     subst h18
     refine aF (bC rfl ⟨rfl, rfl, rfl, rfl, trivial⟩ rfl)
    ·have h18 := aX c43 h18
     refine aN rfl rfl (aA rfl) rfl (aA rfl) rfl c43 ?_
     refine aN rfl rfl (aA rfl) rfl (aA rfl) rfl c43 ?_
     refine tr1 rfl (bR (v := .d (.lit (.bool false))) (aA rfl) rfl c43 rfl rfl) ?_
     have h18 := Option.some.inj h18
     subst h18
     refine aF (bC rfl ⟨rfl, rfl, rfl, rfl, trivial⟩ rfl)
   ·refine tr1 rfl (aD (v := .d (.lit (.bool b17))) (aA rfl) rfl rfl) ?_
    obtain ⟨b19, h20, h⟩ := bind_some h
    refine cC 4 [3, 5, 7, 9] 57 b19 ?_ ?_
    ·refine bI (b17) (fun c42 => ?_) (fun c42 => ?_)
     ·have h20 := aY c42 h20
      refine aM rfl rfl (aA rfl) rfl c42 (aD (v := .d (.sl 4 (r4.1.map bB))) (aA rfl) rfl rfl) ?_
      refine aM rfl rfl (aA rfl) rfl c42 (dL (aA rfl) rfl iC.of) ?_
      refine aM rfl rfl (aA rfl) rfl c42 (bH (aA rfl) rfl rfl rfl) ?_
      refine tr1 rfl (bS (v := .d (.lit (.bool ((decide ((r4.1.length : Int) = 7)))))) (aA rfl) rfl c42 rfl rfl) ?_
      have h20 := Option.some.inj h20
      subst h20
      refine aF (bC rfl ⟨rfl, rfl, rfl, rfl, trivial⟩ rfl)
     ·have h20 := aX c42 h20
      refine aN rfl rfl (aA rfl) rfl (aA rfl) rfl c42 ?_
      refine aN rfl rfl (aA rfl) rfl (aA rfl) rfl c42 ?_
      refine aN rfl rfl (aA rfl) rfl (aA rfl) rfl c42 ?_
      refine tr1 rfl (bR (v := .d (.lit (.bool false))) (aA rfl) rfl c42 rfl rfl) ?_
      have h20 := Option.some.inj h20
      subst h20
      refine aF (bC rfl ⟨rfl, rfl, rfl, rfl, trivial⟩ rfl)
    ·refine tr1 rfl (aD (v := .d (.lit (.bool b19))) (aA rfl) rfl rfl) ?_
     obtain ⟨b21, h22, h⟩ := bind_some h
     refine cC 6 [3, 5, 7, 9] 64 b21 ?_ ?_
     ·refine bI (b19) (fun c39 => ?_) (fun c39 => ?_)
      ·have h22 := aY c39 h22
       refine aM rfl rfl (aA rfl) rfl c39 (aD (v := .d (.sl 4 (r4.1.map bB))) (aA rfl) rfl rfl) ?_
       obtain ⟨x40, h41, h22⟩ := bind_some h22
       refine aM rfl rfl (aA rfl) rfl c39 (bT (aA rfl) rfl rfl iC.of (cE bB h41)) ?_
       refine aM rfl rfl (aA rfl) rfl c39 (gP (aA rfl) rfl rQ (es := (bB x40)) rfl rfl) ?_
       refine aM rfl rfl (aA rfl) rfl c39 (eX (aA rfl) aEp (zs := [.lit (.int .i64 0), .lit (.int .i64 0), .lit (.int .i64 0), .lit (.int .i64 0)]) rfl rfl rfl rfl (es := [.lit (.int .i64 1), .lit (.int .i64 0), .lit (.int .i64 1), .lit (.int .i64 2)]) rfl) ?_
       refine aM rfl rfl (aA rfl) rfl c39 (yF (a := x40) (b := (bA.mk 1 0 1 2)) (aA rfl) rfl rfl rfl rfl Try.eqGuardType57 aDo) ?_
       refine tr1 rfl (bS (v := .d (.lit (.bool ((decide (x40 = (bA.mk 1 0 1 2))))))) (aA rfl) rfl c39 rfl rfl) ?_
       have h22 := Option.some.inj h22
       subst h22
       refine aF (bC rfl ⟨rfl, rfl, rfl, rfl, trivial⟩ rfl)
      ·have h22 := aX c39 h22
       refine aN rfl rfl (aA rfl) rfl (aA rfl) rfl c39 ?_
       refine aN rfl rfl (aA rfl) rfl (aA rfl) rfl c39 ?_
       refine aN rfl rfl (aA rfl) rfl (aA rfl) rfl c39 ?_
       refine aN rfl rfl (aA rfl) rfl (aA rfl) rfl c39 ?_
       refine aN rfl rfl (aA rfl) rfl (aA rfl) rfl c39 ?_
       refine tr1 rfl (bR (v := .d (.lit (.bool false))) (aA rfl) rfl c39 rfl rfl) ?_
       have h22 := Option.some.inj h22
       subst h22
       refine aF (bC rfl ⟨rfl, rfl, rfl, rfl, trivial⟩ rfl)
     ·refine tr1 rfl (aD (v := .d (.lit (.bool b21))) (aA rfl) rfl rfl) ?_
      obtain ⟨b23, h24, h⟩ := bind_some h
      refine cC 6 [5, 7, 9] 71 b23 ?_ ?_
      ·refine bI (b21) (fun c36 => ?_) (fun c36 => ?_)
       ·have h24 := aY c36 h24
        refine aM rfl rfl (aA rfl) rfl c36 (aD (v := .d (.sl 4 (r4.1.map bB))) (aA rfl) rfl rfl) ?_
        obtain ⟨x37, h38, h24⟩ := bind_some h24
        refine aM rfl rfl (aA rfl) rfl c36 (bT (aA rfl) rfl rfl iC.of (cE bB h38)) ?_
        refine aM rfl rfl (aA rfl) rfl c36 (gP (aA rfl) rfl rQ (es := (bB x37)) rfl rfl) ?_
        refine aM rfl rfl (aA rfl) rfl c36 (eX (aA rfl) aEp (zs := [.lit (.int .i64 0), .lit (.int .i64 0), .lit (.int .i64 0), .lit (.int .i64 0)]) rfl rfl rfl rfl (es := [.lit (.int .i64 2), .lit (.int .i64 0), .lit (.int .i64 2), .lit (.int .i64 (-2))]) rfl) ?_
        refine aM rfl rfl (aA rfl) rfl c36 (yF (a := x37) (b := (bA.mk 2 0 2 (-2))) (aA rfl) rfl rfl rfl rfl Try.eqGuardType57 aDo) ?_
        refine tr1 rfl (bS (v := .d (.lit (.bool ((decide (x37 = (bA.mk 2 0 2 (-2)))))))) (aA rfl) rfl c36 rfl rfl) ?_
        have h24 := Option.some.inj h24
        subst h24
        refine aF (bC rfl ⟨rfl, rfl, rfl, trivial⟩ rfl)
       ·have h24 := aX c36 h24
        refine aN rfl rfl (aA rfl) rfl (aA rfl) rfl c36 ?_
        refine aN rfl rfl (aA rfl) rfl (aA rfl) rfl c36 ?_
        refine aN rfl rfl (aA rfl) rfl (aA rfl) rfl c36 ?_
        refine aN rfl rfl (aA rfl) rfl (aA rfl) rfl c36 ?_
        refine aN rfl rfl (aA rfl) rfl (aA rfl) rfl c36 ?_
        refine tr1 rfl (bR (v := .d (.lit (.bool false))) (aA rfl) rfl c36 rfl rfl) ?_
        have h24 := Option.some.inj h24
        subst h24
        refine aF (bC rfl ⟨rfl, rfl, rfl, trivial⟩ rfl)
      ·refine tr1 rfl (aD (v := .d (.lit (.bool b23))) (aA rfl) rfl rfl) ?_
       obtain ⟨b25, h26, h⟩ := bind_some h
       refine cC 4 [7, 9] 76 b25 ?_ ?_
       ·refine bI (b23) (fun c33 => ?_) (fun c33 => ?_)
        ·have h26 := aY c33 h26
         refine aM rfl rfl (aA rfl) rfl c33 (aD (v := .d (.sl 1 (r6.1.map aP))) (aA rfl) rfl rfl) ?_
         refine aM rfl rfl (aA rfl) rfl c33 (eW (aA rfl) cB rfl rfl (rows := ([2, 5, 7, 8]).map aP) rfl (cV (f := aP) fun _ => rfl) rfl (by decide)) ?_
         obtain ⟨r34, h35, h26⟩ := bind_some h26
         refine aM rfl rfl (aA rfl) rfl c33 (cS (aA rfl) (.func _ _ Try.call23) rfl rfl (BVs.refl _ _) (uT _ _ h35) rfl) ?_
         refine tr1 rfl (bS (v := .d (.lit (.bool r34))) (aA rfl) rfl c33 rfl rfl) ?_
         have h26 := Option.some.inj h26
         subst h26
         refine aF (bC rfl ⟨rfl, rfl, trivial⟩ rfl)
        ·have h26 := aX c33 h26
         refine aN rfl rfl (aA rfl) rfl (aA rfl) rfl c33 ?_
         refine aN rfl rfl (aA rfl) rfl (aA rfl) rfl c33 ?_
         refine aN rfl rfl (aA rfl) rfl (aA rfl) rfl c33 ?_
         refine tr1 rfl (bR (v := .d (.lit (.bool false))) (aA rfl) rfl c33 rfl rfl) ?_
         have h26 := Option.some.inj h26
         subst h26
         refine aF (bC rfl ⟨rfl, rfl, trivial⟩ rfl)
       ·refine tr1 rfl (aD (v := .d (.lit (.bool b25))) (aA rfl) rfl rfl) ?_
        obtain ⟨b27, h28, h⟩ := bind_some h
        refine cC 3 [9] 80 b27 ?_ ?_
        ·refine bI (b25) (fun c32 => ?_) (fun c32 => ?_)
         ·have h28 := aY c32 h28
          refine aM rfl rfl (aA rfl) rfl c32 (aD (v := .d (.lit (.int .i64 r8.1))) (aA rfl) rfl rfl) ?_
          refine aM rfl rfl (aA rfl) rfl c32 (bH (aA rfl) rfl rfl rfl) ?_
          refine tr1 rfl (bS (v := .d (.lit (.bool ((decide (r8.1 = 3)))))) (aA rfl) rfl c32 rfl rfl) ?_
          have h28 := Option.some.inj h28
          subst h28
          refine aF (bC rfl ⟨rfl, trivial⟩ rfl)
         ·have h28 := aX c32 h28
          refine aN rfl rfl (aA rfl) rfl (aA rfl) rfl c32 ?_
          refine aN rfl rfl (aA rfl) rfl (aA rfl) rfl c32 ?_
          refine tr1 rfl (bR (v := .d (.lit (.bool false))) (aA rfl) rfl c32 rfl rfl) ?_
          have h28 := Option.some.inj h28
          subst h28
          refine aF (bC rfl ⟨rfl, trivial⟩ rfl)
        ·refine tr1 rfl (aD (v := .d (.lit (.bool b27))) (aA rfl) rfl rfl) ?_
         obtain ⟨b29, h30, h⟩ := bind_some h
         refine cC 4 [] 85 b29 ?_ ?_
         ·refine bI (b27) (fun c31 => ?_) (fun c31 => ?_)
          ·have h30 := aY c31 h30
           refine aM rfl rfl (aA rfl) rfl c31 (bL (aA rfl) rfl (i := 1) rfl aAa (es := (fC r10.1)) rfl rfl) ?_
           refine aM rfl rfl (aA rfl) rfl c31 (eX (aA rfl) aBi (zs := [.lit (.int .i64 0), .lit (.int .i64 0)]) rfl rfl rfl rfl (es := [.lit (.int .i64 2), .lit (.int .i64 3)]) rfl) ?_
           refine aM rfl rfl (aA rfl) rfl c31 (yF (a := r10.1) (b := (dN.mk 2 3)) (aA rfl) rfl rfl rfl rfl Try.eqGuardType39 aMg) ?_
           refine tr1 rfl (bS (v := .d (.lit (.bool ((decide (r10.1 = (dN.mk 2 3))))))) (aA rfl) rfl c31 rfl rfl) ?_
           have h30 := Option.some.inj h30
           subst h30
           refine aF (bC rfl trivial rfl)
          ·have h30 := aX c31 h30
           refine aN rfl rfl (aA rfl) rfl (aA rfl) rfl c31 ?_
           refine aN rfl rfl (aA rfl) rfl (aA rfl) rfl c31 ?_
           refine aN rfl rfl (aA rfl) rfl (aA rfl) rfl c31 ?_
           refine tr1 rfl (bR (v := .d (.lit (.bool false))) (aA rfl) rfl c31 rfl rfl) ?_
           have h30 := Option.some.inj h30
           subst h30
           refine aF (bC rfl trivial rfl)
         ·refine tr1 rfl (aI (v := .d (.lit (.bool b29))) (aA rfl) rfl rfl) ?_
          refine aF ?_
          have h := Option.some.inj h
          subst h
          refine cP (cR (cU (l := [0]) ⟨rfl, trivial⟩)) ?_
          exact bN ⟨rfl, _, .one _, rfl, rfl⟩

theorem aAe (t_0 : aO) (l_1 : List aE) {Q : ((List bA) × Int) → Prop} (h : nK t_0 l_1 Q) : eS Try.prog 32 [.agg (aR t_0), .d (.sl 5 (l_1.map aL))] [] (fun r' o' => ∃ (r : (List bA) × Int), Q r ∧ r' = .tup [.d (.sl 4 (r.1.map bB)), .d (.lit (.int .i64 r.2))] ∧ o' = []) := by
 unfold nK at h
 refine fV Try.func32 rfl (rs := [.tmp 4, .tmp 5]) Try.results32 Try.ntmps32 (Nat.le_of_ble_eq_true rfl) ?_
 refine aG ?_
 refine aC ?_
 refine bU rfl (gD (v := .agg (aR t_0)) (aA rfl) rfl rfl rfl) ?_
 rintro _ ⟨b1, rfl⟩
 refine tr1 rfl (oW 4 (aA rfl)) ?_
 refine tr1 rfl (aI (v := .d (.lit (.int .i64 0))) (aA rfl) rfl rfl) ?_
 refine aF ?_
 refine aG ?_
 refine aC ?_
 refine tr1 rfl (bL (aA rfl) rfl (i := 0) rfl dY (es := (aR t_0)) rfl rfl) ?_
 refine tr1 rfl (aD (v := .d (.sl 5 (l_1.map aL))) (aA rfl) rfl rfl) ?_
 refine bU rfl (mS (aA rfl) (.func _ _ Try.call48) rfl rfl (mJ _ _ h)) ?_
 rintro _ ⟨_, _, ⟨r2, h, rfl, rfl⟩, rfl⟩
 refine tr1 rfl (aD (v := .tup [cN aU r2.1, .d (.lit (.int .i64 r2.2))]) (aA rfl) rfl rfl) ?_
 refine tr1 rfl (bJ (aA rfl) rfl rfl) ?_
 refine tr1 rfl (bJ (aA rfl) rfl rfl) ?_
 refine bU rfl (dQ (zs := [.lit (.pointer none)]) (aA rfl) Try.zeroValue68 rfl rfl) ?_
 rintro _ ⟨b3, rfl⟩
 refine aKt (enc := aU) 17 rfl fun w4 => ?_
 refine tr1 rfl (cG (i := 1) rfl rfl rfl rfl rfl Try.sizeOf68 rfl (aA rfl) (Nat.le_of_ble_eq_true rfl) (ds' := [.lit w4]) rfl) ?_
 refine tr1 rfl (aI (v := .d (.lit (.int .i64 r2.2))) (aA rfl) rfl rfl) ?_
 refine aF ?_
 refine aG ?_
 refine aG ?_
 refine aC ?_
 refine tr1 rfl (aD (v := .d (.lit (.int .i64 r2.2))) (aA rfl) rfl rfl) ?_
 refine tr1 rfl (bH (aA rfl) rfl rfl rfl) ?_
 refine aF ?_
 refine bQ rfl (fun c5 => ?_) (fun c5 => ?_)
 ·have h := eC c5 h
  refine aG ?_
  refine aC ?_
  refine tr1 rfl (aD (v := .d (.lit (.int .i64 r2.2))) (aA rfl) rfl rfl) ?_
  refine tr1 rfl (oW 4 (aA rfl)) ?_
  refine tr1 rfl (aI (v := .d (.lit (.int .i64 r2.2))) (aA rfl) rfl rfl) ?_
  refine aF ?_
  exact bN ⟨rfl, _, [], [.box b1 0 (aR t_0), .box b3 0 [.lit w4], nZ aU r2.1 w4], _, .two (.tmp 4 (v := .d (.sl 4 ((([] : List bA)).map bB))) rfl) (.tmp 5 (v := .d (.lit (.int .i64 r2.2))) rfl), .refl _, .same _, (([] : List bA), r2.2), h, rfl, rfl⟩
 ·have h := eB c5 h
  refine bO ?_
  refine aG ?_
  refine aC ?_
  refine bU rfl (dQ (zs := [.lit (.slice none 0 0)]) (aA rfl) Try.zeroValue48 rfl rfl) ?_
  rintro _ ⟨b6, rfl⟩
  refine jG (vL 57 4) ?_
  refine aF ?_
  refine aG ?_
  refine aG ?_
  refine aC ?_
  refine tr1 rfl (aCm (enc := aU) (i := 1) (i2 := 2) (aA rfl) rfl rfl rfl rfl aIq) ?_
  obtain ⟨x7, h8, h⟩ := dA h
  refine jG (yC (enc := aU) (k := 22) rfl h8) ?_
  refine tr1 rfl (aIz (aA rfl) rfl rfl) ?_
  refine aF ?_
  refine cH ?_
  obtain ⟨s9, h10, h⟩ := dA h
  refine tE ?_ aIo
  refine aEu (S := (List bA) × Value) (S0 := (List bA)) (f := 56) (ps := [24, 25]) (fun z13 => z13.1) (fun z13 => [.box b1 0 (aR t_0), .box b3 0 [.lit w4], nZ aU r2.1 w4, .box b6 0 [.lit z13.2], .arr z13.2 57 4 (z13.1.map bB)]) (aLb (fun x14 : aB => .agg (aH x14)) (fun x15 : bA => .agg (bB x15)) _) (([] : List bA), (.slice none 0 0)) ([] : List bA) s9 (bF [0, 1, 2, 3, 4] rfl rfl (le_refl _)) rfl Try.call56 rfl (by decide) rfl rfl (fun l J hy m0 h0 => pC (S := (List bA)) J l _ (fun _ _ _ _ _ hJ hq => hy _ _ _ _ hJ ⟨_, _, rfl, hq⟩) x7 _ m0 h0 h10) ?_ ?_
  ·rintro ⟨e11, w12⟩ _ _ ⟨x14, x15, rfl, h⟩
   refine ⟨rfl, ?_⟩
   refine aG ?_
   refine aC ?_
   refine bU rfl (dQ (zs := [.lit (.int .i64 0), .lit (.int .i64 0)]) (aA rfl) Try.zeroValue70 rfl rfl) ?_
   rintro _ ⟨b16, rfl⟩
   refine tr1 rfl (cG (i := 5) rfl rfl rfl rfl rfl Try.sizeOf70 rfl (aA rfl) (Nat.le_of_ble_eq_true rfl) (ds' := (aH x14)) rfl) ?_
   refine aF ?_
   refine aC ?_
   refine bU rfl (dQ (zs := [.lit (.int .i64 0), .lit (.int .i64 0), .lit (.int .i64 0), .lit (.int .i64 0)]) (aA rfl) Try.zeroValue57 rfl rfl) ?_
   rintro _ ⟨b17, rfl⟩
   refine tr1 rfl (cG (i := 6) rfl rfl rfl rfl rfl Try.sizeOf57 rfl (aA rfl) (Nat.le_of_ble_eq_true rfl) (ds' := (bB x15)) rfl) ?_
   refine aF ?_
   refine cH ?_
   refine aG ?_
   obtain ⟨x18, h19, h⟩ := bind_some h
   refine cP (aIa (enc := aU) (i := 2) rfl h19) ?_
   refine dX mix 10 [8, 10] [(34, .d (.lit (.bool ((cL x14 x18.won)))))] ?_ ?_
   ·refine ⟨[(27, 0, .cp [.lit (.int .i64 x18.Tree.Rounds), .sl 1 (x18.Tree.Slots.map aP), .sl 1 (x18.players.map aP), .mp false (x18.won.map fun p : aB × Int => ((fun a : aB => Value.agg ((aH a).map bG).toArray) p.1, aP p.2))]), (28, 1, .cp [.lit (.int .i64 x18.Tree.Rounds), .sl 1 (x18.Tree.Slots.map aP), .sl 1 (x18.players.map aP), .mp false (x18.won.map fun p : aB × Int => ((fun a : aB => Value.agg ((aH a).map bG).toArray) p.1, aP p.2))]), (29, 2, .cp [.mp false (x18.won.map fun p : aB × Int => ((fun a : aB => Value.agg ((aH a).map bG).toArray) p.1, aP p.2))]), (30, 3, .d (.mp false (x18.won.map fun p : aB × Int => ((fun a : aB => Value.agg ((aH a).map bG).toArray) p.1, aP p.2)))), (31, 4, .agg (aH x14)), (32, 5, .tup [.d (.lit (.int .i64 ((cF x14 0 x18.won)))), .d (.lit (.bool ((cL x14 x18.won))))]), (26, 6, .tup [.d (.lit (.int .i64 ((cF x14 0 x18.won)))), .d (.lit (.bool ((cL x14 x18.won))))]), (33, 7, .d (.lit (.int .i64 ((cF x14 0 x18.won))))), (34, 8, .d (.lit (.bool ((cL x14 x18.won))))), (11, 9, .d (.lit (.int .i64 ((cF x14 0 x18.won)))))], ?_, ?_⟩
    · exact ⟨by kernel_rfl, by kernel_rfl, by kernel_rfl, by kernel_rfl, by kernel_rfl, [([], []), ([0], []), ([1], []), ([2], []), ([], []), ([3, 4], []), ([5], []), ([6], []), ([6], []), ([7], [])], by kernel_rfl, ⟨fun S hS => aK rfl (aT rfl (aIx (enc := aU) (i := 1) (i2 := 2) (aA rfl) (aJ hS rfl) rfl rfl rfl aIq)),
      fun S hS => aK rfl (aT rfl (gQ (aA rfl) (aJ hS rfl))),
      fun S hS => aK rfl (aT rfl (cO (aA rfl) (aJ hS rfl) oN (es := [.mp false (x18.won.map fun p : aB × Int => ((fun a : aB => Value.agg ((aH a).map bG).toArray) p.1, aP p.2))]) rfl)),
      fun S hS => aK rfl (aT rfl (bV (aA rfl) (aJ hS rfl) sC)),
      fun S hS => aK rfl (aT rfl (bL (aA rfl) (aJ hS rfl) (i := 5) rfl iL (es := (aH x14)) rfl rfl)),
      fun S hS => aK rfl (aT rfl (nO (enc := aP) (agg := false) (l := x18.won) (z := 0) (a := x14) (aA rfl) qH Try.underlying73 Try.zeroValue3 (fun _ _ => .d (.lit _ rfl)) (aJ hS rfl) rfl rfl (aJ hS rfl) (jI (enc := aH) x14 rfl))),
      fun S hS => aK rfl (aT rfl (aD (v := .tup [.d (.lit (.int .i64 ((cF x14 0 x18.won)))), .d (.lit (.bool ((cL x14 x18.won))))]) (aA rfl) (aJ hS rfl) rfl)),
      fun S hS => aK rfl (aT rfl (bJ (aA rfl) (aJ hS rfl) rfl)),
      fun S hS => aK rfl (aT rfl (bJ (aA rfl) (aJ hS rfl) rfl)),
      fun S hS => aK rfl (aT rfl (aI (v := .d (.lit (.int .i64 ((cF x14 0 x18.won))))) (aA rfl) (aJ hS rfl) rfl)), trivial⟩⟩
    · exact dI (aS rfl (bD ⟨rfl, rfl, trivial⟩))
   ·refine tr1 rfl (aI (v := .d (.lit (.bool ((cL x14 x18.won))))) (aA rfl) rfl rfl) ?_
    refine aF ?_
    refine cP (aJv (enc := aU) (i := 2) rfl h19) ?_
    refine aG ?_
    refine aC ?_
    refine tr1 rfl (aD (v := .d (.lit (.bool ((cL x14 x18.won))))) (aA rfl) rfl rfl) ?_
    refine tr1 rfl (fQ (aA rfl) rfl) ?_
    refine tr1 rfl (aD (v := .d (.lit (.bool ((!(cL x14 x18.won)))))) (aA rfl) rfl rfl) ?_
    obtain ⟨b20, h21, h⟩ := bind_some h
    refine cC 7 [8, 10] 44 b20 ?_ ?_
    ·refine bI (!(cL x14 x18.won)) (fun c26 => ?_) (fun c26 => ?_)
     ·have h21 := aY c26 h21
      refine aM rfl rfl (aA rfl) rfl c26 (aV (aA rfl) rfl aDu) ?_
      refine aM rfl rfl (aA rfl) rfl c26 (aZ (aA rfl) rfl (i := 6) rfl rfl bK) ?_
      refine aM rfl rfl (aA rfl) rfl c26 (aV (aA rfl) rfl zK) ?_
      refine aM rfl rfl (aA rfl) rfl c26 (aZ (aA rfl) rfl (i := 6) rfl rfl bK) ?_
      refine aM rfl rfl (aA rfl) rfl c26 (aMx (aA rfl) rfl rfl) ?_
      refine aM rfl rfl (aA rfl) rfl c26 (bH (aA rfl) rfl rfl rfl) ?_
      refine tr1 rfl (bS (v := .d (.lit (.bool ((decide (0 ≤ (min x15.One x15.Two))))))) (aA rfl) rfl c26 rfl rfl) ?_
      have h21 := Option.some.inj h21
      subst h21
      refine aF (bC rfl ⟨rfl, rfl, trivial⟩ rfl)
     ·have h21 := aX c26 h21
      refine aN rfl rfl (aA rfl) rfl (aA rfl) rfl c26 ?_
      refine aN rfl rfl (aA rfl) rfl (aA rfl) rfl c26 ?_
      refine aN rfl rfl (aA rfl) rfl (aA rfl) rfl c26 ?_
      refine aN rfl rfl (aA rfl) rfl (aA rfl) rfl c26 ?_
      refine aN rfl rfl (aA rfl) rfl (aA rfl) rfl c26 ?_
      refine aN rfl rfl (aA rfl) rfl (aA rfl) rfl c26 ?_
      refine tr1 rfl (bR (v := .d (.lit (.bool false))) (aA rfl) rfl c26 rfl rfl) ?_
      have h21 := Option.some.inj h21
      subst h21
      refine aF (bC rfl ⟨rfl, rfl, trivial⟩ rfl)
    ·refine aF ?_
     refine bQ rfl (fun c22 => ?_) (fun c22 => ?_)
     ·have h := aY c22 h
      refine aC ?_
      refine tr1 rfl (aZ (aA rfl) rfl (i := 3) rfl rfl aAw) ?_
      refine tr1 rfl (bL (aA rfl) rfl (i := 6) rfl rQ (es := (bB x15)) rfl rfl) ?_
      refine tr1 rfl (eW (aA rfl) iC rfl rfl (rows := ([x15]).map bB) rfl (cV (f := bB) fun _ => rfl) rfl (by decide)) ?_
      obtain ⟨x23, h24, h⟩ := bind_some h
      refine bU rfl (eI (i := 4) (aA rfl) iC rfl rfl rfl (fun _ => rfl) h24 rfl) ?_
      rintro _ ⟨v25, rfl⟩
      refine tr1 rfl (cG (i := 3) rfl rfl rfl rfl rfl Try.sizeOf48 rfl (aA rfl) (Nat.le_of_ble_eq_true rfl) (ds' := [.lit v25]) rfl) ?_
      refine fF ?_
      have h := Option.some.inj h
      subst h
      exact ⟨(x23, v25), rfl, bF [0, 1, 2, 3, 4] rfl rfl aDy⟩
     ·have h := aX c22 h
      refine eG ?_
      have h := Option.some.inj h
      subst h
      exact ⟨(e11, w12), rfl, bF [0, 1, 2, 3, 4] rfl rfl aDy⟩
  ·rintro ⟨e11, w12⟩ h27
   subst h27
   refine aG ?_
   refine aC ?_
   refine tr1 rfl (aZ (aA rfl) rfl (i := 3) rfl rfl aAw) ?_
   refine tr1 rfl (aI (v := .d (.lit w12)) (aA rfl) rfl rfl) ?_
   refine tr1 rfl (aI (v := .d (.lit (.int .i64 0))) (aA rfl) rfl rfl) ?_
   refine aF ?_
   exact bN ⟨rfl, _, [], [.box b1 0 (aR t_0), .box b3 0 [.lit w4], nZ aU r2.1 w4, .box b6 0 [.lit w12], .arr w12 57 4 (e11.map bB)], _, .two (.tmp 4 (v := .d (.lit w12)) rfl) (.tmp 5 (v := .d (.lit (.int .i64 0))) rfl), .refl _, rU (.cons (.d (kR 4 rfl (cV (f := bB) fun _ => rfl))) (.cons (.same _) .nil)), (e11, 0), h, rfl, rfl⟩

theorem uL (a_0 : List bA) (b_1 : List bA) {r : Bool} (h : jA a_0 b_1 = some r) : Fn Try.prog 22 [.d (.sl 4 (a_0.map bB)), .d (.sl 4 (b_1.map bB))] (.d (.lit (.bool r))) := by
 unfold jA at h
 refine Fn.of_tr Try.func22 rfl (rs := [.tmp 4]) Try.results22 Try.ntmps22 (Nat.le_of_ble_eq_true rfl) ?_
 refine aG ?_
 refine aC ?_
 refine tr1 rfl (aI (v := .d (.lit (.bool false))) (aA rfl) rfl rfl) ?_
 refine aF ?_
 refine aG ?_
 refine aG ?_
 refine aC ?_
 refine tr1 rfl (aD (v := .d (.sl 4 (a_0.map bB))) (aA rfl) rfl rfl) ?_
 refine tr1 rfl (dL (aA rfl) rfl iC.of) ?_
 refine tr1 rfl (aD (v := .d (.sl 4 (b_1.map bB))) (aA rfl) rfl rfl) ?_
 refine tr1 rfl (dL (aA rfl) rfl iC.of) ?_
 refine tr1 rfl (bH (aA rfl) rfl rfl rfl) ?_
 refine aF ?_
 refine bQ rfl (fun c1 => ?_) (fun c1 => ?_)
 ·have h := aY c1 h
  refine aG ?_
  refine aC ?_
  refine tr1 rfl (aI (v := .d (.lit (.bool false))) (aA rfl) rfl rfl) ?_
  refine aF ?_
  have h := Option.some.inj h
  subst h
  exact bN ⟨rfl, _, .one _, rfl, rfl⟩
 ·have h := aX c1 h
  refine bO ?_
  refine aG ?_
  refine aG ?_
  refine aC ?_
  refine tr1 rfl (aI (v := .d (.lit (.int .i64 0))) (aA rfl) rfl rfl) ?_
  refine aF ?_
  refine cH ?_
  refine dR [0, 1] (fun (s2 : Int) => [(5, .d (.lit (.int .i64 s2)))]) (fun (s2 : Int) => []) (fun (k : Nat) (s2 : Int) => eV a_0 b_1 k s2) (fun _ => rfl) (0) h (bF [] rfl rfl (aS rfl (bD ⟨rfl, rfl, trivial⟩))) ?_
  rintro k3 i_0_2 h
  simp only [eV] at h
  refine aG ?_
  refine aG ?_
  refine aC ?_
  refine tr1 rfl (aD (v := .d (.lit (.int .i64 i_0_2))) (aA rfl) rfl rfl) ?_
  refine tr1 rfl (aD (v := .d (.sl 4 (a_0.map bB))) (aA rfl) rfl rfl) ?_
  refine tr1 rfl (dL (aA rfl) rfl iC.of) ?_
  refine tr1 rfl (bH (aA rfl) rfl rfl rfl) ?_
  refine aF ?_
  refine bQ rfl (fun c4 => ?_) (fun c4 => ?_)
  ·have h := aY c4 h
   refine bO ?_
   refine aG ?_
   refine cH ?_
   refine aG ?_
   obtain ⟨x5, h6, h⟩ := bind_some h
   obtain ⟨x7, h8, h⟩ := bind_some h
   refine dX mix 8 [0, 1, 5] [(20, .agg (bB x5)), (24, .agg (bB x7))] ?_ ?_
   ·refine ⟨[(17, 0, .d (.sl 4 (a_0.map bB))), (18, 1, .d (.lit (.int .i64 i_0_2))), (19, 2, .cp [.lit (.int .i64 x5.Round), .lit (.int .i64 x5.Place), .lit (.int .i64 x5.One), .lit (.int .i64 x5.Two)]), (20, 3, .agg (bB x5)), (21, 4, .d (.sl 4 (b_1.map bB))), (22, 5, .d (.lit (.int .i64 i_0_2))), (23, 6, .cp [.lit (.int .i64 x7.Round), .lit (.int .i64 x7.Place), .lit (.int .i64 x7.One), .lit (.int .i64 x7.Two)]), (24, 7, .agg (bB x7))], ?_, ?_⟩
    · exact ⟨by kernel_rfl, by kernel_rfl, by kernel_rfl, by kernel_rfl, by kernel_rfl, [([], []), ([], []), ([0, 1], []), ([2], []), ([], []), ([], []), ([4, 5], []), ([6], [])], by kernel_rfl, ⟨fun S hS => aK rfl (aT rfl (aD (v := .d (.sl 4 (a_0.map bB))) (aA rfl) (aJ hS rfl) rfl)),
      fun S hS => aK rfl (aT rfl (aD (v := .d (.lit (.int .i64 i_0_2))) (aA rfl) (aJ hS rfl) rfl)),
      fun S hS => aK rfl (aT rfl (bT (aA rfl) (aJ hS rfl) (aJ hS rfl) iC.of (cE bB h6))),
      fun S hS => aK rfl (aT rfl (gP (aA rfl) (aJ hS rfl) rQ (es := (bB x5)) rfl rfl)),
      fun S hS => aK rfl (aT rfl (aD (v := .d (.sl 4 (b_1.map bB))) (aA rfl) (aJ hS rfl) rfl)),
      fun S hS => aK rfl (aT rfl (aD (v := .d (.lit (.int .i64 i_0_2))) (aA rfl) (aJ hS rfl) rfl)),
      fun S hS => aK rfl (aT rfl (bT (aA rfl) (aJ hS rfl) (aJ hS rfl) iC.of (cE bB h8))),
      fun S hS => aK rfl (aT rfl (gP (aA rfl) (aJ hS rfl) rQ (es := (bB x7)) rfl rfl)), trivial⟩⟩
    · exact dI (aS rfl (aS rfl (bD ⟨rfl, rfl, rfl, trivial⟩)))
   ·refine tr1 rfl (aCw (a := x5) (b := x7) (aA rfl) rfl rfl rfl rfl Try.eqGuardType57 aDo) ?_
    refine aF ?_
    refine bQ rfl (fun c9 => ?_) (fun c9 => ?_)
    ·have h := aY c9 h
     refine aG ?_
     refine aC ?_
     refine tr1 rfl (aI (v := .d (.lit (.bool false))) (aA rfl) rfl rfl) ?_
     refine aF ?_
     have h := Option.some.inj h
     subst h
     exact bN ⟨rfl, _, .one _, rfl, rfl⟩
    ·have h := aX c9 h
     refine eG ?_
     refine aC ?_
     refine tr1 rfl (aD (v := .d (.lit (.int .i64 i_0_2))) (aA rfl) rfl rfl) ?_
     refine tr1 rfl (bM (aA rfl) rfl rfl rfl) ?_
     refine tr1 rfl (aI (v := .d (.lit (.int .i64 ((w64 (i_0_2 + 1)))))) (aA rfl) rfl rfl) ?_
     refine aF ?_
     exact ⟨(w64 (i_0_2 + 1)), h, bF [] rfl rfl (aS rfl (bD ⟨rfl, rfl, trivial⟩))⟩
  ·have h := aX c4 h
   refine dF ?_
   refine .inl ⟨rfl, ?_⟩
   simp only [lQ] at h
   refine aG ?_
   refine aC ?_
   refine tr1 rfl (aI (v := .d (.lit (.bool true))) (aA rfl) rfl rfl) ?_
   refine aF ?_
   have h := Option.some.inj h
   subst h
   exact bN ⟨rfl, _, .one _, rfl, rfl⟩

theorem aAf (a0 : aO) (a1 : List aE) {r : (List bA) × Int} (h : qC a0 a1 = some r) : Fn Try.prog 32 [.agg (aR a0), .d (.sl 5 (a1.map aL))] ((fun x : (List bA) × Int => .tup [.d (.sl 4 (x.1.map bB)), .d (.lit (.int .i64 x.2))]) r) := rE (enc := fun x : (List bA) × Int => .tup [.d (.sl 4 (x.1.map bB)), .d (.lit (.int .i64 x.2))]) (aAe a0 a1 (yN a0 a1 h (fun x => x = r) rfl))

theorem wX (t_0 : aO) (l_1 : List aE) {r : Bool} (h : jR t_0 l_1 = some r) : Fn Try.prog 12 [.agg (aR t_0), .d (.sl 5 (l_1.map aL))] (.d (.lit (.bool r))) := by
 unfold jR at h
 refine Fn.of_tr Try.func12 rfl (rs := [.tmp 4]) Try.results12 Try.ntmps12 (Nat.le_of_ble_eq_true rfl) ?_
 refine aG ?_
 refine aC ?_
 refine bU rfl (gD (v := .agg (aR t_0)) (aA rfl) rfl rfl rfl) ?_
 rintro _ ⟨b1, rfl⟩
 refine tr1 rfl (aI (v := .d (.lit (.bool false))) (aA rfl) rfl rfl) ?_
 refine aF ?_
 refine aG ?_
 refine aC ?_
 refine tr1 rfl (bL (aA rfl) rfl (i := 0) rfl dY (es := (aR t_0)) rfl rfl) ?_
 refine tr1 rfl (aD (v := .d (.sl 5 (l_1.map aL))) (aA rfl) rfl rfl) ?_
 obtain ⟨r2, h3, h⟩ := bind_some h
 refine tr1 rfl (cS (aA rfl) (.func _ _ Try.call27) rfl rfl (BVs.refl _ _) (zH _ _ h3) rfl) ?_
 refine tr1 rfl (fQ (aA rfl) rfl) ?_
 refine tr1 rfl (aD (v := .d (.lit (.bool (!r2)))) (aA rfl) rfl rfl) ?_
 obtain ⟨b4, h5, h⟩ := bind_some h
 refine cC 5 [] 14 b4 ?_ ?_
 ·refine bI (!r2) (fun c6 => ?_) (fun c6 => ?_)
  ·have h5 := aY c6 h5
   refine aM rfl rfl (aA rfl) rfl c6 (bL (aA rfl) rfl (i := 0) rfl dY (es := (aR t_0)) rfl rfl) ?_
   refine aM rfl rfl (aA rfl) rfl c6 (aD (v := .d (.sl 5 (l_1.map aL))) (aA rfl) rfl rfl) ?_
   obtain ⟨r7, h8, h5⟩ := bind_some h5
   refine aM rfl rfl (aA rfl) rfl c6 (cS (aA rfl) (.func _ _ Try.call29) rfl rfl (BVs.refl _ _) (wY _ _ h8) rfl) ?_
   refine aM rfl rfl (aA rfl) rfl c6 (bH (aA rfl) rfl rfl rfl) ?_
   refine tr1 rfl (bS (v := .d (.lit (.bool ((decide (r7 = 0)))))) (aA rfl) rfl c6 rfl rfl) ?_
   have h5 := Option.some.inj h5
   subst h5
   refine aF (bC rfl trivial rfl)
  ·have h5 := aX c6 h5
   refine aN rfl rfl (aA rfl) rfl (aA rfl) rfl c6 ?_
   refine aN rfl rfl (aA rfl) rfl (aA rfl) rfl c6 ?_
   refine aN rfl rfl (aA rfl) rfl (aA rfl) rfl c6 ?_
   refine aN rfl rfl (aA rfl) rfl (aA rfl) rfl c6 ?_
   refine tr1 rfl (bR (v := .d (.lit (.bool false))) (aA rfl) rfl c6 rfl rfl) ?_
   have h5 := Option.some.inj h5
   subst h5
   refine aF (bC rfl trivial rfl)
 ·refine tr1 rfl (aI (v := .d (.lit (.bool b4))) (aA rfl) rfl rfl) ?_
  refine aF ?_
  have h := Option.some.inj h
  subst h
  refine cP (cR (cU (l := [4]) ⟨rfl, trivial⟩)) ?_
  exact bN ⟨rfl, _, .one _, rfl, rfl⟩

theorem zC (t_0 : aO) (l_1 : List aE) (round_2 : Int) (place_3 : Int) {Q : (Int × Int) → Prop} (h : mH t_0 l_1 round_2 place_3 Q) : eS Try.prog 20 [.agg (aR t_0), .d (.sl 5 (l_1.map aL)), .d (.lit (.int .i64 round_2)), .d (.lit (.int .i64 place_3))] [] (fun r' o' => ∃ (r : Int × Int), Q r ∧ r' = .tup [.d (.lit (.int .i64 r.1)), .d (.lit (.int .i64 r.2))] ∧ o' = []) := by
 unfold mH at h
 refine fV Try.func20 rfl (rs := [.tmp 8, .tmp 9]) Try.results20 Try.ntmps20 (Nat.le_of_ble_eq_true rfl) ?_
 refine aG ?_
 refine aC ?_
 refine bU rfl (gD (v := .agg (aR t_0)) (aA rfl) rfl rfl rfl) ?_
 rintro _ ⟨b1, rfl⟩
 refine tr1 rfl (aI (v := .d (.lit (.int .i64 0))) (aA rfl) rfl rfl) ?_
 refine tr1 rfl (aI (v := .d (.lit (.int .i64 0))) (aA rfl) rfl rfl) ?_
 refine aF ?_
 refine aG ?_
 refine aC ?_
 refine tr1 rfl (bL (aA rfl) rfl (i := 0) rfl dY (es := (aR t_0)) rfl rfl) ?_
 refine tr1 rfl (aD (v := .d (.sl 5 (l_1.map aL))) (aA rfl) rfl rfl) ?_
 refine tr1 rfl (aD (v := .d (.lit (.int .i64 round_2))) (aA rfl) rfl rfl) ?_
 refine tr1 rfl (aD (v := .d (.lit (.int .i64 place_3))) (aA rfl) rfl rfl) ?_
 refine bU rfl (mS (aA rfl) (.func _ _ Try.call44) rfl rfl (wU _ _ _ _ h)) ?_
 rintro _ ⟨_, _, ⟨r2, h, rfl, rfl⟩, rfl⟩
 refine tr1 rfl (aD (v := .tup [cN aU r2.1, .agg (aH r2.2.1), .d (.lit (.int .i64 r2.2.2))]) (aA rfl) rfl rfl) ?_
 refine tr1 rfl (bJ (aA rfl) rfl rfl) ?_
 refine tr1 rfl (bJ (aA rfl) rfl rfl) ?_
 refine tr1 rfl (bJ (aA rfl) rfl rfl) ?_
 refine bU rfl (dQ (zs := [.lit (.int .i64 0), .lit (.int .i64 0)]) (aA rfl) Try.zeroValue70 rfl rfl) ?_
 rintro _ ⟨b3, rfl⟩
 refine tr1 rfl (aI (v := cN aU r2.1) (aA rfl) rfl rfl) ?_
 refine tr1 rfl (cG (i := 1) rfl rfl rfl rfl rfl Try.sizeOf70 rfl (aA rfl) (Nat.le_of_ble_eq_true rfl) (ds' := (aH r2.2.1)) rfl) ?_
 refine tr1 rfl (aI (v := .d (.lit (.int .i64 r2.2.2))) (aA rfl) rfl rfl) ?_
 refine aF ?_
 refine aG ?_
 refine aG ?_
 refine aC ?_
 refine tr1 rfl (aD (v := .d (.lit (.int .i64 r2.2.2))) (aA rfl) rfl rfl) ?_
 refine tr1 rfl (bH (aA rfl) rfl rfl rfl) ?_
 refine aF ?_
 refine bQ rfl (fun c4 => ?_) (fun c4 => ?_)
 ·have h := eC c4 h
  refine aG ?_
  refine aC ?_
  refine tr1 rfl (aD (v := .d (.lit (.int .i64 r2.2.2))) (aA rfl) rfl rfl) ?_
  refine tr1 rfl (aI (v := .d (.lit (.int .i64 0))) (aA rfl) rfl rfl) ?_
  refine tr1 rfl (aI (v := .d (.lit (.int .i64 r2.2.2))) (aA rfl) rfl rfl) ?_
  refine aF ?_
  exact bN ⟨rfl, _, [], [.box b1 0 (aR t_0), .box b3 0 (aH r2.2.1)], _, .two (.tmp 8 (v := .d (.lit (.int .i64 0))) rfl) (.tmp 9 (v := .d (.lit (.int .i64 r2.2.2))) rfl), .refl _, .same _, (0, r2.2.2), h, rfl, rfl⟩
 ·have h := eB c4 h
  refine bO ?_
  refine aG ?_
  obtain ⟨x5, h6, h⟩ := dA h
  refine dX mix 10 [] [(13, .d (.lit (.int .i64 ((cF r2.2.1 0 x5.won))))), (35, .d (.lit (.bool ((cL r2.2.1 x5.won)))))] ?_ ?_
  ·refine ⟨[(28, 0, cN aU r2.1), (29, 1, .cp [.lit (.int .i64 x5.Tree.Rounds), .sl 1 (x5.Tree.Slots.map aP), .sl 1 (x5.players.map aP), .mp false (x5.won.map fun p : aB × Int => ((fun a : aB => Value.agg ((aH a).map bG).toArray) p.1, aP p.2))]), (30, 2, .cp [.mp false (x5.won.map fun p : aB × Int => ((fun a : aB => Value.agg ((aH a).map bG).toArray) p.1, aP p.2))]), (31, 3, .d (.mp false (x5.won.map fun p : aB × Int => ((fun a : aB => Value.agg ((aH a).map bG).toArray) p.1, aP p.2)))), (32, 4, .agg (aH r2.2.1)), (33, 5, .tup [.d (.lit (.int .i64 ((cF r2.2.1 0 x5.won)))), .d (.lit (.bool ((cL r2.2.1 x5.won))))]), (27, 6, .tup [.d (.lit (.int .i64 ((cF r2.2.1 0 x5.won)))), .d (.lit (.bool ((cL r2.2.1 x5.won))))]), (34, 7, .d (.lit (.int .i64 ((cF r2.2.1 0 x5.won))))), (35, 8, .d (.lit (.bool ((cL r2.2.1 x5.won))))), (13, 9, .d (.lit (.int .i64 ((cF r2.2.1 0 x5.won)))))], ?_, ?_⟩
   · exact ⟨by kernel_rfl, by kernel_rfl, by kernel_rfl, by kernel_rfl, by kernel_rfl, [([], []), ([0], []), ([1], []), ([2], []), ([], []), ([3, 4], []), ([5], []), ([6], []), ([6], []), ([7], [])], by kernel_rfl, ⟨fun S hS => aK rfl (aT rfl (aD (v := cN aU r2.1) (aA rfl) (aJ hS rfl) rfl)),
      fun S hS => aK rfl (aT rfl (pF (enc := aU) (aA rfl) (aJ hS rfl) h6)),
      fun S hS => aK rfl (aT rfl (cO (aA rfl) (aJ hS rfl) oN (es := [.mp false (x5.won.map fun p : aB × Int => ((fun a : aB => Value.agg ((aH a).map bG).toArray) p.1, aP p.2))]) rfl)),
      fun S hS => aK rfl (aT rfl (bV (aA rfl) (aJ hS rfl) sC)),
      fun S hS => aK rfl (aT rfl (bL (aA rfl) (aJ hS rfl) (i := 1) rfl iL (es := (aH r2.2.1)) rfl rfl)),
      fun S hS => aK rfl (aT rfl (nO (enc := aP) (agg := false) (l := x5.won) (z := 0) (a := r2.2.1) (aA rfl) qH Try.underlying73 Try.zeroValue3 (fun _ _ => .d (.lit _ rfl)) (aJ hS rfl) rfl rfl (aJ hS rfl) (jI (enc := aH) r2.2.1 rfl))),
      fun S hS => aK rfl (aT rfl (aD (v := .tup [.d (.lit (.int .i64 ((cF r2.2.1 0 x5.won)))), .d (.lit (.bool ((cL r2.2.1 x5.won))))]) (aA rfl) (aJ hS rfl) rfl)),
      fun S hS => aK rfl (aT rfl (bJ (aA rfl) (aJ hS rfl) rfl)),
      fun S hS => aK rfl (aT rfl (bJ (aA rfl) (aJ hS rfl) rfl)),
      fun S hS => aK rfl (aT rfl (aI (v := .d (.lit (.int .i64 ((cF r2.2.1 0 x5.won))))) (aA rfl) (aJ hS rfl) rfl)), trivial⟩⟩
   · exact dI (aS rfl (aS rfl (bD trivial)))
  ·refine tr1 rfl (aI (v := .d (.lit (.bool ((cL r2.2.1 x5.won))))) (aA rfl) rfl rfl) ?_
   refine aF ?_
   refine aG ?_
   refine aG ?_
   refine aC ?_
   refine tr1 rfl (aD (v := .d (.lit (.bool ((cL r2.2.1 x5.won))))) (aA rfl) rfl rfl) ?_
   refine tr1 rfl (fQ (aA rfl) rfl) ?_
   refine aF ?_
   refine bQ rfl (fun c7 => ?_) (fun c7 => ?_)
   ·have h := eC c7 h
    refine aG ?_
    refine aC ?_
    refine tr1 rfl (aI (v := .d (.lit (.int .i64 0))) (aA rfl) rfl rfl) ?_
    refine tr1 rfl (aI (v := .d (.lit (.int .i64 3))) (aA rfl) rfl rfl) ?_
    refine aF ?_
    exact bN ⟨rfl, _, [], [.box b1 0 (aR t_0), .box b3 0 (aH r2.2.1)], _, .two (.tmp 8 (v := .d (.lit (.int .i64 0))) rfl) (.tmp 9 (v := .d (.lit (.int .i64 3))) rfl), .refl _, .same _, (0, 3), h, rfl, rfl⟩
   ·have h := eB c7 h
    refine bO ?_
    refine aG ?_
    refine aC ?_
    refine tr1 rfl (aD (v := .d (.lit (.int .i64 ((cF r2.2.1 0 x5.won))))) (aA rfl) rfl rfl) ?_
    refine tr1 rfl (aI (v := .d (.lit (.int .i64 ((cF r2.2.1 0 x5.won))))) (aA rfl) rfl rfl) ?_
    refine tr1 rfl (aI (v := .d (.lit (.int .i64 0))) (aA rfl) rfl rfl) ?_
    refine aF ?_
    exact bN ⟨rfl, _, [], [.box b1 0 (aR t_0), .box b3 0 (aH r2.2.1)], _, .two (.tmp 8 (v := .d (.lit (.int .i64 ((cF r2.2.1 0 x5.won))))) rfl) (.tmp 9 (v := .d (.lit (.int .i64 0))) rfl), .refl _, .same _, (cF r2.2.1 0 x5.won, 0), h, rfl, rfl⟩

theorem zD (a0 : aO) (a1 : List aE) (a2 : Int) (a3 : Int) {r : Int × Int} (h : nA a0 a1 a2 a3 = some r) : Fn Try.prog 20 [.agg (aR a0), .d (.sl 5 (a1.map aL)), .d (.lit (.int .i64 a2)), .d (.lit (.int .i64 a3))] ((fun x : Int × Int => .tup [.d (.lit (.int .i64 x.1)), .d (.lit (.int .i64 x.2))]) r) := rE (enc := fun x : Int × Int => .tup [.d (.lit (.int .i64 x.1)), .d (.lit (.int .i64 x.2))]) (zC a0 a1 a2 a3 (wT a0 a1 a2 a3 h (fun x => x = r) rfl))

theorem zI (t_0 : aO) (l_1 : List aE) {r : (List bA) × (List Int) × Bool} (h : mL t_0 l_1 = some r) : Fn Try.prog 21 [.agg (aR t_0), .d (.sl 5 (l_1.map aL))] (.tup [.d (.sl 4 (r.1.map bB)), .d (.sl 1 (r.2.1.map aP)), .d (.lit (.bool r.2.2))]) := by
 unfold mL at h
 refine Fn.of_tr Try.func21 rfl (rs := [.tmp 4, .tmp 5, .tmp 6]) Try.results21 Try.ntmps21 (Nat.le_of_ble_eq_true rfl) ?_
 refine aG ?_
 refine aC ?_
 refine bU rfl (gD (v := .agg (aR t_0)) (aA rfl) rfl rfl rfl) ?_
 rintro _ ⟨b1, rfl⟩
 refine tr1 rfl (oW 4 (aA rfl)) ?_
 refine tr1 rfl (iB 3 1 (.inl rfl) (aA rfl)) ?_
 refine tr1 rfl (aI (v := .d (.lit (.bool false))) (aA rfl) rfl rfl) ?_
 refine aF ?_
 refine aG ?_
 refine aC ?_
 refine tr1 rfl (bL (aA rfl) rfl (i := 0) rfl dY (es := (aR t_0)) rfl rfl) ?_
 refine tr1 rfl (aD (v := .d (.sl 5 (l_1.map aL))) (aA rfl) rfl rfl) ?_
 obtain ⟨r3, h4, h⟩ := bind_some h
 refine tr1 rfl (iF (aA rfl) (.func _ _ Try.call30) rfl rfl (tY _ _ h4)) ?_
 refine tr1 rfl (aD (v := .tup [.d (.sl 4 (r3.1.map bB)), .d (.lit (.int .i64 r3.2))]) (aA rfl) rfl rfl) ?_
 refine tr1 rfl (bJ (aA rfl) rfl rfl) ?_
 refine tr1 rfl (bJ (aA rfl) rfl rfl) ?_
 refine tr1 rfl (aI (v := .d (.sl 4 (r3.1.map bB))) (aA rfl) rfl rfl) ?_
 refine tr1 rfl (aI (v := .d (.lit (.int .i64 r3.2))) (aA rfl) rfl rfl) ?_
 refine aF ?_
 refine aG ?_
 refine aG ?_
 refine aC ?_
 refine tr1 rfl (aD (v := .d (.lit (.int .i64 r3.2))) (aA rfl) rfl rfl) ?_
 refine tr1 rfl (bH (aA rfl) rfl rfl rfl) ?_
 refine tr1 rfl (aD (v := .d (.lit (.bool ((!decide (r3.2 = 0)))))) (aA rfl) rfl rfl) ?_
 obtain ⟨b5, h6, h⟩ := bind_some h
 refine cC 8 [1, 2, 4, 5] 27 b5 ?_ ?_
 ·refine bI (!decide (r3.2 = 0)) (fun c28 => ?_) (fun c28 => ?_)
  ·have h6 := aY c28 h6
   refine aN rfl rfl (aA rfl) rfl (aA rfl) rfl c28 ?_
   refine aN rfl rfl (aA rfl) rfl (aA rfl) rfl c28 ?_
   refine aN rfl rfl (aA rfl) rfl (aA rfl) rfl c28 ?_
   refine aN rfl rfl (aA rfl) rfl (aA rfl) rfl c28 ?_
   refine aN rfl rfl (aA rfl) rfl (aA rfl) rfl c28 ?_
   refine aN rfl rfl (aA rfl) rfl (aA rfl) rfl c28 ?_
   refine aN rfl rfl (aA rfl) rfl (aA rfl) rfl c28 ?_
   refine tr1 rfl (bS (v := .d (.lit (.bool true))) (aA rfl) rfl c28 rfl rfl) ?_
   have h6 := Option.some.inj h6
   subst h6
   refine aF (bC rfl ⟨rfl, rfl, rfl, rfl, trivial⟩ rfl)
  ·have h6 := aX c28 h6
   refine aM rfl rfl (aA rfl) rfl c28 (aD (v := .d (.sl 4 (r3.1.map bB))) (aA rfl) rfl rfl) ?_
   refine aM rfl rfl (aA rfl) rfl c28 (dL (aA rfl) rfl iC.of) ?_
   refine aM rfl rfl (aA rfl) rfl c28 (aV (aA rfl) rfl dV) ?_
   refine aM rfl rfl (aA rfl) rfl c28 (aZ (aA rfl) rfl (i := 0) rfl rfl dH) ?_
   refine aM rfl rfl (aA rfl) rfl c28 (dL (aA rfl) rfl cB.of) ?_
   refine aM rfl rfl (aA rfl) rfl c28 (bM (aA rfl) rfl rfl rfl) ?_
   refine aM rfl rfl (aA rfl) rfl c28 (bH (aA rfl) rfl rfl rfl) ?_
   refine tr1 rfl (bR (v := .d (.lit (.bool ((!decide ((r3.1.length : Int) = (w64 ((t_0.Slots.length : Int) - 1)))))))) (aA rfl) rfl c28 rfl rfl) ?_
   have h6 := Option.some.inj h6
   subst h6
   refine aF (bC rfl ⟨rfl, rfl, rfl, rfl, trivial⟩ rfl)
 ·refine aF ?_
  refine bQ rfl (fun c7 => ?_) (fun c7 => ?_)
  ·have h := aY c7 h
   refine aG ?_
   refine aC ?_
   refine tr1 rfl (oW 4 (aA rfl)) ?_
   refine tr1 rfl (iB 3 1 (.inl rfl) (aA rfl)) ?_
   refine tr1 rfl (aI (v := .d (.lit (.bool false))) (aA rfl) rfl rfl) ?_
   refine aF ?_
   have h := Option.some.inj h
   subst h
   refine cP (cR (lR (k := 6) (v := .d (.lit (.bool false))) (.same _) (lR (k := 5) (v := .d (.sl 1 ((([] : List Int)).map aP))) (.d (kR 2 rfl (cV (f := aP) fun _ => rfl))) (lR (k := 4) (v := .d (.sl 4 ((([] : List bA)).map bB))) (.same _) (uR))))) ?_
   exact bN ⟨rfl, _, .three _ _ _, rfl, rfl⟩
  ·have h := aX c7 h
   refine bO ?_
   refine aG ?_
   refine aG ?_
   refine aC ?_
   refine tr1 rfl (aI (v := .d (.lit (.int .i64 0))) (aA rfl) rfl rfl) ?_
   refine aF ?_
   refine cH ?_
   refine dR [1, 2] (fun (s9 : (List bA) × Int × (List Int) × Value) => [(4, .d (.sl 4 (s9.1.map bB))), (5, .d (.lit s9.2.2.2)), (8, .d (.lit (.int .i64 s9.2.1)))]) (fun (s9 : (List bA) × Int × (List Int) × Value) => [.box b1 0 (aR t_0), .arr s9.2.2.2 3 1 (s9.2.2.1.map aP)]) (fun (k : Nat) (s9 : (List bA) × Int × (List Int) × Value) => fL l_1 t_0 k s9.1 s9.2.1 s9.2.2.1) (fun _ => rfl) (r3.1, 0, ([] : List Int), (.slice none 0 0)) h (bF [0, 1] rfl rfl (aS rfl (aS rfl (aS rfl (bD ⟨rfl, rfl, trivial⟩))))) ?_
   rintro k11 ⟨bouts_0_9, i_0_9, winners_0_9, w10⟩ h
   simp only [fL] at h
   refine aG ?_
   refine aG ?_
   refine aC ?_
   refine tr1 rfl (aD (v := .d (.lit (.int .i64 i_0_9))) (aA rfl) rfl rfl) ?_
   refine tr1 rfl (aD (v := .d (.sl 4 (bouts_0_9.map bB))) (aA rfl) rfl rfl) ?_
   refine tr1 rfl (dL (aA rfl) rfl iC.of) ?_
   refine tr1 rfl (bH (aA rfl) rfl rfl rfl) ?_
   refine aF ?_
   refine bQ rfl (fun c12 => ?_) (fun c12 => ?_)
   ·have h := aY c12 h
    refine bO ?_
    refine aG ?_
    refine cH ?_
    refine aG ?_
    obtain ⟨x13, h14, h⟩ := bind_some h
    obtain ⟨x15, h16, h⟩ := bind_some h
    obtain ⟨r17, h18, h⟩ := bind_some h
    refine dX mix 17 [1, 2, 4, 5, 8] [(9, .d (.lit (.int .i64 r17.1))), (49, .d (.lit (.int .i64 r17.2)))] ?_ ?_
    ·refine ⟨[(35, 0, .agg (aR t_0)), (36, 1, .d (.sl 5 (l_1.map aL))), (37, 2, .d (.sl 4 (bouts_0_9.map bB))), (38, 3, .d (.lit (.int .i64 i_0_9))), (39, 4, .cp [.lit (.int .i64 x13.Round), .lit (.int .i64 x13.Place), .lit (.int .i64 x13.One), .lit (.int .i64 x13.Two)]), (40, 5, .cp [.lit (.int .i64 x13.Round)]), (41, 6, .d (.lit (.int .i64 x13.Round))), (42, 7, .d (.sl 4 (bouts_0_9.map bB))), (43, 8, .d (.lit (.int .i64 i_0_9))), (44, 9, .cp [.lit (.int .i64 x15.Round), .lit (.int .i64 x15.Place), .lit (.int .i64 x15.One), .lit (.int .i64 x15.Two)]), (45, 10, .cp [.lit (.int .i64 x15.Place)]), (46, 11, .d (.lit (.int .i64 x15.Place))), (47, 12, .tup [.d (.lit (.int .i64 r17.1)), .d (.lit (.int .i64 r17.2))]), (34, 13, .tup [.d (.lit (.int .i64 r17.1)), .d (.lit (.int .i64 r17.2))]), (48, 14, .d (.lit (.int .i64 r17.1))), (49, 15, .d (.lit (.int .i64 r17.2))), (9, 16, .d (.lit (.int .i64 r17.1)))], ?_, ?_⟩
     · exact ⟨by kernel_rfl, by kernel_rfl, by kernel_rfl, by kernel_rfl, by kernel_rfl, [([], []), ([], []), ([], []), ([], []), ([2, 3], []), ([4], []), ([5], []), ([], []), ([], []), ([7, 8], []), ([9], []), ([10], []), ([0, 1, 6, 11], []), ([12], []), ([13], []), ([13], []), ([14], [])], by kernel_rfl, ⟨fun S hS => aK rfl (aT rfl (bL (aA rfl) (aJ hS rfl) (i := 0) rfl dY (es := (aR t_0)) rfl rfl)),
      fun S hS => aK rfl (aT rfl (aD (v := .d (.sl 5 (l_1.map aL))) (aA rfl) (aJ hS rfl) rfl)),
      fun S hS => aK rfl (aT rfl (aD (v := .d (.sl 4 (bouts_0_9.map bB))) (aA rfl) (aJ hS rfl) rfl)),
      fun S hS => aK rfl (aT rfl (aD (v := .d (.lit (.int .i64 i_0_9))) (aA rfl) (aJ hS rfl) rfl)),
      fun S hS => aK rfl (aT rfl (bT (aA rfl) (aJ hS rfl) (aJ hS rfl) iC.of (cE bB h14))),
      fun S hS => aK rfl (aT rfl (cO (aA rfl) (aJ hS rfl) aDs (es := [.lit (.int .i64 x13.Round)]) rfl)),
      fun S hS => aK rfl (aT rfl (bV (aA rfl) (aJ hS rfl) bK)),
      fun S hS => aK rfl (aT rfl (aD (v := .d (.sl 4 (bouts_0_9.map bB))) (aA rfl) (aJ hS rfl) rfl)),
      fun S hS => aK rfl (aT rfl (aD (v := .d (.lit (.int .i64 i_0_9))) (aA rfl) (aJ hS rfl) rfl)),
      fun S hS => aK rfl (aT rfl (bT (aA rfl) (aJ hS rfl) (aJ hS rfl) iC.of (cE bB h16))),
      fun S hS => aK rfl (aT rfl (cO (aA rfl) (aJ hS rfl) aDt (es := [.lit (.int .i64 x15.Place)]) rfl)),
      fun S hS => aK rfl (aT rfl (bV (aA rfl) (aJ hS rfl) bK)),
      fun S hS => aK rfl (aT rfl (cS (aA rfl) (.func _ _ Try.call20) (ev2 (aJ hS rfl) (ev2 (aJ hS rfl) (ev2 (aJ hS rfl) (ev2 (aJ hS rfl) evn)))) rfl (BVs.refl _ _) (zD _ _ _ _ h18) rfl)),
      fun S hS => aK rfl (aT rfl (aD (v := .tup [.d (.lit (.int .i64 r17.1)), .d (.lit (.int .i64 r17.2))]) (aA rfl) (aJ hS rfl) rfl)),
      fun S hS => aK rfl (aT rfl (bJ (aA rfl) (aJ hS rfl) rfl)),
      fun S hS => aK rfl (aT rfl (bJ (aA rfl) (aJ hS rfl) rfl)),
      fun S hS => aK rfl (aT rfl (aI (v := .d (.lit (.int .i64 r17.1))) (aA rfl) (aJ hS rfl) rfl)), trivial⟩⟩
     · exact dI (aS rfl (aS rfl (bD ⟨rfl, rfl, rfl, rfl, rfl, trivial⟩)))
    ·refine tr1 rfl (aI (v := .d (.lit (.int .i64 r17.2))) (aA rfl) rfl rfl) ?_
     refine aF ?_
     refine aG ?_
     refine aG ?_
     refine aC ?_
     refine tr1 rfl (aD (v := .d (.lit (.int .i64 r17.2))) (aA rfl) rfl rfl) ?_
     refine tr1 rfl (bH (aA rfl) rfl rfl rfl) ?_
     refine aF ?_
     refine bQ rfl (fun c19 => ?_) (fun c19 => ?_)
     ·have h := aY c19 h
      refine aC ?_
      refine tr1 rfl (aI (v := .d (.lit (.int .i64 (-2)))) (aA rfl) rfl rfl) ?_
      refine aF ?_
      refine aC ?_
      refine tr1 rfl (aD (v := .d (.lit w10)) (aA rfl) rfl rfl) ?_
      refine tr1 rfl (aD (v := .d (.lit (.int .i64 (-2)))) (aA rfl) rfl rfl) ?_
      refine tr1 rfl (eW (aA rfl) cB rfl rfl (rows := ([(-2)]).map aP) rfl (cV (f := aP) fun _ => rfl) rfl (by decide)) ?_
      obtain ⟨x20, h21, h⟩ := bind_some h
      refine bU rfl (eI (i := 1) (aA rfl) cB rfl rfl rfl (fun _ => rfl) h21 rfl) ?_
      rintro _ ⟨v22, rfl⟩
      refine tr1 rfl (aI (v := .d (.lit v22)) (aA rfl) rfl rfl) ?_
      refine fF ?_
      refine aC ?_
      refine tr1 rfl (aD (v := .d (.lit (.int .i64 i_0_9))) (aA rfl) rfl rfl) ?_
      refine tr1 rfl (bM (aA rfl) rfl rfl rfl) ?_
      refine tr1 rfl (aI (v := .d (.lit (.int .i64 ((w64 (i_0_9 + 1)))))) (aA rfl) rfl rfl) ?_
      refine aF ?_
      exact ⟨(bouts_0_9, w64 (i_0_9 + 1), x20, v22), h, bF [0, 1] rfl rfl (aS rfl (aS rfl (aS rfl (bD ⟨rfl, rfl, trivial⟩))))⟩
     ·have h := aX c19 h
      refine aG ?_
      refine aC ?_
      refine tr1 rfl (aD (v := .d (.lit (.int .i64 r17.2))) (aA rfl) rfl rfl) ?_
      refine tr1 rfl (bH (aA rfl) rfl rfl rfl) ?_
      refine aF ?_
      refine bQ rfl (fun c23 => ?_) (fun c23 => ?_)
      ·have h := aY c23 h
       refine aG ?_
       refine aC ?_
       refine tr1 rfl (oW 4 (aA rfl)) ?_
       refine tr1 rfl (iB 3 1 (.inl rfl) (aA rfl)) ?_
       refine tr1 rfl (aI (v := .d (.lit (.bool false))) (aA rfl) rfl rfl) ?_
       refine aF ?_
       have h := Option.some.inj h
       subst h
       refine cP (cR (lR (k := 6) (v := .d (.lit (.bool false))) (.same _) (lR (k := 5) (v := .d (.sl 1 ((([] : List Int)).map aP))) (.d (kR 2 rfl (cV (f := aP) fun _ => rfl))) (lR (k := 4) (v := .d (.sl 4 ((([] : List bA)).map bB))) (.same _) (uR))))) ?_
       exact bN ⟨rfl, _, .three _ _ _, rfl, rfl⟩
      ·have h := aX c23 h
       refine bO ?_
       refine aC ?_
       refine tr1 rfl (aD (v := .d (.lit w10)) (aA rfl) rfl rfl) ?_
       refine tr1 rfl (aD (v := .d (.lit (.int .i64 r17.1))) (aA rfl) rfl rfl) ?_
       refine tr1 rfl (eW (aA rfl) cB rfl rfl (rows := ([r17.1]).map aP) rfl (cV (f := aP) fun _ => rfl) rfl (by decide)) ?_
       obtain ⟨x25, h26, h⟩ := bind_some h
       refine bU rfl (eI (i := 1) (aA rfl) cB rfl rfl rfl (fun _ => rfl) h26 rfl) ?_
       rintro _ ⟨v27, rfl⟩
       refine tr1 rfl (aI (v := .d (.lit v27)) (aA rfl) rfl rfl) ?_
       refine fF ?_
       refine aC ?_
       refine tr1 rfl (aD (v := .d (.lit (.int .i64 i_0_9))) (aA rfl) rfl rfl) ?_
       refine tr1 rfl (bM (aA rfl) rfl rfl rfl) ?_
       refine tr1 rfl (aI (v := .d (.lit (.int .i64 ((w64 (i_0_9 + 1)))))) (aA rfl) rfl rfl) ?_
       refine aF ?_
       exact ⟨(bouts_0_9, w64 (i_0_9 + 1), x25, v27), h, bF [0, 1] rfl rfl (aS rfl (aS rfl (aS rfl (bD ⟨rfl, rfl, trivial⟩))))⟩
   ·have h := aX c12 h
    refine dF ?_
    refine .inl ⟨rfl, ?_⟩
    simp only [oZ] at h
    refine aG ?_
    refine aC ?_
    refine tr1 rfl (aD (v := .d (.sl 4 (bouts_0_9.map bB))) (aA rfl) rfl rfl) ?_
    refine tr1 rfl (aD (v := .d (.lit w10)) (aA rfl) rfl rfl) ?_
    refine tr1 rfl (aI (v := .d (.sl 4 (bouts_0_9.map bB))) (aA rfl) rfl rfl) ?_
    refine tr1 rfl (aI (v := .d (.lit w10)) (aA rfl) rfl rfl) ?_
    refine tr1 rfl (aI (v := .d (.lit (.bool true))) (aA rfl) rfl rfl) ?_
    refine aF ?_
    have h := Option.some.inj h
    subst h
    refine cP (cR (lR (k := 6) (v := .d (.lit (.bool true))) (.same _) (lR (k := 5) (v := .d (.sl 1 (winners_0_9.map aP))) (.d (kR 1 rfl (cV (f := aP) fun _ => rfl))) (lR (k := 4) (v := .d (.sl 4 (bouts_0_9.map bB))) (.same _) (uR))))) ?_
    exact bN ⟨rfl, _, .three _ _ _, rfl, rfl⟩

theorem tH (t_0 : aO) (l_1 : List aE) (which_2 : Int) {r : Bool} (h : jY t_0 l_1 which_2 = some r) : Fn Try.prog 9 [.agg (aR t_0), .d (.sl 5 (l_1.map aL)), .d (.lit (.int .i64 which_2))] (.d (.lit (.bool r))) := by
 unfold jY at h
 refine Fn.of_tr Try.func9 rfl (rs := [.tmp 6]) Try.results9 Try.ntmps9 (Nat.le_of_ble_eq_true rfl) ?_
 refine aG ?_
 refine aC ?_
 refine bU rfl (gD (v := .agg (aR t_0)) (aA rfl) rfl rfl rfl) ?_
 rintro _ ⟨b1, rfl⟩
 refine tr1 rfl (aI (v := .d (.lit (.bool false))) (aA rfl) rfl rfl) ?_
 refine aF ?_
 refine aG ?_
 refine aG ?_
 refine aC ?_
 refine tr1 rfl (bL (aA rfl) rfl (i := 0) rfl dY (es := (aR t_0)) rfl rfl) ?_
 refine tr1 rfl (aD (v := .d (.sl 5 (l_1.map aL))) (aA rfl) rfl rfl) ?_
 obtain ⟨r2, h3, h⟩ := bind_some h
 refine tr1 rfl (cS (aA rfl) (.func _ _ Try.call12) rfl rfl (BVs.refl _ _) (wX _ _ h3) rfl) ?_
 refine tr1 rfl (fQ (aA rfl) rfl) ?_
 refine tr1 rfl (aD (v := .d (.lit (.bool (!r2)))) (aA rfl) rfl rfl) ?_
 obtain ⟨b4, h5, h⟩ := bind_some h
 refine cC 4 [1, 2, 3] 29 b4 ?_ ?_
 ·refine bI (!r2) (fun c85 => ?_) (fun c85 => ?_)
  ·have h5 := aY c85 h5
   refine aN rfl rfl (aA rfl) rfl (aA rfl) rfl c85 ?_
   refine aN rfl rfl (aA rfl) rfl (aA rfl) rfl c85 ?_
   refine aN rfl rfl (aA rfl) rfl (aA rfl) rfl c85 ?_
   refine tr1 rfl (bS (v := .d (.lit (.bool true))) (aA rfl) rfl c85 rfl rfl) ?_
   have h5 := Option.some.inj h5
   subst h5
   refine aF (bC rfl ⟨rfl, rfl, rfl, trivial⟩ rfl)
  ·have h5 := aX c85 h5
   refine aM rfl rfl (aA rfl) rfl c85 (aD (v := .d (.sl 5 (l_1.map aL))) (aA rfl) rfl rfl) ?_
   refine aM rfl rfl (aA rfl) rfl c85 (dL (aA rfl) rfl fM.of) ?_
   refine aM rfl rfl (aA rfl) rfl c85 (bH (aA rfl) rfl rfl rfl) ?_
   refine tr1 rfl (bR (v := .d (.lit (.bool ((decide (59 < (l_1.length : Int))))))) (aA rfl) rfl c85 rfl rfl) ?_
   have h5 := Option.some.inj h5
   subst h5
   refine aF (bC rfl ⟨rfl, rfl, rfl, trivial⟩ rfl)
 ·refine aF ?_
  refine bQ rfl (fun c6 => ?_) (fun c6 => ?_)
  ·have h := aY c6 h
   refine aG ?_
   refine aC ?_
   obtain ⟨r7, h8, h⟩ := bind_some h
   refine tr1 rfl (cS (aA rfl) (.func _ _ Try.call14) rfl rfl (BVs.refl _ _) (oF h8) rfl) ?_
   refine tr1 rfl (aI (v := .d (.lit (.bool r7))) (aA rfl) rfl rfl) ?_
   refine aF ?_
   have h := Option.some.inj h
   subst h
   refine cP (cR (cU (l := [6]) ⟨rfl, trivial⟩)) ?_
   exact bN ⟨rfl, _, .one _, rfl, rfl⟩
  ·have h := aX c6 h
   refine bO ?_
   refine aG ?_
   refine aC ?_
   refine tr1 rfl (bL (aA rfl) rfl (i := 0) rfl dY (es := (aR t_0)) rfl rfl) ?_
   refine tr1 rfl (aD (v := .d (.sl 5 (l_1.map aL))) (aA rfl) rfl rfl) ?_
   obtain ⟨r9, h10, h⟩ := bind_some h
   refine tr1 rfl (iF (aA rfl) (.func _ _ Try.call21) rfl rfl (zI _ _ h10)) ?_
   refine tr1 rfl (aD (v := .tup [.d (.sl 4 (r9.1.map bB)), .d (.sl 1 (r9.2.1.map aP)), .d (.lit (.bool r9.2.2))]) (aA rfl) rfl rfl) ?_
   refine tr1 rfl (bJ (aA rfl) rfl rfl) ?_
   refine tr1 rfl (bJ (aA rfl) rfl rfl) ?_
   refine tr1 rfl (bJ (aA rfl) rfl rfl) ?_
   refine tr1 rfl (aI (v := .d (.sl 4 (r9.1.map bB))) (aA rfl) rfl rfl) ?_
   refine tr1 rfl (aI (v := .d (.sl 1 (r9.2.1.map aP))) (aA rfl) rfl rfl) ?_
   refine tr1 rfl (aI (v := .d (.lit (.bool r9.2.2))) (aA rfl) rfl rfl) ?_
   refine aF ?_
   refine aG ?_
   refine aC ?_
   refine tr1 rfl (bL (aA rfl) rfl (i := 0) rfl dY (es := (aR t_0)) rfl rfl) ?_
   refine tr1 rfl (aD (v := .d (.sl 5 (l_1.map aL))) (aA rfl) rfl rfl) ?_
   obtain ⟨r11, h12, h⟩ := bind_some h
   refine tr1 rfl (cS (aA rfl) (.func _ _ Try.call34) rfl rfl (BVs.refl _ _) (qY _ _ h12) rfl) ?_
   refine tr1 rfl (aD (v := .tup [.d (.lit (.int .i64 r11.1)), .d (.lit (.int .i64 r11.2))]) (aA rfl) rfl rfl) ?_
   refine tr1 rfl (bJ (aA rfl) rfl rfl) ?_
   refine tr1 rfl (bJ (aA rfl) rfl rfl) ?_
   refine tr1 rfl (aI (v := .d (.lit (.int .i64 r11.1))) (aA rfl) rfl rfl) ?_
   refine tr1 rfl (aI (v := .d (.lit (.int .i64 r11.2))) (aA rfl) rfl rfl) ?_
   refine aF ?_
   refine aG ?_
   refine aC ?_
   refine tr1 rfl (bL (aA rfl) rfl (i := 0) rfl dY (es := (aR t_0)) rfl rfl) ?_
   refine tr1 rfl (aD (v := .d (.sl 5 (l_1.map aL))) (aA rfl) rfl rfl) ?_
   obtain ⟨r13, h14, h⟩ := bind_some h
   refine tr1 rfl (iF (aA rfl) (.func _ _ Try.call32) rfl rfl (aAf _ _ h14)) ?_
   refine tr1 rfl (aD (v := .tup [.d (.sl 4 (r13.1.map bB)), .d (.lit (.int .i64 r13.2))]) (aA rfl) rfl rfl) ?_
   refine tr1 rfl (bJ (aA rfl) rfl rfl) ?_
   refine tr1 rfl (bJ (aA rfl) rfl rfl) ?_
   refine tr1 rfl (aI (v := .d (.sl 4 (r13.1.map bB))) (aA rfl) rfl rfl) ?_
   refine tr1 rfl (aI (v := .d (.lit (.int .i64 r13.2))) (aA rfl) rfl rfl) ?_
   refine aF ?_
   refine aG ?_
   refine aG ?_
   refine aC ?_
   refine tr1 rfl (aD (v := .d (.lit (.bool r9.2.2))) (aA rfl) rfl rfl) ?_
   refine tr1 rfl (fQ (aA rfl) rfl) ?_
   refine tr1 rfl (aD (v := .d (.lit (.bool (!r9.2.2)))) (aA rfl) rfl rfl) ?_
   obtain ⟨b15, h16, h⟩ := bind_some h
   refine cC 3 [1, 2, 3, 7, 8, 10, 12, 13] 55 b15 ?_ ?_
   ·refine bI (!r9.2.2) (fun c84 => ?_) (fun c84 => ?_)
    ·have h16 := aY c84 h16
     refine aN rfl rfl (aA rfl) rfl (aA rfl) rfl c84 ?_
     refine aN rfl rfl (aA rfl) rfl (aA rfl) rfl c84 ?_
     refine tr1 rfl (bS (v := .d (.lit (.bool true))) (aA rfl) rfl c84 rfl rfl) ?_
     have h16 := Option.some.inj h16
     subst h16
     refine aF (bC rfl ⟨rfl, rfl, rfl, rfl, rfl, rfl, rfl, rfl, trivial⟩ rfl)
    ·have h16 := aX c84 h16
     refine aM rfl rfl (aA rfl) rfl c84 (aD (v := .d (.lit (.int .i64 r11.2))) (aA rfl) rfl rfl) ?_
     refine aM rfl rfl (aA rfl) rfl c84 (bH (aA rfl) rfl rfl rfl) ?_
     refine tr1 rfl (bR (v := .d (.lit (.bool ((!decide (r11.2 = 0)))))) (aA rfl) rfl c84 rfl rfl) ?_
     have h16 := Option.some.inj h16
     subst h16
     refine aF (bC rfl ⟨rfl, rfl, rfl, rfl, rfl, rfl, rfl, rfl, trivial⟩ rfl)
   ·refine tr1 rfl (aD (v := .d (.lit (.bool b15))) (aA rfl) rfl rfl) ?_
    obtain ⟨b17, h18, h⟩ := bind_some h
    refine cC 3 [1, 2, 3, 7, 8, 10, 12] 59 b17 ?_ ?_
    ·refine bI (b15) (fun c83 => ?_) (fun c83 => ?_)
     ·have h18 := aY c83 h18
      refine aN rfl rfl (aA rfl) rfl (aA rfl) rfl c83 ?_
      refine aN rfl rfl (aA rfl) rfl (aA rfl) rfl c83 ?_
      refine tr1 rfl (bS (v := .d (.lit (.bool true))) (aA rfl) rfl c83 rfl rfl) ?_
      have h18 := Option.some.inj h18
      subst h18
      refine aF (bC rfl ⟨rfl, rfl, rfl, rfl, rfl, rfl, rfl, trivial⟩ rfl)
     ·have h18 := aX c83 h18
      refine aM rfl rfl (aA rfl) rfl c83 (aD (v := .d (.lit (.int .i64 r13.2))) (aA rfl) rfl rfl) ?_
      refine aM rfl rfl (aA rfl) rfl c83 (bH (aA rfl) rfl rfl rfl) ?_
      refine tr1 rfl (bR (v := .d (.lit (.bool ((!decide (r13.2 = 0)))))) (aA rfl) rfl c83 rfl rfl) ?_
      have h18 := Option.some.inj h18
      subst h18
      refine aF (bC rfl ⟨rfl, rfl, rfl, rfl, rfl, rfl, rfl, trivial⟩ rfl)
    ·refine aF ?_
     refine bQ rfl (fun c19 => ?_) (fun c19 => ?_)
     ·have h := aY c19 h
      refine aG ?_
      refine aC ?_
      refine tr1 rfl (aI (v := .d (.lit (.bool false))) (aA rfl) rfl rfl) ?_
      refine aF ?_
      have h := Option.some.inj h
      subst h
      refine cP (cR (cU (l := [6]) ⟨rfl, trivial⟩)) ?_
      exact bN ⟨rfl, _, .one _, rfl, rfl⟩
     ·have h := aX c19 h
      refine bO ?_
      refine aG ?_
      refine aC ?_
      refine tr1 rfl (aI (v := .d (.lit (.int .i64 0))) (aA rfl) rfl rfl) ?_
      refine aF ?_
      refine aG ?_
      refine aC ?_
      refine tr1 rfl (iB 57 4 (.inl rfl) (aA rfl)) ?_
      refine aF ?_
      refine aG ?_
      refine aG ?_
      refine aC ?_
      refine tr1 rfl (aI (v := .d (.lit (.int .i64 0))) (aA rfl) rfl rfl) ?_
      refine aF ?_
      refine cH ?_
      refine dR [1, 2, 3, 7, 8, 10, 12] (fun (s21 : Int × Int × (List bA) × Value) => [(14, .d (.lit (.int .i64 s21.1))), (15, .d (.lit s21.2.2.2)), (16, .d (.lit (.int .i64 s21.2.1)))]) (fun (s21 : Int × Int × (List bA) × Value) => [.box b1 0 (aR t_0), .arr s21.2.2.2 57 4 (s21.2.2.1.map bB)]) (fun (k : Nat) (s21 : Int × Int × (List bA) × Value) => cX l_1 which_2 r9.1 r9.2.1 r11.1 r13.1 t_0 k s21.1 s21.2.1 s21.2.2.1) (fun _ => rfl) (0, 0, ([] : List bA), (.slice none 0 0)) h (bF [0, 1] rfl rfl (aS rfl (aS rfl (aS rfl (bD ⟨rfl, rfl, rfl, rfl, rfl, rfl, rfl, trivial⟩))))) ?_
      rintro k23 ⟨left_0_21, i_0_21, want_0_21, w22⟩ h
      simp only [cX] at h
      refine aG ?_
      refine aG ?_
      refine aC ?_
      refine tr1 rfl (aD (v := .d (.lit (.int .i64 i_0_21))) (aA rfl) rfl rfl) ?_
      refine tr1 rfl (aD (v := .d (.sl 4 (r9.1.map bB))) (aA rfl) rfl rfl) ?_
      refine tr1 rfl (dL (aA rfl) rfl iC.of) ?_
      refine tr1 rfl (bH (aA rfl) rfl rfl rfl) ?_
      refine aF ?_
      refine bQ rfl (fun c24 => ?_) (fun c24 => ?_)
      ·have h := aY c24 h
       refine bO ?_
       refine aG ?_
       refine cH ?_
       refine aG ?_
       refine aC ?_
       refine tr1 rfl (aD (v := .d (.sl 1 (r9.2.1.map aP))) (aA rfl) rfl rfl) ?_
       refine tr1 rfl (aD (v := .d (.lit (.int .i64 i_0_21))) (aA rfl) rfl rfl) ?_
       obtain ⟨x25, h26, h⟩ := bind_some h
       refine tr1 rfl (bT (aA rfl) rfl rfl cB.of (cE aP h26)) ?_
       refine tr1 rfl (bV (aA rfl) rfl bK) ?_
       refine tr1 rfl (bH (aA rfl) rfl rfl rfl) ?_
       refine aF ?_
       refine bQ rfl (fun c27 => ?_) (fun c27 => ?_)
       ·have h := aY c27 h
        refine aG ?_
        refine aC ?_
        refine tr1 rfl (aD (v := .d (.lit (.int .i64 left_0_21))) (aA rfl) rfl rfl) ?_
        refine tr1 rfl (bM (aA rfl) rfl rfl rfl) ?_
        refine tr1 rfl (aI (v := .d (.lit (.int .i64 ((w64 (left_0_21 + 1)))))) (aA rfl) rfl rfl) ?_
        refine aF ?_
        refine aG ?_
        refine aC ?_
        refine tr1 rfl (aD (v := .d (.sl 4 (r9.1.map bB))) (aA rfl) rfl rfl) ?_
        refine tr1 rfl (aD (v := .d (.lit (.int .i64 i_0_21))) (aA rfl) rfl rfl) ?_
        obtain ⟨x28, h29, h⟩ := bind_some h
        refine tr1 rfl (bT (aA rfl) rfl rfl iC.of (cE bB h29)) ?_
        refine tr1 rfl (cO (aA rfl) rfl aDu (es := [.lit (.int .i64 x28.One)]) rfl) ?_
        refine tr1 rfl (bV (aA rfl) rfl bK) ?_
        refine tr1 rfl (bH (aA rfl) rfl rfl rfl) ?_
        refine tr1 rfl (aD (v := .d (.lit (.bool ((decide (0 ≤ x28.One)))))) (aA rfl) rfl rfl) ?_
        obtain ⟨b30, h31, h⟩ := bind_some h
        refine cC 7 [1, 2, 3, 7, 8, 10, 12, 14, 15, 16] 86 b30 ?_ ?_
        ·refine bI (decide (0 ≤ x28.One)) (fun c38 => ?_) (fun c38 => ?_)
         ·have h31 := aY c38 h31
          refine aM rfl rfl (aA rfl) rfl c38 (aD (v := .d (.sl 4 (r9.1.map bB))) (aA rfl) rfl rfl) ?_
          refine aM rfl rfl (aA rfl) rfl c38 (aD (v := .d (.lit (.int .i64 i_0_21))) (aA rfl) rfl rfl) ?_
          obtain ⟨x39, h40, h31⟩ := bind_some h31
          refine aM rfl rfl (aA rfl) rfl c38 (bT (aA rfl) rfl rfl iC.of (cE bB h40)) ?_
          refine aM rfl rfl (aA rfl) rfl c38 (cO (aA rfl) rfl zK (es := [.lit (.int .i64 x39.Two)]) rfl) ?_
          refine aM rfl rfl (aA rfl) rfl c38 (bV (aA rfl) rfl bK) ?_
          refine aM rfl rfl (aA rfl) rfl c38 (bH (aA rfl) rfl rfl rfl) ?_
          refine tr1 rfl (bS (v := .d (.lit (.bool ((decide (0 ≤ x39.Two)))))) (aA rfl) rfl c38 rfl rfl) ?_
          have h31 := Option.some.inj h31
          subst h31
          refine aF (bC rfl ⟨rfl, rfl, rfl, rfl, rfl, rfl, rfl, rfl, rfl, rfl, trivial⟩ rfl)
         ·have h31 := aX c38 h31
          refine aN rfl rfl (aA rfl) rfl (aA rfl) rfl c38 ?_
          refine aN rfl rfl (aA rfl) rfl (aA rfl) rfl c38 ?_
          refine aN rfl rfl (aA rfl) rfl (aA rfl) rfl c38 ?_
          refine aN rfl rfl (aA rfl) rfl (aA rfl) rfl c38 ?_
          refine aN rfl rfl (aA rfl) rfl (aA rfl) rfl c38 ?_
          refine aN rfl rfl (aA rfl) rfl (aA rfl) rfl c38 ?_
          refine tr1 rfl (bR (v := .d (.lit (.bool false))) (aA rfl) rfl c38 rfl rfl) ?_
          have h31 := Option.some.inj h31
          subst h31
          refine aF (bC rfl ⟨rfl, rfl, rfl, rfl, rfl, rfl, rfl, rfl, rfl, rfl, trivial⟩ rfl)
        ·refine aF ?_
         refine bQ rfl (fun c32 => ?_) (fun c32 => ?_)
         ·have h := aY c32 h
          refine aC ?_
          refine tr1 rfl (aD (v := .d (.lit w22)) (aA rfl) rfl rfl) ?_
          refine tr1 rfl (aD (v := .d (.sl 4 (r9.1.map bB))) (aA rfl) rfl rfl) ?_
          refine tr1 rfl (aD (v := .d (.lit (.int .i64 i_0_21))) (aA rfl) rfl rfl) ?_
          obtain ⟨x33, h34, h⟩ := bind_some h
          refine tr1 rfl (bT (aA rfl) rfl rfl iC.of (cE bB h34)) ?_
          refine tr1 rfl (gP (aA rfl) rfl rQ (es := (bB x33)) rfl rfl) ?_
          refine tr1 rfl (eW (aA rfl) iC rfl rfl (rows := ([x33]).map bB) rfl (cV (f := bB) fun _ => rfl) rfl (by decide)) ?_
          obtain ⟨x35, h36, h⟩ := bind_some h
          refine bU rfl (eI (i := 1) (aA rfl) iC rfl rfl rfl (fun _ => rfl) h36 rfl) ?_
          rintro _ ⟨v37, rfl⟩
          refine tr1 rfl (aI (v := .d (.lit v37)) (aA rfl) rfl rfl) ?_
          refine fF ?_
          refine aC ?_
          refine tr1 rfl (aD (v := .d (.lit (.int .i64 i_0_21))) (aA rfl) rfl rfl) ?_
          refine tr1 rfl (bM (aA rfl) rfl rfl rfl) ?_
          refine tr1 rfl (aI (v := .d (.lit (.int .i64 ((w64 (i_0_21 + 1)))))) (aA rfl) rfl rfl) ?_
          refine aF ?_
          exact ⟨(w64 (left_0_21 + 1), w64 (i_0_21 + 1), x35, v37), h, bF [0, 1] rfl rfl (aS rfl (aS rfl (aS rfl (bD ⟨rfl, rfl, rfl, rfl, rfl, rfl, rfl, trivial⟩))))⟩
         ·have h := aX c32 h
          refine eG ?_
          refine aC ?_
          refine tr1 rfl (aD (v := .d (.lit (.int .i64 i_0_21))) (aA rfl) rfl rfl) ?_
          refine tr1 rfl (bM (aA rfl) rfl rfl rfl) ?_
          refine tr1 rfl (aI (v := .d (.lit (.int .i64 ((w64 (i_0_21 + 1)))))) (aA rfl) rfl rfl) ?_
          refine aF ?_
          exact ⟨(w64 (left_0_21 + 1), w64 (i_0_21 + 1), want_0_21, w22), h, bF [0, 1] rfl rfl (aS rfl (aS rfl (aS rfl (bD ⟨rfl, rfl, rfl, rfl, rfl, rfl, rfl, trivial⟩))))⟩
       ·have h := aX c27 h
        refine eG ?_
        refine aC ?_
        refine tr1 rfl (aD (v := .d (.lit (.int .i64 i_0_21))) (aA rfl) rfl rfl) ?_
        refine tr1 rfl (bM (aA rfl) rfl rfl rfl) ?_
        refine tr1 rfl (aI (v := .d (.lit (.int .i64 ((w64 (i_0_21 + 1)))))) (aA rfl) rfl rfl) ?_
        refine aF ?_
        exact ⟨(left_0_21, w64 (i_0_21 + 1), want_0_21, w22), h, bF [0, 1] rfl rfl (aS rfl (aS rfl (aS rfl (bD ⟨rfl, rfl, rfl, rfl, rfl, rfl, rfl, trivial⟩))))⟩
      ·have h := aX c24 h
       refine dF ?_
       refine .inl ⟨rfl, ?_⟩
       simp only [iW] at h
       refine aG ?_
       refine aG ?_
       refine aC ?_
       refine tr1 rfl (aD (v := .d (.lit (.int .i64 left_0_21))) (aA rfl) rfl rfl) ?_
       refine tr1 rfl (aD (v := .d (.lit (.int .i64 r11.1))) (aA rfl) rfl rfl) ?_
       refine tr1 rfl (bH (aA rfl) rfl rfl rfl) ?_
       refine tr1 rfl (aD (v := .d (.lit (.bool ((!decide (left_0_21 = r11.1)))))) (aA rfl) rfl rfl) ?_
       obtain ⟨b41, h42, h⟩ := bind_some h
       refine cC 5 [1, 2, 3, 10, 12] 102 b41 ?_ ?_
       ·refine bI (!decide (left_0_21 = r11.1)) (fun c80 => ?_) (fun c80 => ?_)
        ·have h42 := aY c80 h42
         refine aN rfl rfl (aA rfl) rfl (aA rfl) rfl c80 ?_
         refine aN rfl rfl (aA rfl) rfl (aA rfl) rfl c80 ?_
         refine aN rfl rfl (aA rfl) rfl (aA rfl) rfl c80 ?_
         refine aN rfl rfl (aA rfl) rfl (aA rfl) rfl c80 ?_
         refine tr1 rfl (bS (v := .d (.lit (.bool true))) (aA rfl) rfl c80 rfl rfl) ?_
         have h42 := Option.some.inj h42
         subst h42
         refine aF (bC rfl ⟨rfl, rfl, rfl, rfl, rfl, trivial⟩ rfl)
        ·have h42 := aX c80 h42
         refine aM rfl rfl (aA rfl) rfl c80 (aD (v := .d (.sl 4 (r13.1.map bB))) (aA rfl) rfl rfl) ?_
         refine aM rfl rfl (aA rfl) rfl c80 (aD (v := .d (.lit w22)) (aA rfl) rfl rfl) ?_
         obtain ⟨r81, h82, h42⟩ := bind_some h42
         refine aM rfl rfl (aA rfl) rfl c80 (cS (aA rfl) (.func _ _ Try.call22) rfl rfl (.cons (.same _) (.cons (.d (kR 1 rfl (cV (f := bB) fun _ => rfl))) .nil)) (uL _ _ h82) rfl) ?_
         refine aM rfl rfl (aA rfl) rfl c80 (fQ (aA rfl) rfl) ?_
         refine tr1 rfl (bR (v := .d (.lit (.bool (!r81)))) (aA rfl) rfl c80 rfl rfl) ?_
         have h42 := Option.some.inj h42
         subst h42
         refine aF (bC rfl ⟨rfl, rfl, rfl, rfl, rfl, trivial⟩ rfl)
       ·refine tr1 rfl (aD (v := .d (.lit (.bool b41))) (aA rfl) rfl rfl) ?_
        obtain ⟨b43, h44, h⟩ := bind_some h
        refine cC 13 [1, 2, 3, 10, 12] 116 b43 ?_ ?_
        ·refine bI (b41) (fun c73 => ?_) (fun c73 => ?_)
         ·have h44 := aY c73 h44
          refine aN rfl rfl (aA rfl) rfl (aA rfl) rfl c73 ?_
          refine aN rfl rfl (aA rfl) rfl (aA rfl) rfl c73 ?_
          refine aN rfl rfl (aA rfl) rfl (aA rfl) rfl c73 ?_
          refine dG rfl rfl (aA rfl) rfl (aA rfl) rfl ?_
          refine dG rfl rfl (aA rfl) rfl (aA rfl) rfl ?_
          refine dG rfl rfl (aA rfl) rfl (aA rfl) rfl ?_
          refine aN rfl rfl (aA rfl) rfl (aA rfl) rfl c73 ?_
          refine aN rfl rfl (aA rfl) rfl (aA rfl) rfl c73 ?_
          refine dG rfl rfl (aA rfl) rfl (aA rfl) rfl ?_
          refine dG rfl rfl (aA rfl) rfl (aA rfl) rfl ?_
          refine dG rfl rfl (aA rfl) rfl (aA rfl) rfl ?_
          refine aN rfl rfl (aA rfl) rfl (aA rfl) rfl c73 ?_
          refine tr1 rfl (bS (v := .d (.lit (.bool true))) (aA rfl) rfl c73 rfl rfl) ?_
          have h44 := Option.some.inj h44
          subst h44
          refine aF (bC rfl ⟨rfl, rfl, rfl, rfl, rfl, trivial⟩ rfl)
         ·have h44 := aX c73 h44
          refine aM rfl rfl (aA rfl) rfl c73 (aD (v := .d (.lit (.int .i64 r11.1))) (aA rfl) rfl rfl) ?_
          refine aM rfl rfl (aA rfl) rfl c73 (bH (aA rfl) rfl rfl rfl) ?_
          refine aM rfl rfl (aA rfl) rfl c73 (aD (v := .d (.lit (.bool ((decide (0 < r11.1)))))) (aA rfl) rfl rfl) ?_
          obtain ⟨b74, h75, h44⟩ := bind_some h44
          refine cC 4 [1, 2, 3, 10, 12, 103] 110 b74 ?_ ?_
          ·refine bI (decide (0 < r11.1)) (fun c79 => ?_) (fun c79 => ?_)
           ·have h75 := aY c79 h75
            refine aM rfl rfl (aA rfl) rfl c79 (aD (v := .d (.sl 4 (r13.1.map bB))) (aA rfl) rfl rfl) ?_
            refine aM rfl rfl (aA rfl) rfl c79 (dL (aA rfl) rfl iC.of) ?_
            refine aM rfl rfl (aA rfl) rfl c79 (bH (aA rfl) rfl rfl rfl) ?_
            refine aM rfl rfl (aA rfl) rfl c73 (bS (v := .d (.lit (.bool ((decide ((r13.1.length : Int) = 0)))))) (aA rfl) rfl c79 rfl rfl) ?_
            have h75 := Option.some.inj h75
            subst h75
            refine aF (bC rfl ⟨rfl, rfl, rfl, rfl, rfl, rfl, trivial⟩ rfl)
           ·have h75 := aX c79 h75
            refine aN rfl rfl (aA rfl) rfl (aA rfl) rfl c79 ?_
            refine aN rfl rfl (aA rfl) rfl (aA rfl) rfl c79 ?_
            refine aN rfl rfl (aA rfl) rfl (aA rfl) rfl c79 ?_
            refine aM rfl rfl (aA rfl) rfl c73 (bR (v := .d (.lit (.bool false))) (aA rfl) rfl c79 rfl rfl) ?_
            have h75 := Option.some.inj h75
            subst h75
            refine aF (bC rfl ⟨rfl, rfl, rfl, rfl, rfl, rfl, trivial⟩ rfl)
          ·refine aM rfl rfl (aA rfl) rfl c73 (aD (v := .d (.lit (.bool b74))) (aA rfl) rfl rfl) ?_
           obtain ⟨b76, h77, h44⟩ := bind_some h44
           refine cC 4 [1, 2, 3, 10, 12, 103] 115 b76 ?_ ?_
           ·refine bI (b74) (fun c78 => ?_) (fun c78 => ?_)
            ·have h77 := aY c78 h77
             refine aM rfl rfl (aA rfl) rfl c78 (aD (v := .d (.sl 5 (l_1.map aL))) (aA rfl) rfl rfl) ?_
             refine aM rfl rfl (aA rfl) rfl c78 (dL (aA rfl) rfl fM.of) ?_
             refine aM rfl rfl (aA rfl) rfl c78 (bH (aA rfl) rfl rfl rfl) ?_
             refine aM rfl rfl (aA rfl) rfl c73 (bS (v := .d (.lit (.bool ((decide ((l_1.length : Int) = 0)))))) (aA rfl) rfl c78 rfl rfl) ?_
             have h77 := Option.some.inj h77
             subst h77
             refine aF (bC rfl ⟨rfl, rfl, rfl, rfl, rfl, rfl, trivial⟩ rfl)
            ·have h77 := aX c78 h77
             refine aN rfl rfl (aA rfl) rfl (aA rfl) rfl c78 ?_
             refine aN rfl rfl (aA rfl) rfl (aA rfl) rfl c78 ?_
             refine aN rfl rfl (aA rfl) rfl (aA rfl) rfl c78 ?_
             refine aM rfl rfl (aA rfl) rfl c73 (bR (v := .d (.lit (.bool false))) (aA rfl) rfl c78 rfl rfl) ?_
             have h77 := Option.some.inj h77
             subst h77
             refine aF (bC rfl ⟨rfl, rfl, rfl, rfl, rfl, rfl, trivial⟩ rfl)
           ·refine tr1 rfl (bR (v := .d (.lit (.bool b76))) (aA rfl) rfl c73 rfl rfl) ?_
            have h44 := Option.some.inj h44
            subst h44
            refine aF (bC rfl ⟨rfl, rfl, rfl, rfl, rfl, trivial⟩ rfl)
        ·refine aF ?_
         refine bQ rfl (fun c45 => ?_) (fun c45 => ?_)
         ·have h := aY c45 h
          refine aG ?_
          refine aC ?_
          refine tr1 rfl (aI (v := .d (.lit (.bool false))) (aA rfl) rfl rfl) ?_
          refine aF ?_
          have h := Option.some.inj h
          subst h
          refine cP (cR (cU (l := [6]) ⟨rfl, trivial⟩)) ?_
          exact bN ⟨rfl, _, .one _, rfl, rfl⟩
         ·have h := aX c45 h
          refine bO ?_
          refine aG ?_
          refine aG ?_
          refine aC ?_
          refine tr1 rfl (aD (v := .d (.sl 4 (r13.1.map bB))) (aA rfl) rfl rfl) ?_
          refine tr1 rfl (dL (aA rfl) rfl iC.of) ?_
          refine tr1 rfl (bH (aA rfl) rfl rfl rfl) ?_
          refine tr1 rfl (aD (v := .d (.lit (.bool ((decide ((r13.1.length : Int) = 0)))))) (aA rfl) rfl rfl) ?_
          obtain ⟨b46, h47, h⟩ := bind_some h
          refine cC 3 [1, 2, 3, 10, 12] 123 b46 ?_ ?_
          ·refine bI (decide ((r13.1.length : Int) = 0)) (fun c72 => ?_) (fun c72 => ?_)
           ·have h47 := aY c72 h47
            refine aN rfl rfl (aA rfl) rfl (aA rfl) rfl c72 ?_
            refine aN rfl rfl (aA rfl) rfl (aA rfl) rfl c72 ?_
            refine tr1 rfl (bS (v := .d (.lit (.bool true))) (aA rfl) rfl c72 rfl rfl) ?_
            have h47 := Option.some.inj h47
            subst h47
            refine aF (bC rfl ⟨rfl, rfl, rfl, rfl, rfl, trivial⟩ rfl)
           ·have h47 := aX c72 h47
            refine aM rfl rfl (aA rfl) rfl c72 (aD (v := .d (.lit (.int .i64 which_2))) (aA rfl) rfl rfl) ?_
            refine aM rfl rfl (aA rfl) rfl c72 (bH (aA rfl) rfl rfl rfl) ?_
            refine tr1 rfl (bR (v := .d (.lit (.bool ((decide (which_2 < 0)))))) (aA rfl) rfl c72 rfl rfl) ?_
            have h47 := Option.some.inj h47
            subst h47
            refine aF (bC rfl ⟨rfl, rfl, rfl, rfl, rfl, trivial⟩ rfl)
          ·refine aF ?_
           refine bQ rfl (fun c48 => ?_) (fun c48 => ?_)
           ·have h := aY c48 h
            refine aG ?_
            refine aC ?_
            obtain ⟨r49, h50, h⟩ := bind_some h
            refine tr1 rfl (cS (aA rfl) (.func _ _ Try.call14) rfl rfl (BVs.refl _ _) (oF h50) rfl) ?_
            refine tr1 rfl (aI (v := .d (.lit (.bool r49))) (aA rfl) rfl rfl) ?_
            refine aF ?_
            have h := Option.some.inj h
            subst h
            refine cP (cR (cU (l := [6]) ⟨rfl, trivial⟩)) ?_
            exact bN ⟨rfl, _, .one _, rfl, rfl⟩
           ·have h := aX c48 h
            refine bO ?_
            refine aG ?_
            refine aC ?_
            refine tr1 rfl (aD (v := .d (.sl 4 (r13.1.map bB))) (aA rfl) rfl rfl) ?_
            refine tr1 rfl (aD (v := .d (.lit (.int .i64 which_2))) (aA rfl) rfl rfl) ?_
            refine tr1 rfl (aD (v := .d (.sl 4 (r13.1.map bB))) (aA rfl) rfl rfl) ?_
            refine tr1 rfl (dL (aA rfl) rfl iC.of) ?_
            obtain ⟨u51, h52, h⟩ := bind_some h
            refine tr1 rfl (aLa (aA rfl) rfl rfl (aMw h52)) ?_
            obtain ⟨x53, h54, h⟩ := bind_some h
            refine tr1 rfl (bT (aA rfl) rfl rfl iC.of (cE bB h54)) ?_
            refine tr1 rfl (gP (aA rfl) rfl rQ (es := (bB x53)) rfl rfl) ?_
            refine bU rfl (dQ (zs := [.lit (.int .i64 0), .lit (.int .i64 0), .lit (.int .i64 0), .lit (.int .i64 0)]) (aA rfl) Try.zeroValue57 rfl rfl) ?_
            rintro _ ⟨b55, rfl⟩
            refine tr1 rfl (cG (i := 2) rfl rfl rfl rfl rfl Try.sizeOf57 rfl (aA rfl) (Nat.le_of_ble_eq_true rfl) (ds' := (bB x53)) rfl) ?_
            refine aF ?_
            refine aG ?_
            obtain ⟨x57, h58, h⟩ := bind_some h
            refine sJ mix 11 [3, 10] (fun X56 => [(134, .d (.lit (X56 2).v)), (142, .d (.sl 5 ((([(aE.mk 1 x53.Round x53.Place x53.Two 0)])).map aL)))]) (fun X56 => [.box b1 0 (aR t_0), .arr w22 57 4 (want_0_21.map bB), .box b55 0 (bB x53), .arr (X56 2).v 32 5 (x57.map aL)]) ?_ ?_
            ·refine ⟨1, fun X56 => [(132, 0, .d (.lit (X56 0).v)), (133, 1, .d (.sl 5 (l_1.map aL))), (134, 2, .d (.lit (X56 2).v)), (135, 3, .bp b55 0 0), (136, 4, .d (.lit (.int .i64 x53.Round))), (137, 5, .bp b55 0 1), (138, 6, .d (.lit (.int .i64 x53.Place))), (139, 7, .bp b55 0 3), (140, 8, .d (.lit (.int .i64 x53.Two))), (141, 9, .agg (aL (aE.mk 1 x53.Round x53.Place x53.Two 0))), (142, 10, .d (.sl 5 ((([(aE.mk 1 x53.Round x53.Place x53.Two 0)])).map aL)))], fun X56 => [([], .box b1 0 (aR t_0)), ([], .arr w22 57 4 (want_0_21.map bB)), ([], .box b55 0 (bB x53)), ([(2, .arr (X56 2).v 32 5 (x57.map aL)), (0, .arr (X56 0).v 32 5 (([] : List aE).map aL))], nob)], ?_, ?_⟩
             · exact ⟨by kernel_rfl, by kernel_rfl, by kernel_rfl, fun _ => by kernel_rfl, fun _ => by kernel_rfl, fun _ => by kernel_rfl, fun _ => rfl, [([], [2]), ([], [2]), ([0, 1], []), ([], []), ([3], []), ([], []), ([5], []), ([], []), ([7], []), ([4, 6, 8], []), ([9], [])], by kernel_rfl, ⟨fun X56 S hw hi hS => aBj (X := X56) (p := 3) (v := fun x => .d (.lit x.v)) (mo := fun x => .arr x.v 32 5 (([] : List aE).map aL)) hS hi rfl rfl (fun _ => rfl) hw (fun _ => rfl) (fun _ => rfl) (fun _ => rfl) (fun _ => ⟨rfl, rfl, .inl rfl, ⟨rfl, rfl, .inr rfl, ⟨rfl, rfl, .inr rfl, ⟨rfl, rfl, .inr rfl, ⟨rfl, rfl, .inr rfl, ⟨rfl, rfl, .inr rfl, ⟨rfl, rfl, .inr rfl, ⟨rfl, rfl, .inr rfl, ⟨rfl, rfl, .inr rfl, ⟨rfl, rfl, .inr rfl, ⟨rfl, rfl, .inr rfl, trivial⟩⟩⟩⟩⟩⟩⟩⟩⟩⟩⟩) (fun _ => ⟨trivial, rfl, ⟨trivial, rfl, ⟨trivial, rfl, ⟨⟨rfl, .inr rfl, ⟨rfl, .inl rfl, trivial⟩⟩, rfl, trivial⟩⟩⟩⟩) (sI (xS (aA rfl) fM rfl pan (rows := (([] : List aE)).map aL) rfl (cV (f := aL) fun _ => rfl) rfl (by decide)) (by rintro _ ⟨w, rfl⟩; exact ⟨⟨0, w⟩, bF [0, 1, 2, 4] rfl rfl (le_refl _)⟩)),
      fun X56 S hw hi hS => gC (X := X56) rfl (hw X56) rfl (aT rfl (aD (v := .d (.sl 5 (l_1.map aL))) (aA rfl) (aJ hS rfl) rfl)),
      fun X56 S hw hi hS => aBj (X := X56) (p := 3) (v := fun x => .d (.lit x.v)) (mo := fun x => .arr x.v 32 5 (x57.map aL)) hS hi rfl rfl (fun _ => rfl) hw (fun _ => rfl) (fun _ => rfl) (fun _ => rfl) (fun _ => ⟨rfl, rfl, .inr rfl, ⟨rfl, rfl, .inr rfl, ⟨rfl, rfl, .inl rfl, ⟨rfl, rfl, .inr rfl, ⟨rfl, rfl, .inr rfl, ⟨rfl, rfl, .inr rfl, ⟨rfl, rfl, .inr rfl, ⟨rfl, rfl, .inr rfl, ⟨rfl, rfl, .inr rfl, ⟨rfl, rfl, .inr rfl, ⟨rfl, rfl, .inr rfl, trivial⟩⟩⟩⟩⟩⟩⟩⟩⟩⟩⟩) (fun _ => ⟨trivial, rfl, ⟨trivial, rfl, ⟨trivial, rfl, ⟨⟨rfl, .inl rfl, ⟨rfl, .inr rfl, trivial⟩⟩, rfl, trivial⟩⟩⟩⟩) (sI (eI (i := 3) (aA rfl) fM (aJ hS rfl) (og hS rfl rfl) (aJ hS rfl) (fun _ => rfl) h58 rfl) (by rintro _ ⟨w, rfl⟩; exact ⟨⟨0, w⟩, Ent.refl _⟩)),
      fun X56 S hw hi hS => gC (X := X56) rfl (hw X56) rfl (aT rfl (aV (aA rfl) (aJ hS rfl) aDs)),
      fun X56 S hw hi hS => gC (X := X56) rfl (hw X56) rfl (aT rfl (aZ (aA rfl) (aJ hS rfl) (i := 2) (og hS rfl rfl) rfl bK)),
      fun X56 S hw hi hS => gC (X := X56) rfl (hw X56) rfl (aT rfl (aV (aA rfl) (aJ hS rfl) aDt)),
      fun X56 S hw hi hS => gC (X := X56) rfl (hw X56) rfl (aT rfl (aZ (aA rfl) (aJ hS rfl) (i := 2) (og hS rfl rfl) rfl bK)),
      fun X56 S hw hi hS => gC (X := X56) rfl (hw X56) rfl (aT rfl (aV (aA rfl) (aJ hS rfl) zK)),
      fun X56 S hw hi hS => gC (X := X56) rfl (hw X56) rfl (aT rfl (aZ (aA rfl) (aJ hS rfl) (i := 2) (og hS rfl rfl) rfl bK)),
      fun X56 S hw hi hS => gC (X := X56) rfl (hw X56) rfl (aT rfl (eX (aA rfl) xX (zs := [.lit (.int .i64 0), .lit (.int .i64 0), .lit (.int .i64 0), .lit (.int .i64 0), .lit (.int .i64 0)]) rfl rfl rfl (pa2 rfl (pa2 (aJ hS rfl) (pa2 (aJ hS rfl) (pa2 (aJ hS rfl) pan)))) (es := [.lit (.int .i64 1), .lit (.int .i64 x53.Round), .lit (.int .i64 x53.Place), .lit (.int .i64 x53.Two), .lit (.int .i64 0)]) rfl)),
      fun X56 S hw hi hS => gC (X := X56) rfl (hw X56) rfl (aT rfl (eW (aA rfl) fM rfl (pa2 (aJ hS rfl) pan) (rows := ([(aE.mk 1 x53.Round x53.Place x53.Two 0)]).map aL) rfl (cV (f := aL) fun _ => rfl) rfl (by decide))), trivial⟩⟩
             · exact fun X56 => dI (aS rfl (aS rfl (bD ⟨rfl, rfl, trivial⟩)))
            ·intro X56
             obtain ⟨x59, h60, h⟩ := bind_some h
             refine bU rfl (eI (i := 3) (aA rfl) fM rfl rfl rfl (fun _ => rfl) h60 rfl) ?_
             rintro _ ⟨v61, rfl⟩
             refine jG (aLj [.box b1 0 (aR t_0), .arr w22 57 4 (want_0_21.map bB), .box b55 0 (bB x53)] [.arr v61 32 5 (x59.map aL)] rfl (aMc (v' := .d (.sl 5 (x59.map aL))) (.d (aLi (cV (f := aL) fun _ => rfl))) (aJq _ _))) ?_
             refine tr1 rfl (aI (v := .d (.sl 5 (x59.map aL))) (aA rfl) rfl rfl) ?_
             refine aF ?_
             refine aG ?_
             refine aC ?_
             refine tr1 rfl (bL (aA rfl) rfl (i := 0) rfl dY (es := (aR t_0)) rfl rfl) ?_
             refine tr1 rfl (aD (v := .d (.sl 5 (x59.map aL))) (aA rfl) rfl rfl) ?_
             obtain ⟨r62, h63, h⟩ := bind_some h
             refine tr1 rfl (cS (aA rfl) (.func _ _ Try.call34) rfl rfl (BVs.refl _ _) (qY _ _ h63) rfl) ?_
             refine tr1 rfl (aD (v := .tup [.d (.lit (.int .i64 r62.1)), .d (.lit (.int .i64 r62.2))]) (aA rfl) rfl rfl) ?_
             refine tr1 rfl (bJ (aA rfl) rfl rfl) ?_
             refine tr1 rfl (bJ (aA rfl) rfl rfl) ?_
             refine tr1 rfl (aI (v := .d (.lit (.int .i64 r62.1))) (aA rfl) rfl rfl) ?_
             refine tr1 rfl (aI (v := .d (.lit (.int .i64 r62.2))) (aA rfl) rfl rfl) ?_
             refine aF ?_
             refine aG ?_
             refine aC ?_
             refine tr1 rfl (aD (v := .d (.lit (.int .i64 r62.2))) (aA rfl) rfl rfl) ?_
             refine tr1 rfl (bH (aA rfl) rfl rfl rfl) ?_
             refine tr1 rfl (aD (v := .d (.lit (.bool ((decide (r62.2 = 0)))))) (aA rfl) rfl rfl) ?_
             obtain ⟨b64, h65, h⟩ := bind_some h
             refine cC 5 [] 157 b64 ?_ ?_
             ·refine bI (decide (r62.2 = 0)) (fun c71 => ?_) (fun c71 => ?_)
              ·have h65 := aY c71 h65
               refine aM rfl rfl (aA rfl) rfl c71 (aD (v := .d (.lit (.int .i64 r62.1))) (aA rfl) rfl rfl) ?_
               refine aM rfl rfl (aA rfl) rfl c71 (aD (v := .d (.lit (.int .i64 r11.1))) (aA rfl) rfl rfl) ?_
               refine aM rfl rfl (aA rfl) rfl c71 (bM (aA rfl) rfl rfl rfl) ?_
               refine aM rfl rfl (aA rfl) rfl c71 (bH (aA rfl) rfl rfl rfl) ?_
               refine tr1 rfl (bS (v := .d (.lit (.bool ((decide (r62.1 = (w64 (r11.1 - 1)))))))) (aA rfl) rfl c71 rfl rfl) ?_
               have h65 := Option.some.inj h65
               subst h65
               refine aF (bC rfl trivial rfl)
              ·have h65 := aX c71 h65
               refine aN rfl rfl (aA rfl) rfl (aA rfl) rfl c71 ?_
               refine aN rfl rfl (aA rfl) rfl (aA rfl) rfl c71 ?_
               refine aN rfl rfl (aA rfl) rfl (aA rfl) rfl c71 ?_
               refine aN rfl rfl (aA rfl) rfl (aA rfl) rfl c71 ?_
               refine tr1 rfl (bR (v := .d (.lit (.bool false))) (aA rfl) rfl c71 rfl rfl) ?_
               have h65 := Option.some.inj h65
               subst h65
               refine aF (bC rfl trivial rfl)
             ·refine tr1 rfl (aD (v := .d (.lit (.bool b64))) (aA rfl) rfl rfl) ?_
              obtain ⟨b66, h67, h⟩ := bind_some h
              refine cC 2 [] 160 b66 ?_ ?_
              ·refine bI (b64) (fun c68 => ?_) (fun c68 => ?_)
               ·have h67 := aY c68 h67
                obtain ⟨r69, h70, h67⟩ := bind_some h67
                refine aM rfl rfl (aA rfl) rfl c68 (cS (aA rfl) (.func _ _ Try.call14) rfl rfl (BVs.refl _ _) (oF h70) rfl) ?_
                refine tr1 rfl (bS (v := .d (.lit (.bool r69))) (aA rfl) rfl c68 rfl rfl) ?_
                have h67 := Option.some.inj h67
                subst h67
                refine aF (bC rfl trivial rfl)
               ·have h67 := aX c68 h67
                refine aN rfl rfl (aA rfl) rfl (aA rfl) rfl c68 ?_
                refine tr1 rfl (bR (v := .d (.lit (.bool false))) (aA rfl) rfl c68 rfl rfl) ?_
                have h67 := Option.some.inj h67
                subst h67
                refine aF (bC rfl trivial rfl)
              ·refine tr1 rfl (aI (v := .d (.lit (.bool b66))) (aA rfl) rfl rfl) ?_
               refine aF ?_
               have h := Option.some.inj h
               subst h
               refine cP (cR (cU (l := [6]) ⟨rfl, trivial⟩)) ?_
               exact bN ⟨rfl, _, .one _, rfl, rfl⟩

end Go.Am
