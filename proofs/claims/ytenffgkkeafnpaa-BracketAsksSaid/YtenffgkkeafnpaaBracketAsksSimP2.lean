/- The functions compute what the shallow ones say: printed by program. -/
import Derived.Test.YtenffgkkeafnpaaBracketAsksSimP1
namespace Go.Am
open Go.Proofs
set_option maxRecDepth 100000
set_option maxHeartbeats 4000000

theorem vH (t_0 : aO) (l_1 : List aG) {r : (List Int) × Bool} (h : kA t_0 l_1 = some r) : Fn Try.prog 18 [.agg (aQ t_0), .d (.sl 5 (l_1.map aL))] (.tup [.d (.sl 1 (r.1.map aN)), .d (.lit (.bool r.2))]) := by
 unfold kA at h
 refine Fn.of_tr Try.func18 rfl (rs := [.tmp 4, .tmp 5]) Try.results18 Try.ntmps18 (Nat.le_of_ble_eq_true rfl) ?_
 refine aE ?_
 refine aC ?_
 refine bV rfl (eH (v := .agg (aQ t_0)) (aA rfl) rfl rfl rfl) ?_
 rintro _ ⟨b1, rfl⟩
 refine tr1 rfl (qW 1 (aA rfl)) ?_
 refine tr1 rfl (aJ (v := .d (.lit (.bool false))) (aA rfl) rfl rfl) ?_
 refine aF ?_
 refine aE ?_
 refine aC ?_
 refine tr1 rfl (aD (v := .d (.sl 5 (l_1.map aL))) (aA rfl) rfl rfl) ?_
 obtain ⟨r2, h3, h⟩ := bind_some h
 refine tr1 rfl (eN (aA rfl) (.func _ _ Try.call51) rfl rfl (sQ _ h3)) ?_
 refine tr1 rfl (aJ (v := .d (.sl 5 (r2.map aL))) (aA rfl) rfl rfl) ?_
 refine aF ?_
 refine aE ?_
 refine aC ?_
 refine bV rfl (aCp (aA rfl) bS rfl rfl (rows := (([] : List Int)).map aN) rfl (dG (f := aN) fun _ => rfl) rfl (by decide)) ?_
 rintro _ ⟨v4, rfl⟩
 refine tr1 rfl (aV (aA rfl) rfl dU) ?_
 refine tr1 rfl (aW (aA rfl) rfl (i := 0) rfl rfl cU) ?_
 obtain ⟨x5, h6, h⟩ := bind_some h
 refine bV rfl (fZ (i := 1) (aA rfl) bS rfl rfl rfl (fun _ => rfl) h6 rfl) ?_
 rintro _ ⟨v7, rfl⟩
 refine tr1 rfl (aJ (v := .d (.lit v7)) (aA rfl) rfl rfl) ?_
 refine aF ?_
 refine aE ?_
 refine aC ?_
 refine tr1 rfl (jK 3 1 (.inl rfl) (aA rfl)) ?_
 refine aF ?_
 refine aE ?_
 refine aC ?_
 refine tr1 rfl (aJ (v := .d (.lit (.int .i64 0))) (aA rfl) rfl rfl) ?_
 refine aF ?_
 refine aE ?_
 refine aE ?_
 refine aC ?_
 refine tr1 rfl (aJ (v := .d (.lit (.int .i64 0))) (aA rfl) rfl rfl) ?_
 refine aF ?_
 refine cD ?_
 refine dI [2, 6] (fun (s9 : Int × Int × (List Int) × (List Int) × Value × Value) => [(7, .d (.lit s9.2.2.2.2.2)), (8, .d (.lit s9.2.2.2.2.1)), (9, .d (.lit (.int .i64 s9.1))), (10, .d (.lit (.int .i64 s9.2.1)))]) (fun (s9 : Int × Int × (List Int) × (List Int) × Value × Value) => [.box b1 0 (aQ t_0), .arr s9.2.2.2.2.1 3 1 (s9.2.2.1.map aN), .arr s9.2.2.2.2.2 3 1 (s9.2.2.2.1.map aN)]) (fun (k : Nat) (s9 : Int × Int × (List Int) × (List Int) × Value × Value) => dO r2 t_0 k s9.1 s9.2.1 s9.2.2.1 s9.2.2.2.1) (fun _ => rfl) (0, 0, ([] : List Int), x5, (.slice none 0 0), v7) h (bF [0, 2, 1] rfl rfl (aU rfl (aU rfl (aU rfl (aU rfl (bB ⟨rfl, rfl, trivial⟩)))))) ?_
 rintro k12 ⟨used_0_9, i_0_9, out_0_9, o18_0_9, w10, w11⟩ h
 simp only [dO] at h
 refine aE ?_
 refine aE ?_
 refine aC ?_
 refine tr1 rfl (aD (v := .d (.lit (.int .i64 i_0_9))) (aA rfl) rfl rfl) ?_
 refine tr1 rfl (aV (aA rfl) rfl dU) ?_
 refine tr1 rfl (aW (aA rfl) rfl (i := 0) rfl rfl cU) ?_
 refine tr1 rfl (eB (aA rfl) rfl bS.of) ?_
 refine tr1 rfl (bI (aA rfl) rfl rfl rfl) ?_
 refine aF ?_
 refine bT rfl (fun c13 => ?_) (fun c13 => ?_)
 ·have h := aZ c13 h
  refine bR ?_
  refine aE ?_
  refine cD ?_
  refine aE ?_
  refine aC ?_
  refine tr1 rfl (aV (aA rfl) rfl dU) ?_
  refine tr1 rfl (aW (aA rfl) rfl (i := 0) rfl rfl cU) ?_
  refine tr1 rfl (aD (v := .d (.lit (.int .i64 i_0_9))) (aA rfl) rfl rfl) ?_
  obtain ⟨x14, h15, h⟩ := bind_some h
  refine tr1 rfl (bQ (aA rfl) rfl rfl bS.of (bU aN h15)) ?_
  refine tr1 rfl (bP (aA rfl) rfl bJ) ?_
  refine tr1 rfl (aJ (v := .d (.lit (.int .i64 x14))) (aA rfl) rfl rfl) ?_
  refine aF ?_
  refine aE ?_
  refine aE ?_
  refine aC ?_
  refine tr1 rfl (aJ (v := .d (.lit (.bool true))) (aA rfl) rfl rfl) ?_
  refine aF ?_
  refine cD ?_
  refine dI [2, 6, 8, 10] (fun (s16 : Int × Int × Bool × (List Int) × Value) => [(7, .d (.lit s16.2.2.2.2)), (9, .d (.lit (.int .i64 s16.1))), (11, .d (.lit (.int .i64 s16.2.1))), (12, .d (.lit (.bool s16.2.2.1)))]) (fun (s16 : Int × Int × Bool × (List Int) × Value) => [.box b1 0 (aQ t_0), .arr w10 3 1 (out_0_9.map aN), .arr s16.2.2.2.2 3 1 (s16.2.2.2.1.map aN)]) (fun (k : Nat) (s16 : Int × Int × Bool × (List Int) × Value) => eT (dO r2 t_0 k12) r2 i_0_9 t_0 out_0_9 k s16.1 s16.2.1 s16.2.2.1 s16.2.2.2.1) (fun _ => rfl) (used_0_9, x14, true, o18_0_9, w11) h (bF [0, 1, 2] rfl rfl (aU rfl (aU rfl (aU rfl (aU rfl (bB ⟨rfl, rfl, rfl, rfl, trivial⟩)))))) ?_
  rintro k18 ⟨used_2_16, now_2_16, again_2_16, o18_2_16, w17⟩ h
  simp only [eT] at h
  refine aE ?_
  refine aE ?_
  refine aC ?_
  refine tr1 rfl (aD (v := .d (.lit (.bool again_2_16))) (aA rfl) rfl rfl) ?_
  refine aF ?_
  refine bT rfl (fun c19 => ?_) (fun c19 => ?_)
  ·have h := aZ c19 h
   refine bR ?_
   refine cD ?_
   refine aE ?_
   refine aC ?_
   refine tr1 rfl (aJ (v := .d (.lit (.bool false))) (aA rfl) rfl rfl) ?_
   refine aF ?_
   refine aE ?_
   refine aC ?_
   refine tr1 rfl (jK 3 1 (.inl rfl) (aA rfl)) ?_
   refine aF ?_
   refine aE ?_
   refine aE ?_
   refine aC ?_
   refine tr1 rfl (aJ (v := .d (.lit (.int .i64 0))) (aA rfl) rfl rfl) ?_
   refine aF ?_
   refine cD ?_
   refine dI [2, 6, 7, 8, 9, 10, 11, 12] (fun (s21 : Int × (List Int) × Value) => [(13, .d (.lit s21.2.2)), (14, .d (.lit (.int .i64 s21.1)))]) (fun (s21 : Int × (List Int) × Value) => [.box b1 0 (aQ t_0), .arr w10 3 1 (out_0_9.map aN), .arr s21.2.2 3 1 (s21.2.1.map aN), .arr w17 3 1 (o18_2_16.map aN)]) (fun (k : Nat) (s21 : Int × (List Int) × Value) => eC (dO r2 t_0 k12) (eT (dO r2 t_0 k12) r2 i_0_9 t_0 out_0_9 k18) r2 used_2_16 i_0_9 now_2_16 false t_0 out_0_9 o18_2_16 k s21.1 s21.2.1) (fun _ => rfl) (0, ([] : List Int), (.slice none 0 0)) h (bF [0, 1, 3, 2] rfl rfl (aU rfl (aU rfl (bB ⟨rfl, rfl, rfl, rfl, rfl, rfl, rfl, rfl, trivial⟩)))) ?_
   rintro k23 ⟨k_4_21, nextv_4_21, w22⟩ h
   simp only [eC] at h
   refine aE ?_
   refine aE ?_
   refine aC ?_
   refine tr1 rfl (aD (v := .d (.lit (.int .i64 k_4_21))) (aA rfl) rfl rfl) ?_
   refine tr1 rfl (aD (v := .d (.sl 5 (r2.map aL))) (aA rfl) rfl rfl) ?_
   refine tr1 rfl (eB (aA rfl) rfl gT.of) ?_
   refine tr1 rfl (bI (aA rfl) rfl rfl rfl) ?_
   refine aF ?_
   refine bT rfl (fun c24 => ?_) (fun c24 => ?_)
   ·have h := aZ c24 h
    refine bR ?_
    refine aE ?_
    refine cD ?_
    refine aE ?_
    refine aC ?_
    refine tr1 rfl (aD (v := .d (.sl 5 (r2.map aL))) (aA rfl) rfl rfl) ?_
    refine tr1 rfl (aD (v := .d (.lit (.int .i64 k_4_21))) (aA rfl) rfl rfl) ?_
    obtain ⟨x25, h26, h⟩ := bind_some h
    refine tr1 rfl (bQ (aA rfl) rfl rfl gT.of (bU aL h26)) ?_
    refine tr1 rfl (cY (aA rfl) rfl nK (es := [.lit (.int .i64 x25.Kind)]) rfl) ?_
    refine tr1 rfl (bP (aA rfl) rfl bJ) ?_
    refine tr1 rfl (bI (aA rfl) rfl rfl rfl) ?_
    refine tr1 rfl (aD (v := .d (.lit (.bool ((decide (x25.Kind = 5)))))) (aA rfl) rfl rfl) ?_
    obtain ⟨b27, h28, h⟩ := bind_some h
    refine cF 8 [2, 6, 7, 8, 9, 10, 11, 12, 13, 14] 55 b27 ?_ ?_
    ·refine bN (decide (x25.Kind = 5)) (fun c40 => ?_) (fun c40 => ?_)
     ·have h28 := aZ c40 h28
      refine aM rfl rfl (aA rfl) rfl c40 (aD (v := .d (.sl 5 (r2.map aL))) (aA rfl) rfl rfl) ?_
      refine aM rfl rfl (aA rfl) rfl c40 (aD (v := .d (.lit (.int .i64 k_4_21))) (aA rfl) rfl rfl) ?_
      obtain ⟨x41, h42, h28⟩ := bind_some h28
      refine aM rfl rfl (aA rfl) rfl c40 (bQ (aA rfl) rfl rfl gT.of (bU aL h42)) ?_
      refine aM rfl rfl (aA rfl) rfl c40 (cY (aA rfl) rfl iQ (es := [.lit (.int .i64 x41.Place)]) rfl) ?_
      refine aM rfl rfl (aA rfl) rfl c40 (bP (aA rfl) rfl bJ) ?_
      refine aM rfl rfl (aA rfl) rfl c40 (aD (v := .d (.lit (.int .i64 i_0_9))) (aA rfl) rfl rfl) ?_
      refine aM rfl rfl (aA rfl) rfl c40 (bI (aA rfl) rfl rfl rfl) ?_
      refine tr1 rfl (bW (v := .d (.lit (.bool ((decide (x41.Place = i_0_9)))))) (aA rfl) rfl c40 rfl rfl) ?_
      have h28 := Option.some.inj h28
      subst h28
      refine aF (bE rfl ⟨rfl, rfl, rfl, rfl, rfl, rfl, rfl, rfl, rfl, rfl, trivial⟩ rfl)
     ·have h28 := aY c40 h28
      refine aP rfl rfl (aA rfl) rfl (aA rfl) rfl c40 ?_
      refine aP rfl rfl (aA rfl) rfl (aA rfl) rfl c40 ?_
      refine aP rfl rfl (aA rfl) rfl (aA rfl) rfl c40 ?_
      refine aP rfl rfl (aA rfl) rfl (aA rfl) rfl c40 ?_
      refine aP rfl rfl (aA rfl) rfl (aA rfl) rfl c40 ?_
      refine aP rfl rfl (aA rfl) rfl (aA rfl) rfl c40 ?_
      refine aP rfl rfl (aA rfl) rfl (aA rfl) rfl c40 ?_
      refine tr1 rfl (bX (v := .d (.lit (.bool false))) (aA rfl) rfl c40 rfl rfl) ?_
      have h28 := Option.some.inj h28
      subst h28
      refine aF (bE rfl ⟨rfl, rfl, rfl, rfl, rfl, rfl, rfl, rfl, rfl, rfl, trivial⟩ rfl)
    ·refine tr1 rfl (aD (v := .d (.lit (.bool b27))) (aA rfl) rfl rfl) ?_
     obtain ⟨b29, h30, h⟩ := bind_some h
     refine cF 8 [2, 6, 7, 8, 9, 10, 11, 12, 13, 14] 64 b29 ?_ ?_
     ·refine bN (b27) (fun c37 => ?_) (fun c37 => ?_)
      ·have h30 := aZ c37 h30
       refine aM rfl rfl (aA rfl) rfl c37 (aD (v := .d (.sl 5 (r2.map aL))) (aA rfl) rfl rfl) ?_
       refine aM rfl rfl (aA rfl) rfl c37 (aD (v := .d (.lit (.int .i64 k_4_21))) (aA rfl) rfl rfl) ?_
       obtain ⟨x38, h39, h30⟩ := bind_some h30
       refine aM rfl rfl (aA rfl) rfl c37 (bQ (aA rfl) rfl rfl gT.of (bU aL h39)) ?_
       refine aM rfl rfl (aA rfl) rfl c37 (cY (aA rfl) rfl rL (es := [.lit (.int .i64 x38.Old)]) rfl) ?_
       refine aM rfl rfl (aA rfl) rfl c37 (bP (aA rfl) rfl bJ) ?_
       refine aM rfl rfl (aA rfl) rfl c37 (aD (v := .d (.lit (.int .i64 now_2_16))) (aA rfl) rfl rfl) ?_
       refine aM rfl rfl (aA rfl) rfl c37 (bI (aA rfl) rfl rfl rfl) ?_
       refine tr1 rfl (bW (v := .d (.lit (.bool ((decide (x38.Old = now_2_16)))))) (aA rfl) rfl c37 rfl rfl) ?_
       have h30 := Option.some.inj h30
       subst h30
       refine aF (bE rfl ⟨rfl, rfl, rfl, rfl, rfl, rfl, rfl, rfl, rfl, rfl, trivial⟩ rfl)
      ·have h30 := aY c37 h30
       refine aP rfl rfl (aA rfl) rfl (aA rfl) rfl c37 ?_
       refine aP rfl rfl (aA rfl) rfl (aA rfl) rfl c37 ?_
       refine aP rfl rfl (aA rfl) rfl (aA rfl) rfl c37 ?_
       refine aP rfl rfl (aA rfl) rfl (aA rfl) rfl c37 ?_
       refine aP rfl rfl (aA rfl) rfl (aA rfl) rfl c37 ?_
       refine aP rfl rfl (aA rfl) rfl (aA rfl) rfl c37 ?_
       refine aP rfl rfl (aA rfl) rfl (aA rfl) rfl c37 ?_
       refine tr1 rfl (bX (v := .d (.lit (.bool false))) (aA rfl) rfl c37 rfl rfl) ?_
       have h30 := Option.some.inj h30
       subst h30
       refine aF (bE rfl ⟨rfl, rfl, rfl, rfl, rfl, rfl, rfl, rfl, rfl, rfl, trivial⟩ rfl)
     ·refine aF ?_
      refine bT rfl (fun c31 => ?_) (fun c31 => ?_)
      ·have h := aZ c31 h
       refine aC ?_
       refine tr1 rfl (aD (v := .d (.lit w22)) (aA rfl) rfl rfl) ?_
       refine tr1 rfl (aD (v := .d (.sl 5 (r2.map aL))) (aA rfl) rfl rfl) ?_
       refine tr1 rfl (aD (v := .d (.lit (.int .i64 k_4_21))) (aA rfl) rfl rfl) ?_
       obtain ⟨x32, h33, h⟩ := bind_some h
       refine tr1 rfl (bQ (aA rfl) rfl rfl gT.of (bU aL h33)) ?_
       refine tr1 rfl (cY (aA rfl) rfl mH (es := [.lit (.int .i64 x32.Player)]) rfl) ?_
       refine tr1 rfl (bP (aA rfl) rfl bJ) ?_
       refine tr1 rfl (fQ (aA rfl) bS rfl rfl (rows := ([x32.Player]).map aN) rfl (dG (f := aN) fun _ => rfl) rfl (by decide)) ?_
       obtain ⟨x34, h35, h⟩ := bind_some h
       refine bV rfl (fZ (i := 2) (aA rfl) bS rfl rfl rfl (fun _ => rfl) h35 rfl) ?_
       rintro _ ⟨v36, rfl⟩
       refine tr1 rfl (aJ (v := .d (.lit v36)) (aA rfl) rfl rfl) ?_
       refine eV ?_
       refine aC ?_
       refine tr1 rfl (aD (v := .d (.lit (.int .i64 k_4_21))) (aA rfl) rfl rfl) ?_
       refine tr1 rfl (bO (aA rfl) rfl rfl rfl) ?_
       refine tr1 rfl (aJ (v := .d (.lit (.int .i64 ((w64 (k_4_21 + 1)))))) (aA rfl) rfl rfl) ?_
       refine aF ?_
       exact ⟨(w64 (k_4_21 + 1), x34, v36), h, bF [0, 1, 2, 3] rfl rfl (aU rfl (aU rfl (bB ⟨rfl, rfl, rfl, rfl, rfl, rfl, rfl, rfl, trivial⟩)))⟩
      ·have h := aY c31 h
       refine eF ?_
       refine aC ?_
       refine tr1 rfl (aD (v := .d (.lit (.int .i64 k_4_21))) (aA rfl) rfl rfl) ?_
       refine tr1 rfl (bO (aA rfl) rfl rfl rfl) ?_
       refine tr1 rfl (aJ (v := .d (.lit (.int .i64 ((w64 (k_4_21 + 1)))))) (aA rfl) rfl rfl) ?_
       refine aF ?_
       exact ⟨(w64 (k_4_21 + 1), nextv_4_21, w22), h, bF [0, 1, 2, 3] rfl rfl (aU rfl (aU rfl (bB ⟨rfl, rfl, rfl, rfl, rfl, rfl, rfl, rfl, trivial⟩)))⟩
   ·have h := aY c24 h
    refine cX ?_
    refine .inl ⟨rfl, ?_⟩
    simp only [iU] at h
    refine aE ?_
    refine aE ?_
    refine aC ?_
    refine tr1 rfl (aD (v := .d (.lit w22)) (aA rfl) rfl rfl) ?_
    refine tr1 rfl (nO (m := 2) (aA rfl) rfl rfl bS.of) ?_
    refine tr1 rfl (bI (aA rfl) rfl rfl rfl) ?_
    refine tr1 rfl (aD (v := .d (.lit (.bool ((decide (1 < (nextv_4_21.length : Int))))))) (aA rfl) rfl rfl) ?_
    obtain ⟨b43, h44, h⟩ := bind_some h
    refine cF 11 [2, 6, 7, 8, 9, 10, 11, 12, 13] 87 b43 ?_ ?_
    ·refine bN (decide (1 < (nextv_4_21.length : Int))) (fun c52 => ?_) (fun c52 => ?_)
     ·have h44 := aZ c52 h44
      refine aP rfl rfl (aA rfl) rfl (aA rfl) rfl c52 ?_
      refine aP rfl rfl (aA rfl) rfl (aA rfl) rfl c52 ?_
      refine aP rfl rfl (aA rfl) rfl (aA rfl) rfl c52 ?_
      refine aP rfl rfl (aA rfl) rfl (aA rfl) rfl c52 ?_
      refine dY rfl rfl (aA rfl) rfl (aA rfl) rfl ?_
      refine dY rfl rfl (aA rfl) rfl (aA rfl) rfl ?_
      refine dY rfl rfl (aA rfl) rfl (aA rfl) rfl ?_
      refine dY rfl rfl (aA rfl) rfl (aA rfl) rfl ?_
      refine dY rfl rfl (aA rfl) rfl (aA rfl) rfl ?_
      refine aP rfl rfl (aA rfl) rfl (aA rfl) rfl c52 ?_
      refine tr1 rfl (bW (v := .d (.lit (.bool true))) (aA rfl) rfl c52 rfl rfl) ?_
      have h44 := Option.some.inj h44
      subst h44
      refine aF (bE rfl ⟨rfl, rfl, rfl, rfl, rfl, rfl, rfl, rfl, rfl, trivial⟩ rfl)
     ·have h44 := aY c52 h44
      refine aM rfl rfl (aA rfl) rfl c52 (aD (v := .d (.lit w22)) (aA rfl) rfl rfl) ?_
      refine aM rfl rfl (aA rfl) rfl c52 (nO (m := 2) (aA rfl) rfl rfl bS.of) ?_
      refine aM rfl rfl (aA rfl) rfl c52 (bI (aA rfl) rfl rfl rfl) ?_
      refine aM rfl rfl (aA rfl) rfl c52 (aD (v := .d (.lit (.bool ((decide ((nextv_4_21.length : Int) = 1)))))) (aA rfl) rfl rfl) ?_
      obtain ⟨b53, h54, h44⟩ := bind_some h44
      refine cF 6 [2, 6, 7, 8, 9, 10, 11, 12, 13, 76, 77, 78, 79, 80] 86 b53 ?_ ?_
      ·refine bN (decide ((nextv_4_21.length : Int) = 1)) (fun c55 => ?_) (fun c55 => ?_)
       ·have h54 := aZ c55 h54
        refine aM rfl rfl (aA rfl) rfl c55 (aD (v := .d (.lit w17)) (aA rfl) rfl rfl) ?_
        refine aM rfl rfl (aA rfl) rfl c55 (aD (v := .d (.lit w22)) (aA rfl) rfl rfl) ?_
        obtain ⟨x56, h57, h54⟩ := bind_some h54
        refine aM rfl rfl (aA rfl) rfl c55 (eY (m := 2) (aA rfl) rfl rfl rfl bS.of (bU aN h57)) ?_
        refine aM rfl rfl (aA rfl) rfl c55 (jJ (aA rfl) rfl (m := 2) rfl (mD aN h57) rfl bJ) ?_
        obtain ⟨r58, h59, h54⟩ := bind_some h54
        refine aM rfl rfl (aA rfl) rfl c55 (cH (aA rfl) (.func _ _ Try.call52) rfl rfl (.cons (.d (mA 3 rfl (dG (f := aN) fun _ => rfl))) (.cons (.same _) .nil)) (aAj _ _ h59) rfl) ?_
        refine aM rfl rfl (aA rfl) rfl c52 (bW (v := .d (.lit (.bool r58))) (aA rfl) rfl c55 rfl rfl) ?_
        have h54 := Option.some.inj h54
        subst h54
        refine aF (bE rfl ⟨rfl, rfl, rfl, rfl, rfl, rfl, rfl, rfl, rfl, rfl, rfl, rfl, rfl, rfl, trivial⟩ rfl)
       ·have h54 := aY c55 h54
        refine aP rfl rfl (aA rfl) rfl (aA rfl) rfl c55 ?_
        refine aP rfl rfl (aA rfl) rfl (aA rfl) rfl c55 ?_
        refine aP rfl rfl (aA rfl) rfl (aA rfl) rfl c55 ?_
        refine aP rfl rfl (aA rfl) rfl (aA rfl) rfl c55 ?_
        refine aP rfl rfl (aA rfl) rfl (aA rfl) rfl c55 ?_
        refine aM rfl rfl (aA rfl) rfl c52 (bX (v := .d (.lit (.bool false))) (aA rfl) rfl c55 rfl rfl) ?_
        have h54 := Option.some.inj h54
        subst h54
        refine aF (bE rfl ⟨rfl, rfl, rfl, rfl, rfl, rfl, rfl, rfl, rfl, rfl, rfl, rfl, rfl, rfl, trivial⟩ rfl)
      ·refine tr1 rfl (bX (v := .d (.lit (.bool b53))) (aA rfl) rfl c52 rfl rfl) ?_
       have h44 := Option.some.inj h44
       subst h44
       refine aF (bE rfl ⟨rfl, rfl, rfl, rfl, rfl, rfl, rfl, rfl, rfl, trivial⟩ rfl)
    ·refine aF ?_
     refine bT rfl (fun c45 => ?_) (fun c45 => ?_)
     ·have h := aZ c45 h
      refine aE ?_
      refine aC ?_
      refine tr1 rfl (qW 1 (aA rfl)) ?_
      refine tr1 rfl (aJ (v := .d (.lit (.bool false))) (aA rfl) rfl rfl) ?_
      refine aF ?_
      have h := Option.some.inj h
      subst h
      refine cL (cG (cK (l := [4, 5]) ⟨rfl, rfl, trivial⟩)) ?_
      exact bM ⟨rfl, _, .two _ _, rfl, rfl⟩
     ·have h := aY c45 h
      refine bR ?_
      refine aE ?_
      refine aC ?_
      refine tr1 rfl (aD (v := .d (.lit w22)) (aA rfl) rfl rfl) ?_
      refine tr1 rfl (nO (m := 2) (aA rfl) rfl rfl bS.of) ?_
      refine tr1 rfl (bI (aA rfl) rfl rfl rfl) ?_
      refine aF ?_
      refine bT rfl (fun c46 => ?_) (fun c46 => ?_)
      ·have h := aZ c46 h
       refine aE ?_
       refine aC ?_
       refine tr1 rfl (aD (v := .d (.lit w22)) (aA rfl) rfl rfl) ?_
       obtain ⟨x47, h48, h⟩ := bind_some h
       refine tr1 rfl (eY (m := 2) (aA rfl) rfl rfl rfl bS.of (bU aN h48)) ?_
       refine tr1 rfl (jJ (aA rfl) rfl (m := 2) rfl (mD aN h48) rfl bJ) ?_
       refine tr1 rfl (aJ (v := .d (.lit (.int .i64 x47))) (aA rfl) rfl rfl) ?_
       refine aF ?_
       refine aE ?_
       refine aC ?_
       refine tr1 rfl (aD (v := .d (.lit w17)) (aA rfl) rfl rfl) ?_
       refine tr1 rfl (aD (v := .d (.lit (.int .i64 x47))) (aA rfl) rfl rfl) ?_
       refine tr1 rfl (fQ (aA rfl) bS rfl rfl (rows := ([x47]).map aN) rfl (dG (f := aN) fun _ => rfl) rfl (by decide)) ?_
       obtain ⟨x49, h50, h⟩ := bind_some h
       refine bV rfl (fZ (i := 3) (aA rfl) bS rfl rfl rfl (fun _ => rfl) h50 rfl) ?_
       rintro _ ⟨v51, rfl⟩
       refine tr1 rfl (aJ (v := .d (.lit v51)) (aA rfl) rfl rfl) ?_
       refine aF ?_
       refine aE ?_
       refine aC ?_
       refine tr1 rfl (aD (v := .d (.lit (.int .i64 used_2_16))) (aA rfl) rfl rfl) ?_
       refine tr1 rfl (bO (aA rfl) rfl rfl rfl) ?_
       refine tr1 rfl (aJ (v := .d (.lit (.int .i64 ((w64 (used_2_16 + 1)))))) (aA rfl) rfl rfl) ?_
       refine aF ?_
       refine aC ?_
       refine tr1 rfl (aJ (v := .d (.lit (.bool true))) (aA rfl) rfl rfl) ?_
       refine eV ?_
       simp only [gX] at h
       exact ⟨(w64 (used_2_16 + 1), x47, true, x49, v51), h, bF [0, 1, 3] rfl rfl (aU rfl (aU rfl (aU rfl (aU rfl (bB ⟨rfl, rfl, rfl, rfl, trivial⟩)))))⟩
      ·have h := aY c46 h
       refine eF ?_
       simp only [gX] at h
       exact ⟨(used_2_16, now_2_16, false, o18_2_16, w17), h, bF [0, 1, 3] rfl rfl (aU rfl (aU rfl (aU rfl (aU rfl (bB ⟨rfl, rfl, rfl, rfl, trivial⟩)))))⟩
  ·have h := aY c19 h
   refine cX ?_
   refine .inl ⟨rfl, ?_⟩
   simp only [kK] at h
   refine aC ?_
   refine tr1 rfl (aD (v := .d (.lit w10)) (aA rfl) rfl rfl) ?_
   refine tr1 rfl (aD (v := .d (.lit (.int .i64 now_2_16))) (aA rfl) rfl rfl) ?_
   refine tr1 rfl (fQ (aA rfl) bS rfl rfl (rows := ([now_2_16]).map aN) rfl (dG (f := aN) fun _ => rfl) rfl (by decide)) ?_
   obtain ⟨x60, h61, h⟩ := bind_some h
   refine bV rfl (fZ (i := 1) (aA rfl) bS rfl rfl rfl (fun _ => rfl) h61 rfl) ?_
   rintro _ ⟨v62, rfl⟩
   refine tr1 rfl (aJ (v := .d (.lit v62)) (aA rfl) rfl rfl) ?_
   refine eV ?_
   simp only [mS] at h
   refine aC ?_
   refine tr1 rfl (aD (v := .d (.lit (.int .i64 i_0_9))) (aA rfl) rfl rfl) ?_
   refine tr1 rfl (bO (aA rfl) rfl rfl rfl) ?_
   refine tr1 rfl (aJ (v := .d (.lit (.int .i64 ((w64 (i_0_9 + 1)))))) (aA rfl) rfl rfl) ?_
   refine aF ?_
   exact ⟨(used_2_16, w64 (i_0_9 + 1), x60, o18_2_16, v62, w17), h, bF [0, 1, 2] rfl rfl (aU rfl (aU rfl (aU rfl (aU rfl (bB ⟨rfl, rfl, trivial⟩)))))⟩
 ·have h := aY c13 h
  refine cX ?_
  refine .inl ⟨rfl, ?_⟩
  simp only [mR] at h
  refine aE ?_
  refine aE ?_
  refine aC ?_
  refine tr1 rfl (aJ (v := .d (.lit (.int .i64 0))) (aA rfl) rfl rfl) ?_
  refine aF ?_
  refine cD ?_
  refine dI [6, 8] (fun (s63 : Int × Int) => [(9, .d (.lit (.int .i64 s63.1))), (15, .d (.lit (.int .i64 s63.2)))]) (fun (s63 : Int × Int) => [.arr w10 3 1 (out_0_9.map aN)]) (fun (k : Nat) (s63 : Int × Int) => eD r2 out_0_9 k s63.1 s63.2) (fun _ => rfl) (used_0_9, 0) h (bF [1] rfl rfl (aU rfl (aU rfl (bB ⟨rfl, rfl, trivial⟩)))) ?_
  rintro k64 ⟨used_6_63, k_6_63⟩ h
  simp only [eD] at h
  refine aE ?_
  refine aE ?_
  refine aC ?_
  refine tr1 rfl (aD (v := .d (.lit (.int .i64 k_6_63))) (aA rfl) rfl rfl) ?_
  refine tr1 rfl (aD (v := .d (.sl 5 (r2.map aL))) (aA rfl) rfl rfl) ?_
  refine tr1 rfl (eB (aA rfl) rfl gT.of) ?_
  refine tr1 rfl (bI (aA rfl) rfl rfl rfl) ?_
  refine aF ?_
  refine bT rfl (fun c65 => ?_) (fun c65 => ?_)
  ·have h := aZ c65 h
   refine bR ?_
   refine aE ?_
   refine cD ?_
   refine aE ?_
   refine aC ?_
   refine tr1 rfl (aD (v := .d (.sl 5 (r2.map aL))) (aA rfl) rfl rfl) ?_
   refine tr1 rfl (aD (v := .d (.lit (.int .i64 k_6_63))) (aA rfl) rfl rfl) ?_
   obtain ⟨x66, h67, h⟩ := bind_some h
   refine tr1 rfl (bQ (aA rfl) rfl rfl gT.of (bU aL h67)) ?_
   refine tr1 rfl (cY (aA rfl) rfl nK (es := [.lit (.int .i64 x66.Kind)]) rfl) ?_
   refine tr1 rfl (bP (aA rfl) rfl bJ) ?_
   refine tr1 rfl (bI (aA rfl) rfl rfl rfl) ?_
   refine aF ?_
   refine bT rfl (fun c68 => ?_) (fun c68 => ?_)
   ·have h := aZ c68 h
    refine aC ?_
    refine tr1 rfl (aD (v := .d (.lit (.int .i64 used_6_63))) (aA rfl) rfl rfl) ?_
    refine tr1 rfl (bO (aA rfl) rfl rfl rfl) ?_
    refine tr1 rfl (aJ (v := .d (.lit (.int .i64 ((w64 (used_6_63 - 1)))))) (aA rfl) rfl rfl) ?_
    refine eV ?_
    refine aC ?_
    refine tr1 rfl (aD (v := .d (.lit (.int .i64 k_6_63))) (aA rfl) rfl rfl) ?_
    refine tr1 rfl (bO (aA rfl) rfl rfl rfl) ?_
    refine tr1 rfl (aJ (v := .d (.lit (.int .i64 ((w64 (k_6_63 + 1)))))) (aA rfl) rfl rfl) ?_
    refine aF ?_
    exact ⟨(w64 (used_6_63 - 1), w64 (k_6_63 + 1)), h, bF [0] rfl rfl (aU rfl (aU rfl (bB ⟨rfl, rfl, trivial⟩)))⟩
   ·have h := aY c68 h
    refine eF ?_
    refine aC ?_
    refine tr1 rfl (aD (v := .d (.lit (.int .i64 k_6_63))) (aA rfl) rfl rfl) ?_
    refine tr1 rfl (bO (aA rfl) rfl rfl rfl) ?_
    refine tr1 rfl (aJ (v := .d (.lit (.int .i64 ((w64 (k_6_63 + 1)))))) (aA rfl) rfl rfl) ?_
    refine aF ?_
    exact ⟨(used_6_63, w64 (k_6_63 + 1)), h, bF [0] rfl rfl (aU rfl (aU rfl (bB ⟨rfl, rfl, trivial⟩)))⟩
  ·have h := aY c65 h
   refine cX ?_
   refine .inl ⟨rfl, ?_⟩
   simp only [mT] at h
   refine aE ?_
   refine aC ?_
   refine tr1 rfl (aD (v := .d (.lit w10)) (aA rfl) rfl rfl) ?_
   refine tr1 rfl (aD (v := .d (.lit (.int .i64 used_6_63))) (aA rfl) rfl rfl) ?_
   refine tr1 rfl (bI (aA rfl) rfl rfl rfl) ?_
   refine tr1 rfl (aJ (v := .d (.lit w10)) (aA rfl) rfl rfl) ?_
   refine tr1 rfl (aJ (v := .d (.lit (.bool ((decide (used_6_63 = 0)))))) (aA rfl) rfl rfl) ?_
   refine aF ?_
   have h := Option.some.inj h
   subst h
   refine cL (cG (sZ (k := 5) (v := .d (.lit (.bool ((decide (used_6_63 = 0)))))) (.same _) (sZ (k := 4) (v := .d (.sl 1 (out_0_9.map aN))) (.d (mA 0 rfl (dG (f := aN) fun _ => rfl))) (aBi)))) ?_
   exact bM ⟨rfl, _, .two _ _, rfl, rfl⟩

theorem kS (t_0 : aO) (l_1 : List aG) {r : aR × Bool} (h : dA t_0 l_1 = some r) : Fn Try.prog 55 [.agg (aQ t_0), .d (.sl 5 (l_1.map aL))] (.tup [.agg (bC r.1), .d (.lit (.bool r.2))]) := by
 unfold dA at h
 refine nQ Try.func55 rfl (rs := [.cell 4 89, .tmp 5]) Try.results55 Try.ntmps55 (Nat.le_of_ble_eq_true rfl) ?_
 refine aE ?_
 refine aC ?_
 refine bV rfl (eH (v := .agg (aQ t_0)) (aA rfl) rfl rfl rfl) ?_
 rintro _ ⟨b1, rfl⟩
 refine bV rfl (dJ (zs := [.sl 1 ((([] : List Int)).map aN), .sl 1 ((([] : List (List Int))).map eL)]) (aA rfl) Try.zeroValue89 rfl rfl) ?_
 rintro _ ⟨b2, rfl⟩
 refine tr1 rfl (aJ (v := .d (.lit (.bool false))) (aA rfl) rfl rfl) ?_
 refine aF ?_
 refine aE ?_
 refine aC ?_
 refine tr1 rfl (bH (aA rfl) rfl (i := 0) rfl cV (es := (aQ t_0)) rfl rfl) ?_
 refine tr1 rfl (aD (v := .d (.sl 5 (l_1.map aL))) (aA rfl) rfl rfl) ?_
 obtain ⟨r3, h4, h⟩ := bind_some h
 refine tr1 rfl (eN (aA rfl) (.func _ _ Try.call18) rfl rfl (vH _ _ h4)) ?_
 refine tr1 rfl (aD (v := .tup [.d (.sl 1 (r3.1.map aN)), .d (.lit (.bool r3.2))]) (aA rfl) rfl rfl) ?_
 refine tr1 rfl (bL (aA rfl) rfl rfl) ?_
 refine tr1 rfl (bL (aA rfl) rfl rfl) ?_
 refine tr1 rfl (aJ (v := .d (.sl 1 (r3.1.map aN))) (aA rfl) rfl rfl) ?_
 refine tr1 rfl (aJ (v := .d (.lit (.bool r3.2))) (aA rfl) rfl rfl) ?_
 refine aF ?_
 refine aE ?_
 refine aE ?_
 refine aC ?_
 refine tr1 rfl (aD (v := .d (.lit (.bool r3.2))) (aA rfl) rfl rfl) ?_
 refine tr1 rfl (fU (aA rfl) rfl) ?_
 refine aF ?_
 refine bT rfl (fun c5 => ?_) (fun c5 => ?_)
 ·have h := aZ c5 h
  refine aE ?_
  refine aC ?_
  refine tr1 rfl (eE (aA rfl) yB (zs := [.sl 1 ((([] : List Int)).map aN), .sl 1 ((([] : List (List Int))).map eL)]) rfl rfl rfl rfl (es := [.sl 1 ((([] : List Int)).map aN), .sl 1 ((([] : List (List Int))).map eL)]) rfl) ?_
  refine tr1 rfl (cB (i := 1) rfl rfl rfl rfl rfl Try.sizeOf89 rfl (aA rfl) (Nat.le_of_ble_eq_true rfl) (ds' := (bC (aR.mk ([] : List Int) ([] : List (List Int))))) rfl) ?_
  refine tr1 rfl (aJ (v := .d (.lit (.bool false))) (aA rfl) rfl rfl) ?_
  refine aF ?_
  have h := Option.some.inj h
  subst h
  exact bM ⟨rfl, _, [.box b1 0 (aQ t_0), .box b2 0 (bC (aR.mk ([] : List Int) ([] : List (List Int))))], .two (.cell 4 89 rfl (i := 1) rfl lU (es := (bC (aR.mk ([] : List Int) ([] : List (List Int))))) rfl rfl) (.tmp 5 (v := .d (.lit (.bool false))) rfl), .refl _, .same _⟩
 ·have h := aY c5 h
  refine bR ?_
  refine aE ?_
  refine aC ?_
  refine tr1 rfl (aD (v := .d (.sl 1 (r3.1.map aN))) (aA rfl) rfl rfl) ?_
  refine tr1 rfl (eE (aA rfl) yB (zs := [.sl 1 ((([] : List Int)).map aN), .lit (.slice none 0 0)]) rfl rfl rfl rfl (es := [.sl 1 (r3.1.map aN), .lit (.slice none 0 0)]) rfl) ?_
  refine bV rfl (dJ (zs := [.sl 1 ((([] : List Int)).map aN), .lit (.slice none 0 0)]) (aA rfl) Try.zeroValue89 rfl rfl) ?_
  rintro _ ⟨b6, rfl⟩
  refine kN (aAk 22 1) ?_
  refine kN (aGq 3 1) ?_
  refine tr1 rfl (cB (i := 2) rfl rfl rfl rfl rfl Try.sizeOf89 rfl (aA rfl) (Nat.le_of_ble_eq_true rfl) (ds' := [.sl 1 (r3.1.map aN), .lit (.slice none 0 0)]) rfl) ?_
  refine aF ?_
  refine aE ?_
  refine aE ?_
  refine aC ?_
  refine tr1 rfl (aJ (v := .d (.lit (.int .i64 0))) (aA rfl) rfl rfl) ?_
  refine aF ?_
  refine cD ?_
  refine dI [1, 2, 4, 6, 8] (fun (s7 : Int × (List (List Int)) × (List Int) × (List Value) × Value) => [(9, .d (.lit (.int .i64 s7.1)))]) (fun (s7 : Int × (List (List Int)) × (List Int) × (List Value) × Value) => [.box b1 0 (aQ t_0), .box b2 0 (bC (aR.mk ([] : List Int) ([] : List (List Int)))), .fam 3 1 s7.2.2.2.1 (s7.2.1.map fun r => r.map aN), .arr s7.2.2.2.2 22 1 (s7.2.2.2.1.map fun v => [.lit v]), .box b6 0 [.sl 1 (s7.2.2.1.map aN), .lit s7.2.2.2.2]]) (fun (k : Nat) (s7 : Int × (List (List Int)) × (List Int) × (List Value) × Value) => fF l_1 r3.1 t_0 (aR.mk ([] : List Int) ([] : List (List Int))) k s7.1 s7.2.1 s7.2.2.1) (fun _ => rfl) (0, ([] : List (List Int)), r3.1, [], (.slice none 0 0)) h (bF [0, 1, 4, 3, 2] rfl rfl (aU rfl (bB ⟨rfl, rfl, rfl, rfl, rfl, trivial⟩))) ?_
  rintro k10 ⟨r_0_7, d_0_7, d_0_7_2, vs8, w9⟩ h
  simp only [fF] at h
  refine aE ?_
  refine aE ?_
  refine aC ?_
  refine tr1 rfl (aD (v := .d (.lit (.int .i64 r_0_7))) (aA rfl) rfl rfl) ?_
  refine tr1 rfl (aV (aA rfl) rfl fA) ?_
  refine tr1 rfl (aW (aA rfl) rfl (i := 0) rfl rfl bJ) ?_
  refine tr1 rfl (bI (aA rfl) rfl rfl rfl) ?_
  refine aF ?_
  refine bT rfl (fun c11 => ?_) (fun c11 => ?_)
  ·have h := aZ c11 h
   refine bR ?_
   refine aE ?_
   refine cD ?_
   refine aE ?_
   refine aC ?_
   refine tr1 rfl (jK 3 1 (.inl rfl) (aA rfl)) ?_
   refine aF ?_
   refine aE ?_
   refine aE ?_
   refine aC ?_
   refine tr1 rfl (aJ (v := .d (.lit (.int .i64 0))) (aA rfl) rfl rfl) ?_
   refine aF ?_
   refine cD ?_
   refine dI [1, 2, 4, 6, 8, 9] (fun (s13 : Int × (List Int) × Value) => [(10, .d (.lit s13.2.2)), (11, .d (.lit (.int .i64 s13.1)))]) (fun (s13 : Int × (List Int) × Value) => [.box b1 0 (aQ t_0), .box b2 0 (bC (aR.mk ([] : List Int) ([] : List (List Int)))), .fam 3 1 vs8 (d_0_7.map fun r => r.map aN), .arr w9 22 1 (vs8.map fun v => [.lit v]), .box b6 0 [.sl 1 (d_0_7_2.map aN), .lit w9], .arr s13.2.2 3 1 (s13.2.1.map aN)]) (fun (k : Nat) (s13 : Int × (List Int) × Value) => dS (fF l_1 r3.1 t_0 (aR.mk ([] : List Int) ([] : List (List Int))) k10) l_1 r3.1 r_0_7 t_0 (aR.mk ([] : List Int) ([] : List (List Int))) d_0_7 d_0_7_2 k s13.1 s13.2.1) (fun _ => rfl) (0, ([] : List Int), (.slice none 0 0)) h (bF [0, 1, 2, 3, 4, 5] rfl rfl (aU rfl (aU rfl (bB ⟨rfl, rfl, rfl, rfl, rfl, rfl, trivial⟩)))) ?_
   rintro k15 ⟨p_2_13, row_2_13, w14⟩ h
   simp only [dS] at h
   refine aE ?_
   refine aE ?_
   refine aC ?_
   refine tr1 rfl (aD (v := .d (.lit (.int .i64 p_2_13))) (aA rfl) rfl rfl) ?_
   refine tr1 rfl (bH (aA rfl) rfl (i := 0) rfl cV (es := (aQ t_0)) rfl rfl) ?_
   refine tr1 rfl (aD (v := .d (.lit (.int .i64 r_0_7))) (aA rfl) rfl rfl) ?_
   obtain ⟨r16, h17, h⟩ := bind_some h
   refine tr1 rfl (cH (aA rfl) (.func _ _ Try.call42) rfl rfl (BVs.refl _ _) (rD _ _ h17) rfl) ?_
   refine tr1 rfl (bI (aA rfl) rfl rfl rfl) ?_
   refine aF ?_
   refine bT rfl (fun c18 => ?_) (fun c18 => ?_)
   ·have h := aZ c18 h
    refine bR ?_
    refine aE ?_
    refine cD ?_
    refine aE ?_
    refine aC ?_
    refine tr1 rfl (aJ (v := .d (.lit (.int .i64 (-2)))) (aA rfl) rfl rfl) ?_
    refine aF ?_
    refine aE ?_
    refine aE ?_
    refine aC ?_
    refine tr1 rfl (aD (v := .d (.lit (.int .i64 r_0_7))) (aA rfl) rfl rfl) ?_
    refine tr1 rfl (bI (aA rfl) rfl rfl rfl) ?_
    refine tr1 rfl (aD (v := .d (.lit (.bool ((decide (r_0_7 = 0)))))) (aA rfl) rfl rfl) ?_
    obtain ⟨b19, h20, h⟩ := bind_some h
    refine cF 7 [1, 2, 4, 6, 8, 9, 10, 11, 12] 55 b19 ?_ ?_
    ·refine bN (decide (r_0_7 = 0)) (fun c52 => ?_) (fun c52 => ?_)
     ·have h20 := aZ c52 h20
      refine aM rfl rfl (aA rfl) rfl c52 (aD (v := .d (.sl 1 (r3.1.map aN))) (aA rfl) rfl rfl) ?_
      refine aM rfl rfl (aA rfl) rfl c52 (aD (v := .d (.lit (.int .i64 p_2_13))) (aA rfl) rfl rfl) ?_
      refine aM rfl rfl (aA rfl) rfl c52 (bO (aA rfl) rfl rfl rfl) ?_
      obtain ⟨x53, h54, h20⟩ := bind_some h20
      refine aM rfl rfl (aA rfl) rfl c52 (bQ (aA rfl) rfl rfl bS.of (bU aN h54)) ?_
      refine aM rfl rfl (aA rfl) rfl c52 (bP (aA rfl) rfl bJ) ?_
      refine aM rfl rfl (aA rfl) rfl c52 (bI (aA rfl) rfl rfl rfl) ?_
      refine tr1 rfl (bW (v := .d (.lit (.bool ((decide (x53 = (-1))))))) (aA rfl) rfl c52 rfl rfl) ?_
      have h20 := Option.some.inj h20
      subst h20
      refine aF (bE rfl ⟨rfl, rfl, rfl, rfl, rfl, rfl, rfl, rfl, rfl, trivial⟩ rfl)
     ·have h20 := aY c52 h20
      refine aP rfl rfl (aA rfl) rfl (aA rfl) rfl c52 ?_
      refine aP rfl rfl (aA rfl) rfl (aA rfl) rfl c52 ?_
      refine aP rfl rfl (aA rfl) rfl (aA rfl) rfl c52 ?_
      refine aP rfl rfl (aA rfl) rfl (aA rfl) rfl c52 ?_
      refine aP rfl rfl (aA rfl) rfl (aA rfl) rfl c52 ?_
      refine aP rfl rfl (aA rfl) rfl (aA rfl) rfl c52 ?_
      refine tr1 rfl (bX (v := .d (.lit (.bool false))) (aA rfl) rfl c52 rfl rfl) ?_
      have h20 := Option.some.inj h20
      subst h20
      refine aF (bE rfl ⟨rfl, rfl, rfl, rfl, rfl, rfl, rfl, rfl, rfl, trivial⟩ rfl)
    ·refine aF ?_
     refine bT rfl (fun c21 => ?_) (fun c21 => ?_)
     ·have h := aZ c21 h
      refine aC ?_
      refine tr1 rfl (aD (v := .d (.sl 1 (r3.1.map aN))) (aA rfl) rfl rfl) ?_
      refine tr1 rfl (aD (v := .d (.lit (.int .i64 p_2_13))) (aA rfl) rfl rfl) ?_
      refine tr1 rfl (bO (aA rfl) rfl rfl rfl) ?_
      refine tr1 rfl (bO (aA rfl) rfl rfl rfl) ?_
      obtain ⟨x22, h23, h⟩ := bind_some h
      refine tr1 rfl (bQ (aA rfl) rfl rfl bS.of (bU aN h23)) ?_
      refine tr1 rfl (bP (aA rfl) rfl bJ) ?_
      refine tr1 rfl (aJ (v := .d (.lit (.int .i64 x22))) (aA rfl) rfl rfl) ?_
      refine aF ?_
      refine aE ?_
      refine aE ?_
      refine aC ?_
      refine tr1 rfl (aD (v := .d (.lit (.int .i64 r_0_7))) (aA rfl) rfl rfl) ?_
      refine tr1 rfl (bI (aA rfl) rfl rfl rfl) ?_
      refine tr1 rfl (aD (v := .d (.lit (.bool ((decide (r_0_7 = 0)))))) (aA rfl) rfl rfl) ?_
      obtain ⟨b24, h25, h⟩ := bind_some h
      refine cF 8 [1, 2, 4, 6, 8, 9, 10, 11, 12] 72 b24 ?_ ?_
      ·refine bN (decide (r_0_7 = 0)) (fun c35 => ?_) (fun c35 => ?_)
       ·have h25 := aZ c35 h25
        refine aM rfl rfl (aA rfl) rfl c35 (aD (v := .d (.sl 1 (r3.1.map aN))) (aA rfl) rfl rfl) ?_
        refine aM rfl rfl (aA rfl) rfl c35 (aD (v := .d (.lit (.int .i64 p_2_13))) (aA rfl) rfl rfl) ?_
        refine aM rfl rfl (aA rfl) rfl c35 (bO (aA rfl) rfl rfl rfl) ?_
        refine aM rfl rfl (aA rfl) rfl c35 (bO (aA rfl) rfl rfl rfl) ?_
        obtain ⟨x36, h37, h25⟩ := bind_some h25
        refine aM rfl rfl (aA rfl) rfl c35 (bQ (aA rfl) rfl rfl bS.of (bU aN h37)) ?_
        refine aM rfl rfl (aA rfl) rfl c35 (bP (aA rfl) rfl bJ) ?_
        refine aM rfl rfl (aA rfl) rfl c35 (bI (aA rfl) rfl rfl rfl) ?_
        refine tr1 rfl (bW (v := .d (.lit (.bool ((decide (x36 = (-1))))))) (aA rfl) rfl c35 rfl rfl) ?_
        have h25 := Option.some.inj h25
        subst h25
        refine aF (bE rfl ⟨rfl, rfl, rfl, rfl, rfl, rfl, rfl, rfl, rfl, trivial⟩ rfl)
       ·have h25 := aY c35 h25
        refine aP rfl rfl (aA rfl) rfl (aA rfl) rfl c35 ?_
        refine aP rfl rfl (aA rfl) rfl (aA rfl) rfl c35 ?_
        refine aP rfl rfl (aA rfl) rfl (aA rfl) rfl c35 ?_
        refine aP rfl rfl (aA rfl) rfl (aA rfl) rfl c35 ?_
        refine aP rfl rfl (aA rfl) rfl (aA rfl) rfl c35 ?_
        refine aP rfl rfl (aA rfl) rfl (aA rfl) rfl c35 ?_
        refine aP rfl rfl (aA rfl) rfl (aA rfl) rfl c35 ?_
        refine tr1 rfl (bX (v := .d (.lit (.bool false))) (aA rfl) rfl c35 rfl rfl) ?_
        have h25 := Option.some.inj h25
        subst h25
        refine aF (bE rfl ⟨rfl, rfl, rfl, rfl, rfl, rfl, rfl, rfl, rfl, trivial⟩ rfl)
      ·refine aF ?_
       refine bT rfl (fun c26 => ?_) (fun c26 => ?_)
       ·have h := aZ c26 h
        refine aC ?_
        refine tr1 rfl (aD (v := .d (.sl 1 (r3.1.map aN))) (aA rfl) rfl rfl) ?_
        refine tr1 rfl (aD (v := .d (.lit (.int .i64 p_2_13))) (aA rfl) rfl rfl) ?_
        refine tr1 rfl (bO (aA rfl) rfl rfl rfl) ?_
        obtain ⟨x27, h28, h⟩ := bind_some h
        refine tr1 rfl (bQ (aA rfl) rfl rfl bS.of (bU aN h28)) ?_
        refine tr1 rfl (bP (aA rfl) rfl bJ) ?_
        refine tr1 rfl (aJ (v := .d (.lit (.int .i64 x27))) (aA rfl) rfl rfl) ?_
        refine aF ?_
        refine aC ?_
        refine tr1 rfl (aD (v := .d (.lit w14)) (aA rfl) rfl rfl) ?_
        refine tr1 rfl (aD (v := .d (.lit (.int .i64 x27))) (aA rfl) rfl rfl) ?_
        refine tr1 rfl (fQ (aA rfl) bS rfl rfl (rows := ([x27]).map aN) rfl (dG (f := aN) fun _ => rfl) rfl (by decide)) ?_
        obtain ⟨x29, h30, h⟩ := bind_some h
        refine bV rfl (fZ (i := 5) (aA rfl) bS rfl rfl rfl (fun _ => rfl) h30 rfl) ?_
        rintro _ ⟨v31, rfl⟩
        refine tr1 rfl (aJ (v := .d (.lit v31)) (aA rfl) rfl rfl) ?_
        refine eV ?_
        refine aC ?_
        refine tr1 rfl (aD (v := .d (.lit (.int .i64 p_2_13))) (aA rfl) rfl rfl) ?_
        refine tr1 rfl (bO (aA rfl) rfl rfl rfl) ?_
        refine tr1 rfl (aJ (v := .d (.lit (.int .i64 ((w64 (p_2_13 + 1)))))) (aA rfl) rfl rfl) ?_
        refine aF ?_
        exact ⟨(w64 (p_2_13 + 1), x29, v31), h, bF [0, 1, 2, 3, 4, 5] rfl rfl (aU rfl (aU rfl (bB ⟨rfl, rfl, rfl, rfl, rfl, rfl, trivial⟩)))⟩
       ·have h := aY c26 h
        refine bR ?_
        refine aC ?_
        refine tr1 rfl (aD (v := .d (.lit w14)) (aA rfl) rfl rfl) ?_
        refine tr1 rfl (aD (v := .d (.lit (.int .i64 x22))) (aA rfl) rfl rfl) ?_
        refine tr1 rfl (fQ (aA rfl) bS rfl rfl (rows := ([x22]).map aN) rfl (dG (f := aN) fun _ => rfl) rfl (by decide)) ?_
        obtain ⟨x32, h33, h⟩ := bind_some h
        refine bV rfl (fZ (i := 5) (aA rfl) bS rfl rfl rfl (fun _ => rfl) h33 rfl) ?_
        rintro _ ⟨v34, rfl⟩
        refine tr1 rfl (aJ (v := .d (.lit v34)) (aA rfl) rfl rfl) ?_
        refine eV ?_
        refine aC ?_
        refine tr1 rfl (aD (v := .d (.lit (.int .i64 p_2_13))) (aA rfl) rfl rfl) ?_
        refine tr1 rfl (bO (aA rfl) rfl rfl rfl) ?_
        refine tr1 rfl (aJ (v := .d (.lit (.int .i64 ((w64 (p_2_13 + 1)))))) (aA rfl) rfl rfl) ?_
        refine aF ?_
        exact ⟨(w64 (p_2_13 + 1), x32, v34), h, bF [0, 1, 2, 3, 4, 5] rfl rfl (aU rfl (aU rfl (bB ⟨rfl, rfl, rfl, rfl, rfl, rfl, trivial⟩)))⟩
     ·have h := aY c21 h
      refine bR ?_
      refine aE ?_
      refine aE ?_
      refine aC ?_
      refine tr1 rfl (aD (v := .d (.lit (.int .i64 r_0_7))) (aA rfl) rfl rfl) ?_
      refine tr1 rfl (bI (aA rfl) rfl rfl rfl) ?_
      refine tr1 rfl (aD (v := .d (.lit (.bool ((decide (r_0_7 = 0)))))) (aA rfl) rfl rfl) ?_
      obtain ⟨b38, h39, h⟩ := bind_some h
      refine cF 8 [1, 2, 4, 6, 8, 9, 10, 11, 12] 72 b38 ?_ ?_
      ·refine bN (decide (r_0_7 = 0)) (fun c49 => ?_) (fun c49 => ?_)
       ·have h39 := aZ c49 h39
        refine aM rfl rfl (aA rfl) rfl c49 (aD (v := .d (.sl 1 (r3.1.map aN))) (aA rfl) rfl rfl) ?_
        refine aM rfl rfl (aA rfl) rfl c49 (aD (v := .d (.lit (.int .i64 p_2_13))) (aA rfl) rfl rfl) ?_
        refine aM rfl rfl (aA rfl) rfl c49 (bO (aA rfl) rfl rfl rfl) ?_
        refine aM rfl rfl (aA rfl) rfl c49 (bO (aA rfl) rfl rfl rfl) ?_
        obtain ⟨x50, h51, h39⟩ := bind_some h39
        refine aM rfl rfl (aA rfl) rfl c49 (bQ (aA rfl) rfl rfl bS.of (bU aN h51)) ?_
        refine aM rfl rfl (aA rfl) rfl c49 (bP (aA rfl) rfl bJ) ?_
        refine aM rfl rfl (aA rfl) rfl c49 (bI (aA rfl) rfl rfl rfl) ?_
        refine tr1 rfl (bW (v := .d (.lit (.bool ((decide (x50 = (-1))))))) (aA rfl) rfl c49 rfl rfl) ?_
        have h39 := Option.some.inj h39
        subst h39
        refine aF (bE rfl ⟨rfl, rfl, rfl, rfl, rfl, rfl, rfl, rfl, rfl, trivial⟩ rfl)
       ·have h39 := aY c49 h39
        refine aP rfl rfl (aA rfl) rfl (aA rfl) rfl c49 ?_
        refine aP rfl rfl (aA rfl) rfl (aA rfl) rfl c49 ?_
        refine aP rfl rfl (aA rfl) rfl (aA rfl) rfl c49 ?_
        refine aP rfl rfl (aA rfl) rfl (aA rfl) rfl c49 ?_
        refine aP rfl rfl (aA rfl) rfl (aA rfl) rfl c49 ?_
        refine aP rfl rfl (aA rfl) rfl (aA rfl) rfl c49 ?_
        refine aP rfl rfl (aA rfl) rfl (aA rfl) rfl c49 ?_
        refine tr1 rfl (bX (v := .d (.lit (.bool false))) (aA rfl) rfl c49 rfl rfl) ?_
        have h39 := Option.some.inj h39
        subst h39
        refine aF (bE rfl ⟨rfl, rfl, rfl, rfl, rfl, rfl, rfl, rfl, rfl, trivial⟩ rfl)
      ·refine aF ?_
       refine bT rfl (fun c40 => ?_) (fun c40 => ?_)
       ·have h := aZ c40 h
        refine aC ?_
        refine tr1 rfl (aD (v := .d (.sl 1 (r3.1.map aN))) (aA rfl) rfl rfl) ?_
        refine tr1 rfl (aD (v := .d (.lit (.int .i64 p_2_13))) (aA rfl) rfl rfl) ?_
        refine tr1 rfl (bO (aA rfl) rfl rfl rfl) ?_
        obtain ⟨x41, h42, h⟩ := bind_some h
        refine tr1 rfl (bQ (aA rfl) rfl rfl bS.of (bU aN h42)) ?_
        refine tr1 rfl (bP (aA rfl) rfl bJ) ?_
        refine tr1 rfl (aJ (v := .d (.lit (.int .i64 x41))) (aA rfl) rfl rfl) ?_
        refine aF ?_
        refine aC ?_
        refine tr1 rfl (aD (v := .d (.lit w14)) (aA rfl) rfl rfl) ?_
        refine tr1 rfl (aD (v := .d (.lit (.int .i64 x41))) (aA rfl) rfl rfl) ?_
        refine tr1 rfl (fQ (aA rfl) bS rfl rfl (rows := ([x41]).map aN) rfl (dG (f := aN) fun _ => rfl) rfl (by decide)) ?_
        obtain ⟨x43, h44, h⟩ := bind_some h
        refine bV rfl (fZ (i := 5) (aA rfl) bS rfl rfl rfl (fun _ => rfl) h44 rfl) ?_
        rintro _ ⟨v45, rfl⟩
        refine tr1 rfl (aJ (v := .d (.lit v45)) (aA rfl) rfl rfl) ?_
        refine eV ?_
        refine aC ?_
        refine tr1 rfl (aD (v := .d (.lit (.int .i64 p_2_13))) (aA rfl) rfl rfl) ?_
        refine tr1 rfl (bO (aA rfl) rfl rfl rfl) ?_
        refine tr1 rfl (aJ (v := .d (.lit (.int .i64 ((w64 (p_2_13 + 1)))))) (aA rfl) rfl rfl) ?_
        refine aF ?_
        exact ⟨(w64 (p_2_13 + 1), x43, v45), h, bF [0, 1, 2, 3, 4, 5] rfl rfl (aU rfl (aU rfl (bB ⟨rfl, rfl, rfl, rfl, rfl, rfl, trivial⟩)))⟩
       ·have h := aY c40 h
        refine bR ?_
        refine aC ?_
        refine tr1 rfl (aD (v := .d (.lit w14)) (aA rfl) rfl rfl) ?_
        refine tr1 rfl (aD (v := .d (.lit (.int .i64 (-2)))) (aA rfl) rfl rfl) ?_
        refine tr1 rfl (fQ (aA rfl) bS rfl rfl (rows := ([(-2)]).map aN) rfl (dG (f := aN) fun _ => rfl) rfl (by decide)) ?_
        obtain ⟨x46, h47, h⟩ := bind_some h
        refine bV rfl (fZ (i := 5) (aA rfl) bS rfl rfl rfl (fun _ => rfl) h47 rfl) ?_
        rintro _ ⟨v48, rfl⟩
        refine tr1 rfl (aJ (v := .d (.lit v48)) (aA rfl) rfl rfl) ?_
        refine eV ?_
        refine aC ?_
        refine tr1 rfl (aD (v := .d (.lit (.int .i64 p_2_13))) (aA rfl) rfl rfl) ?_
        refine tr1 rfl (bO (aA rfl) rfl rfl rfl) ?_
        refine tr1 rfl (aJ (v := .d (.lit (.int .i64 ((w64 (p_2_13 + 1)))))) (aA rfl) rfl rfl) ?_
        refine aF ?_
        exact ⟨(w64 (p_2_13 + 1), x46, v48), h, bF [0, 1, 2, 3, 4, 5] rfl rfl (aU rfl (aU rfl (bB ⟨rfl, rfl, rfl, rfl, rfl, rfl, trivial⟩)))⟩
   ·have h := aY c18 h
    refine cX ?_
    refine .inl ⟨rfl, ?_⟩
    simp only [iW] at h
    refine aC ?_
    refine tr1 rfl (aV (aA rfl) rfl kQ) ?_
    refine tr1 rfl (aW (aA rfl) rfl (i := 4) rfl rfl oU) ?_
    refine tr1 rfl (aD (v := .d (.lit w14)) (aA rfl) rfl rfl) ?_
    refine tr1 rfl (fQ (aA rfl) pS rfl rfl (rows := [[.lit w14]]) rfl (fun r hr => by cases hr with | head => rfl | tail _ h => cases h) rfl (by decide)) ?_
    obtain ⟨x55, h56, h⟩ := bind_some h
    refine bV rfl (aEl (m := 3) (f := 2) (aA rfl) pS rfl rfl rfl rfl h56 rfl) ?_
    rintro _ ⟨v57, rfl⟩
    refine kN (aFd (i := 2) [.box b1 0 (aQ t_0), .box b2 0 (bC (aR.mk ([] : List Int) ([] : List (List Int)))), .fam 3 1 vs8 (d_0_7.map fun r => r.map aN), .arr v57 22 1 ((vs8 ++ [w14]).map fun v => [.lit v]), .box b6 0 [.sl 1 (d_0_7_2.map aN), .lit w9]] [.box b1 0 (aQ t_0), .box b2 0 (bC (aR.mk ([] : List Int) ([] : List (List Int)))), .fam 3 1 (vs8 ++ [w14]) (x55.map fun r => r.map aN), .arr v57 22 1 ((vs8 ++ [w14]).map fun v => [.lit v]), .box b6 0 [.sl 1 (d_0_7_2.map aN), .lit w9]] rfl rfl h56 rfl) ?_
    refine tr1 rfl (aV (aA rfl) rfl kQ) ?_
    refine tr1 rfl (cB (i := 4) rfl rfl rfl rfl rfl Try.sizeOf53 rfl (aA rfl) (Nat.le_of_ble_eq_true rfl) (ds' := [.sl 1 (d_0_7_2.map aN), .lit v57]) rfl) ?_
    refine eV ?_
    simp only [oO] at h
    refine aC ?_
    refine tr1 rfl (aD (v := .d (.lit (.int .i64 r_0_7))) (aA rfl) rfl rfl) ?_
    refine tr1 rfl (bO (aA rfl) rfl rfl rfl) ?_
    refine tr1 rfl (aJ (v := .d (.lit (.int .i64 ((w64 (r_0_7 + 1)))))) (aA rfl) rfl rfl) ?_
    refine aF ?_
    exact ⟨(w64 (r_0_7 + 1), x55, d_0_7_2, (vs8 ++ [w14]), v57), h, bF [0, 1, 2, 3, 4] rfl rfl (aU rfl (bB ⟨rfl, rfl, rfl, rfl, rfl, trivial⟩))⟩
  ·have h := aY c11 h
   refine cX ?_
   refine .inl ⟨rfl, ?_⟩
   simp only [iV] at h
   refine aE ?_
   refine aC ?_
   refine tr1 rfl (aD (v := .d (.sl 5 (l_1.map aL))) (aA rfl) rfl rfl) ?_
   obtain ⟨r58, h59, h⟩ := bind_some h
   refine tr1 rfl (eN (aA rfl) (.func _ _ Try.call51) rfl rfl (sQ _ h59)) ?_
   refine tr1 rfl (aJ (v := .d (.sl 5 (r58.map aL))) (aA rfl) rfl rfl) ?_
   refine aF ?_
   refine aE ?_
   refine aE ?_
   refine aC ?_
   refine tr1 rfl (aJ (v := .d (.lit (.int .i64 0))) (aA rfl) rfl rfl) ?_
   refine aF ?_
   refine cD ?_
   refine dI [4, 6, 8, 13] (fun (s60 : Int × aR × (List (List Int)) × (List Value)) => [(14, .d (.lit (.int .i64 s60.1)))]) (fun (s60 : Int × aR × (List (List Int)) × (List Value)) => [.box b2 0 (bC s60.2.1), .fam 3 1 s60.2.2.2 (s60.2.2.1.map fun r => r.map aN), .arr w9 22 1 (s60.2.2.2.map fun v => [.lit v]), .box b6 0 [.sl 1 (d_0_7_2.map aN), .lit w9]]) (fun (k : Nat) (s60 : Int × aR × (List (List Int)) × (List Value)) => dE r3.1 r58 d_0_7_2 k s60.1 s60.2.1 s60.2.2.1) (fun _ => rfl) (0, (aR.mk ([] : List Int) ([] : List (List Int))), d_0_7, vs8) h (bF [1, 2, 3, 4] rfl rfl (aU rfl (bB ⟨rfl, rfl, rfl, rfl, trivial⟩))) ?_
   rintro k62 ⟨i_4_60, o4_4_60, d_4_60, vs61⟩ h
   simp only [dE] at h
   refine aE ?_
   refine aE ?_
   refine aC ?_
   refine tr1 rfl (aD (v := .d (.lit (.int .i64 i_4_60))) (aA rfl) rfl rfl) ?_
   refine tr1 rfl (aD (v := .d (.sl 5 (r58.map aL))) (aA rfl) rfl rfl) ?_
   refine tr1 rfl (eB (aA rfl) rfl gT.of) ?_
   refine tr1 rfl (bI (aA rfl) rfl rfl rfl) ?_
   refine aF ?_
   refine bT rfl (fun c63 => ?_) (fun c63 => ?_)
   ·have h := aZ c63 h
    refine bR ?_
    refine aE ?_
    refine cD ?_
    refine aE ?_
    refine aC ?_
    refine tr1 rfl (aD (v := .d (.sl 5 (r58.map aL))) (aA rfl) rfl rfl) ?_
    refine tr1 rfl (aD (v := .d (.lit (.int .i64 i_4_60))) (aA rfl) rfl rfl) ?_
    obtain ⟨x64, h65, h⟩ := bind_some h
    refine tr1 rfl (bQ (aA rfl) rfl rfl gT.of (bU aL h65)) ?_
    refine tr1 rfl (jW (aA rfl) rfl jP (es := (aL x64)) rfl rfl) ?_
    refine bV rfl (dJ (zs := [.lit (.int .i64 0), .lit (.int .i64 0), .lit (.int .i64 0), .lit (.int .i64 0), .lit (.int .i64 0)]) (aA rfl) Try.zeroValue32 rfl rfl) ?_
    rintro _ ⟨b66, rfl⟩
    refine tr1 rfl (cB (i := 4) rfl rfl rfl rfl rfl Try.sizeOf32 rfl (aA rfl) (Nat.le_of_ble_eq_true rfl) (ds' := (aL x64)) rfl) ?_
    refine aF ?_
    refine aE ?_
    refine aE ?_
    refine aC ?_
    refine tr1 rfl (aV (aA rfl) rfl nK) ?_
    refine tr1 rfl (aW (aA rfl) rfl (i := 4) rfl rfl bJ) ?_
    refine tr1 rfl (bI (aA rfl) rfl rfl rfl) ?_
    refine aF ?_
    refine bT rfl (fun c67 => ?_) (fun c67 => ?_)
    ·have h := aZ c67 h
     refine cX ?_
     refine .inl ⟨rfl, ?_⟩
     simp only [iX] at h
     refine aC ?_
     refine tr1 rfl (aD (v := .d (.lit (.int .i64 i_4_60))) (aA rfl) rfl rfl) ?_
     refine tr1 rfl (bO (aA rfl) rfl rfl rfl) ?_
     refine tr1 rfl (aJ (v := .d (.lit (.int .i64 ((w64 (i_4_60 + 1)))))) (aA rfl) rfl rfl) ?_
     refine aF ?_
     exact ⟨(w64 (i_4_60 + 1), o4_4_60, d_4_60, vs61), h, bF [0, 1, 2, 3] rfl rfl (aU rfl (bB ⟨rfl, rfl, rfl, rfl, trivial⟩))⟩
    ·have h := aY c67 h
     refine bR ?_
     refine aE ?_
     refine aE ?_
     refine aC ?_
     refine tr1 rfl (aJ (v := .d (.lit (.int .i64 0))) (aA rfl) rfl rfl) ?_
     refine aF ?_
     refine cD ?_
     refine dI [4, 6, 8, 13, 14, 15] (fun (s68 : Int × aR) => [(16, .d (.lit (.int .i64 s68.1)))]) (fun (s68 : Int × aR) => [.box b2 0 (bC s68.2), .fam 3 1 vs61 (d_4_60.map fun r => r.map aN), .arr w9 22 1 (vs61.map fun v => [.lit v]), .box b6 0 [.sl 1 (d_0_7_2.map aN), .lit w9], .box b66 0 (aL x64)]) (fun (k : Nat) (s68 : Int × aR) => fW (dE r3.1 r58 d_0_7_2 k62) r3.1 r58 i_4_60 d_4_60 d_0_7_2 x64 k s68.1 s68.2) (fun _ => rfl) (0, o4_4_60) h (bF [0, 1, 2, 3, 4] rfl rfl (aU rfl (bB ⟨rfl, rfl, rfl, rfl, rfl, rfl, trivial⟩))) ?_
     rintro k69 ⟨k_6_68, o4_6_68⟩ h
     simp only [fW] at h
     refine aE ?_
     refine aE ?_
     refine aC ?_
     refine tr1 rfl (aD (v := .d (.lit (.int .i64 k_6_68))) (aA rfl) rfl rfl) ?_
     refine tr1 rfl (aD (v := .d (.lit (.int .i64 i_4_60))) (aA rfl) rfl rfl) ?_
     refine tr1 rfl (bI (aA rfl) rfl rfl rfl) ?_
     refine aF ?_
     refine bT rfl (fun c70 => ?_) (fun c70 => ?_)
     ·have h := aZ c70 h
      refine bR ?_
      refine aE ?_
      refine cD ?_
      refine aE ?_
      refine aC ?_
      refine tr1 rfl (aD (v := .d (.sl 5 (r58.map aL))) (aA rfl) rfl rfl) ?_
      refine tr1 rfl (aD (v := .d (.lit (.int .i64 k_6_68))) (aA rfl) rfl rfl) ?_
      obtain ⟨x71, h72, h⟩ := bind_some h
      refine tr1 rfl (bQ (aA rfl) rfl rfl gT.of (bU aL h72)) ?_
      refine tr1 rfl (jW (aA rfl) rfl jP (es := (aL x71)) rfl rfl) ?_
      refine bV rfl (dJ (zs := [.lit (.int .i64 0), .lit (.int .i64 0), .lit (.int .i64 0), .lit (.int .i64 0), .lit (.int .i64 0)]) (aA rfl) Try.zeroValue32 rfl rfl) ?_
      rintro _ ⟨b73, rfl⟩
      refine tr1 rfl (cB (i := 5) rfl rfl rfl rfl rfl Try.sizeOf32 rfl (aA rfl) (Nat.le_of_ble_eq_true rfl) (ds' := (aL x71)) rfl) ?_
      refine aF ?_
      refine aE ?_
      refine aC ?_
      refine tr1 rfl (aV (aA rfl) rfl nK) ?_
      refine tr1 rfl (aW (aA rfl) rfl (i := 5) rfl rfl bJ) ?_
      refine tr1 rfl (bI (aA rfl) rfl rfl rfl) ?_
      refine tr1 rfl (aD (v := .d (.lit (.bool ((!decide (x71.Kind = 5)))))) (aA rfl) rfl rfl) ?_
      obtain ⟨b74, h75, h⟩ := bind_some h
      refine cF 6 [4, 6, 8, 13, 14, 15, 16, 17] 121 b74 ?_ ?_
      ·refine bN (!decide (x71.Kind = 5)) (fun c80 => ?_) (fun c80 => ?_)
       ·have h75 := aZ c80 h75
        refine aM rfl rfl (aA rfl) rfl c80 (aV (aA rfl) rfl lH) ?_
        refine aM rfl rfl (aA rfl) rfl c80 (aW (aA rfl) rfl (i := 5) rfl rfl bJ) ?_
        refine aM rfl rfl (aA rfl) rfl c80 (aV (aA rfl) rfl lH) ?_
        refine aM rfl rfl (aA rfl) rfl c80 (aW (aA rfl) rfl (i := 4) rfl rfl bJ) ?_
        refine aM rfl rfl (aA rfl) rfl c80 (bI (aA rfl) rfl rfl rfl) ?_
        refine tr1 rfl (bW (v := .d (.lit (.bool ((decide (x71.Round = x64.Round)))))) (aA rfl) rfl c80 rfl rfl) ?_
        have h75 := Option.some.inj h75
        subst h75
        refine aF (bE rfl ⟨rfl, rfl, rfl, rfl, rfl, rfl, rfl, rfl, trivial⟩ rfl)
       ·have h75 := aY c80 h75
        refine aP rfl rfl (aA rfl) rfl (aA rfl) rfl c80 ?_
        refine aP rfl rfl (aA rfl) rfl (aA rfl) rfl c80 ?_
        refine aP rfl rfl (aA rfl) rfl (aA rfl) rfl c80 ?_
        refine aP rfl rfl (aA rfl) rfl (aA rfl) rfl c80 ?_
        refine aP rfl rfl (aA rfl) rfl (aA rfl) rfl c80 ?_
        refine tr1 rfl (bX (v := .d (.lit (.bool false))) (aA rfl) rfl c80 rfl rfl) ?_
        have h75 := Option.some.inj h75
        subst h75
        refine aF (bE rfl ⟨rfl, rfl, rfl, rfl, rfl, rfl, rfl, rfl, trivial⟩ rfl)
      ·refine tr1 rfl (aD (v := .d (.lit (.bool b74))) (aA rfl) rfl rfl) ?_
       obtain ⟨b76, h77, h⟩ := bind_some h
       refine cF 6 [4, 6, 8, 13, 14, 15, 16] 128 b76 ?_ ?_
       ·refine bN (b74) (fun c79 => ?_) (fun c79 => ?_)
        ·have h77 := aZ c79 h77
         refine aM rfl rfl (aA rfl) rfl c79 (aV (aA rfl) rfl iQ) ?_
         refine aM rfl rfl (aA rfl) rfl c79 (aW (aA rfl) rfl (i := 5) rfl rfl bJ) ?_
         refine aM rfl rfl (aA rfl) rfl c79 (aV (aA rfl) rfl iQ) ?_
         refine aM rfl rfl (aA rfl) rfl c79 (aW (aA rfl) rfl (i := 4) rfl rfl bJ) ?_
         refine aM rfl rfl (aA rfl) rfl c79 (bI (aA rfl) rfl rfl rfl) ?_
         refine tr1 rfl (bW (v := .d (.lit (.bool ((decide (x71.Place = x64.Place)))))) (aA rfl) rfl c79 rfl rfl) ?_
         have h77 := Option.some.inj h77
         subst h77
         refine aF (bE rfl ⟨rfl, rfl, rfl, rfl, rfl, rfl, rfl, trivial⟩ rfl)
        ·have h77 := aY c79 h77
         refine aP rfl rfl (aA rfl) rfl (aA rfl) rfl c79 ?_
         refine aP rfl rfl (aA rfl) rfl (aA rfl) rfl c79 ?_
         refine aP rfl rfl (aA rfl) rfl (aA rfl) rfl c79 ?_
         refine aP rfl rfl (aA rfl) rfl (aA rfl) rfl c79 ?_
         refine aP rfl rfl (aA rfl) rfl (aA rfl) rfl c79 ?_
         refine tr1 rfl (bX (v := .d (.lit (.bool false))) (aA rfl) rfl c79 rfl rfl) ?_
         have h77 := Option.some.inj h77
         subst h77
         refine aF (bE rfl ⟨rfl, rfl, rfl, rfl, rfl, rfl, rfl, trivial⟩ rfl)
       ·refine aF ?_
        refine bT rfl (fun c78 => ?_) (fun c78 => ?_)
        ·have h := aZ c78 h
         refine aE ?_
         refine aC ?_
         refine tr1 rfl (eE (aA rfl) yB (zs := [.sl 1 ((([] : List Int)).map aN), .sl 1 ((([] : List (List Int))).map eL)]) rfl rfl rfl rfl (es := [.sl 1 ((([] : List Int)).map aN), .sl 1 ((([] : List (List Int))).map eL)]) rfl) ?_
         refine tr1 rfl (cB (i := 0) rfl rfl rfl rfl rfl Try.sizeOf89 rfl (aA rfl) (Nat.le_of_ble_eq_true rfl) (ds' := (bC (aR.mk ([] : List Int) ([] : List (List Int))))) rfl) ?_
         refine tr1 rfl (aJ (v := .d (.lit (.bool false))) (aA rfl) rfl rfl) ?_
         refine aF ?_
         have h := Option.some.inj h
         subst h
         exact bM ⟨rfl, _, [.box b2 0 (bC (aR.mk ([] : List Int) ([] : List (List Int)))), .fam 3 1 vs61 (d_4_60.map fun r => r.map aN), .arr w9 22 1 (vs61.map fun v => [.lit v]), .box b6 0 [.sl 1 (d_0_7_2.map aN), .lit w9], .box b66 0 (aL x64), .box b73 0 (aL x71)], .two (.cell 4 89 rfl (i := 0) rfl lU (es := (bC (aR.mk ([] : List Int) ([] : List (List Int))))) rfl rfl) (.tmp 5 (v := .d (.lit (.bool false))) rfl), .refl _, .same _⟩
        ·have h := aY c78 h
         refine eF ?_
         refine aC ?_
         refine tr1 rfl (aD (v := .d (.lit (.int .i64 k_6_68))) (aA rfl) rfl rfl) ?_
         refine tr1 rfl (bO (aA rfl) rfl rfl rfl) ?_
         refine tr1 rfl (aJ (v := .d (.lit (.int .i64 ((w64 (k_6_68 + 1)))))) (aA rfl) rfl rfl) ?_
         refine aF ?_
         exact ⟨(w64 (k_6_68 + 1), o4_6_68), h, bF [0, 1, 2, 3, 4] rfl rfl (aU rfl (bB ⟨rfl, rfl, rfl, rfl, rfl, rfl, trivial⟩))⟩
     ·have h := aY c70 h
      refine cX ?_
      refine .inl ⟨rfl, ?_⟩
      simp only [lY] at h
      refine aE ?_
      refine aC ?_
      refine tr1 rfl (aJ (v := .d (.lit (.int .i64 (-1)))) (aA rfl) rfl rfl) ?_
      refine aF ?_
      refine aE ?_
      refine aE ?_
      refine aC ?_
      refine tr1 rfl (aJ (v := .d (.lit (.int .i64 0))) (aA rfl) rfl rfl) ?_
      refine aF ?_
      refine cD ?_
      refine dI [4, 6, 8, 13, 14, 15] (fun (s81 : Int × Int) => [(18, .d (.lit (.int .i64 s81.1))), (19, .d (.lit (.int .i64 s81.2)))]) (fun (s81 : Int × Int) => [.box b2 0 (bC o4_6_68), .fam 3 1 vs61 (d_4_60.map fun r => r.map aN), .arr w9 22 1 (vs61.map fun v => [.lit v]), .box b6 0 [.sl 1 (d_0_7_2.map aN), .lit w9], .box b66 0 (aL x64)]) (fun (k : Nat) (s81 : Int × Int) => dP (dE r3.1 r58 d_0_7_2 k62) r3.1 r58 i_4_60 o4_6_68 d_4_60 d_0_7_2 x64 k s81.1 s81.2) (fun _ => rfl) ((-1), 0) h (bF [0, 1, 2, 3, 4] rfl rfl (aU rfl (aU rfl (bB ⟨rfl, rfl, rfl, rfl, rfl, rfl, trivial⟩)))) ?_
      rintro k82 ⟨atv_8_81, s_8_81⟩ h
      simp only [dP] at h
      refine aE ?_
      refine aE ?_
      refine aC ?_
      refine tr1 rfl (aD (v := .d (.lit (.int .i64 s_8_81))) (aA rfl) rfl rfl) ?_
      refine tr1 rfl (aD (v := .d (.sl 1 (r3.1.map aN))) (aA rfl) rfl rfl) ?_
      refine tr1 rfl (eB (aA rfl) rfl bS.of) ?_
      refine tr1 rfl (bI (aA rfl) rfl rfl rfl) ?_
      refine aF ?_
      refine bT rfl (fun c83 => ?_) (fun c83 => ?_)
      ·have h := aZ c83 h
       refine bR ?_
       refine aE ?_
       refine cD ?_
       refine aE ?_
       obtain ⟨x84, h85, h⟩ := bind_some h
       refine dM mix 6 [4, 6, 8, 13, 14, 15, 18, 19] [(139, .d (.lit (.int .i64 x84))), (141, .d (.lit (.int .i64 x64.Player)))] ?_ ?_
       ·refine ⟨[(136, 0, .d (.sl 1 (r3.1.map aN))), (137, 1, .d (.lit (.int .i64 s_8_81))), (138, 2, .cp [.lit (.int .i64 x84)]), (139, 3, .d (.lit (.int .i64 x84))), (140, 4, .bp b66 0 3), (141, 5, .d (.lit (.int .i64 x64.Player)))], ?_, ?_⟩
        · exact ⟨by kernel_rfl, by kernel_rfl, by kernel_rfl, by kernel_rfl, by kernel_rfl, [([], []), ([], []), ([0, 1], []), ([2], []), ([], []), ([4], [])], by kernel_rfl, ⟨fun S hS => aH rfl (aT rfl (aD (v := .d (.sl 1 (r3.1.map aN))) (aA rfl) (aI hS rfl) rfl)),
      fun S hS => aH rfl (aT rfl (aD (v := .d (.lit (.int .i64 s_8_81))) (aA rfl) (aI hS rfl) rfl)),
      fun S hS => aH rfl (aT rfl (bQ (aA rfl) (aI hS rfl) (aI hS rfl) bS.of (bU aN h85))),
      fun S hS => aH rfl (aT rfl (bP (aA rfl) (aI hS rfl) bJ)),
      fun S hS => aH rfl (aT rfl (aV (aA rfl) (aI hS rfl) mH)),
      fun S hS => aH rfl (aT rfl (aW (aA rfl) (aI hS rfl) (i := 4) rfl rfl bJ)), trivial⟩⟩
        · exact cZ (aU rfl (aU rfl (bB ⟨rfl, rfl, rfl, rfl, rfl, rfl, rfl, rfl, trivial⟩)))
       ·refine tr1 rfl (bI (aA rfl) rfl rfl rfl) ?_
        refine aF ?_
        refine bT rfl (fun c86 => ?_) (fun c86 => ?_)
        ·have h := aZ c86 h
         refine aC ?_
         refine tr1 rfl (aD (v := .d (.lit (.int .i64 s_8_81))) (aA rfl) rfl rfl) ?_
         refine tr1 rfl (aJ (v := .d (.lit (.int .i64 s_8_81))) (aA rfl) rfl rfl) ?_
         refine eV ?_
         refine aC ?_
         refine tr1 rfl (aD (v := .d (.lit (.int .i64 s_8_81))) (aA rfl) rfl rfl) ?_
         refine tr1 rfl (bO (aA rfl) rfl rfl rfl) ?_
         refine tr1 rfl (aJ (v := .d (.lit (.int .i64 ((w64 (s_8_81 + 1)))))) (aA rfl) rfl rfl) ?_
         refine aF ?_
         exact ⟨(s_8_81, w64 (s_8_81 + 1)), h, bF [0, 1, 2, 3, 4] rfl rfl (aU rfl (aU rfl (bB ⟨rfl, rfl, rfl, rfl, rfl, rfl, trivial⟩)))⟩
        ·have h := aY c86 h
         refine eF ?_
         refine aC ?_
         refine tr1 rfl (aD (v := .d (.lit (.int .i64 s_8_81))) (aA rfl) rfl rfl) ?_
         refine tr1 rfl (bO (aA rfl) rfl rfl rfl) ?_
         refine tr1 rfl (aJ (v := .d (.lit (.int .i64 ((w64 (s_8_81 + 1)))))) (aA rfl) rfl rfl) ?_
         refine aF ?_
         exact ⟨(atv_8_81, w64 (s_8_81 + 1)), h, bF [0, 1, 2, 3, 4] rfl rfl (aU rfl (aU rfl (bB ⟨rfl, rfl, rfl, rfl, rfl, rfl, trivial⟩)))⟩
      ·have h := aY c83 h
       refine cX ?_
       refine .inl ⟨rfl, ?_⟩
       simp only [fV] at h
       refine aE ?_
       refine aE ?_
       refine aC ?_
       refine tr1 rfl (aD (v := .d (.lit (.int .i64 atv_8_81))) (aA rfl) rfl rfl) ?_
       refine tr1 rfl (bI (aA rfl) rfl rfl rfl) ?_
       refine tr1 rfl (aD (v := .d (.lit (.bool ((decide (atv_8_81 < 0)))))) (aA rfl) rfl rfl) ?_
       obtain ⟨b87, h88, h⟩ := bind_some h
       refine cF 10 [4, 6, 8, 13, 14, 15, 18] 156 b87 ?_ ?_
       ·refine bN (decide (atv_8_81 < 0)) (fun c112 => ?_) (fun c112 => ?_)
        ·have h88 := aZ c112 h88
         refine aP rfl rfl (aA rfl) rfl (aA rfl) rfl c112 ?_
         refine aP rfl rfl (aA rfl) rfl (aA rfl) rfl c112 ?_
         refine aP rfl rfl (aA rfl) rfl (aA rfl) rfl c112 ?_
         refine aP rfl rfl (aA rfl) rfl (aA rfl) rfl c112 ?_
         refine aP rfl rfl (aA rfl) rfl (aA rfl) rfl c112 ?_
         refine aP rfl rfl (aA rfl) rfl (aA rfl) rfl c112 ?_
         refine aP rfl rfl (aA rfl) rfl (aA rfl) rfl c112 ?_
         refine aP rfl rfl (aA rfl) rfl (aA rfl) rfl c112 ?_
         refine aP rfl rfl (aA rfl) rfl (aA rfl) rfl c112 ?_
         refine tr1 rfl (bW (v := .d (.lit (.bool true))) (aA rfl) rfl c112 rfl rfl) ?_
         have h88 := Option.some.inj h88
         subst h88
         refine aF (bE rfl ⟨rfl, rfl, rfl, rfl, rfl, rfl, rfl, trivial⟩ rfl)
        ·have h88 := aY c112 h88
         refine aM rfl rfl (aA rfl) rfl c112 (aD (v := .d (.lit (.int .i64 atv_8_81))) (aA rfl) rfl rfl) ?_
         refine aM rfl rfl (aA rfl) rfl c112 (aV (aA rfl) rfl lH) ?_
         refine aM rfl rfl (aA rfl) rfl c112 (aW (aA rfl) rfl (i := 4) rfl rfl bJ) ?_
         refine aM rfl rfl (aA rfl) rfl c112 (bO (aA rfl) rfl rfl rfl) ?_
         refine aM rfl rfl (aA rfl) rfl c112 (oW (aA rfl) rfl Try.runUnderlying3 Try.runUnderlying45) ?_
         obtain ⟨u113, h114, h88⟩ := bind_some h88
         refine aM rfl rfl (aA rfl) rfl c112 (pR (aA rfl) rfl rfl (nN h114)) ?_
         refine aM rfl rfl (aA rfl) rfl c112 (aV (aA rfl) rfl iQ) ?_
         refine aM rfl rfl (aA rfl) rfl c112 (aW (aA rfl) rfl (i := 4) rfl rfl bJ) ?_
         refine aM rfl rfl (aA rfl) rfl c112 (bI (aA rfl) rfl rfl rfl) ?_
         refine tr1 rfl (bX (v := .d (.lit (.bool ((!decide ((atv_8_81.fdiv (2 ^ (min (IntKind.u64.wrap (w64 (x64.Round + 1))).toNat 64))) = x64.Place)))))) (aA rfl) rfl c112 rfl rfl) ?_
         have h88 := Option.some.inj h88
         subst h88
         refine aF (bE rfl ⟨rfl, rfl, rfl, rfl, rfl, rfl, rfl, trivial⟩ rfl)
       ·refine aF ?_
        refine bT rfl (fun c89 => ?_) (fun c89 => ?_)
        ·have h := aZ c89 h
         refine aE ?_
         refine aC ?_
         refine tr1 rfl (eE (aA rfl) yB (zs := [.sl 1 ((([] : List Int)).map aN), .sl 1 ((([] : List (List Int))).map eL)]) rfl rfl rfl rfl (es := [.sl 1 ((([] : List Int)).map aN), .sl 1 ((([] : List (List Int))).map eL)]) rfl) ?_
         refine tr1 rfl (cB (i := 0) rfl rfl rfl rfl rfl Try.sizeOf89 rfl (aA rfl) (Nat.le_of_ble_eq_true rfl) (ds' := (bC (aR.mk ([] : List Int) ([] : List (List Int))))) rfl) ?_
         refine tr1 rfl (aJ (v := .d (.lit (.bool false))) (aA rfl) rfl rfl) ?_
         refine aF ?_
         have h := Option.some.inj h
         subst h
         exact bM ⟨rfl, _, [.box b2 0 (bC (aR.mk ([] : List Int) ([] : List (List Int)))), .fam 3 1 vs61 (d_4_60.map fun r => r.map aN), .arr w9 22 1 (vs61.map fun v => [.lit v]), .box b6 0 [.sl 1 (d_0_7_2.map aN), .lit w9], .box b66 0 (aL x64)], .two (.cell 4 89 rfl (i := 0) rfl lU (es := (bC (aR.mk ([] : List Int) ([] : List (List Int))))) rfl rfl) (.tmp 5 (v := .d (.lit (.bool false))) rfl), .refl _, .same _⟩
        ·have h := aY c89 h
         refine bR ?_
         refine aE ?_
         refine aC ?_
         refine tr1 rfl (aJ (v := .d (.lit (.int .i64 0))) (aA rfl) rfl rfl) ?_
         refine aF ?_
         refine uZ ?_
         refine dI [4, 6, 8, 13, 14, 15, 18] (fun (s90 : Int × aR × (List (List Int)) × (List Value)) => [(20, .d (.lit (.int .i64 s90.1)))]) (fun (s90 : Int × aR × (List (List Int)) × (List Value)) => [.box b2 0 (bC s90.2.1), .fam 3 1 s90.2.2.2 (s90.2.2.1.map fun r => r.map aN), .arr w9 22 1 (s90.2.2.2.map fun v => [.lit v]), .box b6 0 [.sl 1 (d_0_7_2.map aN), .lit w9], .box b66 0 (aL x64)]) (fun (k : Nat) (s90 : Int × aR × (List (List Int)) × (List Value)) => fN (dE r3.1 r58 d_0_7_2 k62) r3.1 r58 i_4_60 atv_8_81 d_0_7_2 x64 k s90.1 s90.2.1 s90.2.2.1) (fun _ => rfl) (0, o4_6_68, d_4_60, vs61) h (bF [0, 1, 2, 3, 4] rfl rfl (aU rfl (bB ⟨rfl, rfl, rfl, rfl, rfl, rfl, rfl, trivial⟩))) ?_
         rintro k92 ⟨r_10_90, o4_10_90, d_10_90, vs91⟩ h
         simp only [fN] at h
         refine aE ?_
         refine aE ?_
         refine aC ?_
         refine tr1 rfl (aD (v := .d (.lit (.int .i64 r_10_90))) (aA rfl) rfl rfl) ?_
         refine tr1 rfl (aV (aA rfl) rfl lH) ?_
         refine tr1 rfl (aW (aA rfl) rfl (i := 4) rfl rfl bJ) ?_
         refine tr1 rfl (bI (aA rfl) rfl rfl rfl) ?_
         refine aF ?_
         refine bT rfl (fun c93 => ?_) (fun c93 => ?_)
         ·have h := aZ c93 h
          refine bR ?_
          refine aE ?_
          refine cD ?_
          refine aE ?_
          refine aC ?_
          refine tr1 rfl (aD (v := .d (.lit (.int .i64 atv_8_81))) (aA rfl) rfl rfl) ?_
          refine tr1 rfl (aD (v := .d (.lit (.int .i64 r_10_90))) (aA rfl) rfl rfl) ?_
          refine tr1 rfl (bO (aA rfl) rfl rfl rfl) ?_
          refine tr1 rfl (oW (aA rfl) rfl Try.runUnderlying3 Try.runUnderlying45) ?_
          obtain ⟨u94, h95, h⟩ := bind_some h
          refine tr1 rfl (pR (aA rfl) rfl rfl (nN h95)) ?_
          refine tr1 rfl (aJ (v := .d (.lit (.int .i64 ((atv_8_81.fdiv (2 ^ (min (IntKind.u64.wrap (w64 (r_10_90 + 1))).toNat 64))))))) (aA rfl) rfl rfl) ?_
          refine aF ?_
          refine aE ?_
          refine aE ?_
          obtain ⟨x96, h97, h⟩ := bind_some h
          obtain ⟨x98, h99, h⟩ := bind_some h
          obtain ⟨b100, h101, h⟩ := bind_some h
          refine dM mix 22 [4, 6, 8, 13, 14, 15, 18, 20, 21] [(190, .d (.lit (.bool b100)))] ?_ ?_
          ·refine bN (!decide (x98 = (-2))) (fun c102 => ?_) (fun c102 => ?_)
           ·have h101 := aZ c102 h101
            obtain ⟨x103, h104, h101⟩ := bind_some h101
            obtain ⟨x105, h106, h101⟩ := bind_some h101
            have h101 := Option.some.inj h101
            subst h101
            refine ⟨[(169, 0, .bp b6 0 1), (170, 1, .d (.lit w9)), (171, 2, .d (.lit (.int .i64 r_10_90))), (172, 3, .ep w9 1 r_10_90.toNat 0), (173, 4, .d (.lit (pX vs91 r_10_90))), (174, 5, .d (.lit (.int .i64 ((atv_8_81.fdiv (2 ^ (min (IntKind.u64.wrap (w64 (r_10_90 + 1))).toNat 64))))))), (175, 6, .ep (pX vs91 r_10_90) 1 (atv_8_81.fdiv (2 ^ (min (IntKind.u64.wrap (w64 (r_10_90 + 1))).toNat 64))).toNat 0), (176, 7, .d (.lit (.int .i64 x98))), (177, 8, .d (.lit (.bool ((!decide (x98 = (-2))))))), (178, 9, .d (.lit (.bool ((!decide (x98 = (-2))))))), (179, 10, .bp b6 0 1), (180, 11, .d (.lit w9)), (181, 12, .d (.lit (.int .i64 r_10_90))), (182, 13, .ep w9 1 r_10_90.toNat 0), (183, 14, .d (.lit (pX vs91 r_10_90))), (184, 15, .d (.lit (.int .i64 ((atv_8_81.fdiv (2 ^ (min (IntKind.u64.wrap (w64 (r_10_90 + 1))).toNat 64))))))), (185, 16, .ep (pX vs91 r_10_90) 1 (atv_8_81.fdiv (2 ^ (min (IntKind.u64.wrap (w64 (r_10_90 + 1))).toNat 64))).toNat 0), (186, 17, .d (.lit (.int .i64 x105))), (187, 18, .bp b66 0 3), (188, 19, .d (.lit (.int .i64 x64.Player))), (189, 20, .d (.lit (.bool ((!decide (x105 = x64.Player)))))), (190, 21, .d (.lit (.bool ((!decide (x105 = x64.Player))))))], ?_, ?_⟩
            · exact ⟨by kernel_rfl, by kernel_rfl, by kernel_rfl, by kernel_rfl, by kernel_rfl, [([], []), ([0], []), ([], []), ([1, 2], []), ([3], []), ([], []), ([4, 5], []), ([6], []), ([7], []), ([8], []), ([9], []), ([9, 10], []), ([9], []), ([9, 11, 12], []), ([9, 13], []), ([9], []), ([9, 14, 15], []), ([9, 16], []), ([9], []), ([9, 18], []), ([9, 17, 19], []), ([9, 20], [])], by kernel_rfl, ⟨fun S hS => aH rfl (aT rfl (aV (aA rfl) (aI hS rfl) kQ)),
      fun S hS => aH rfl (aT rfl (aW (aA rfl) (aI hS rfl) (i := 3) rfl rfl oU)),
      fun S hS => aH rfl (aT rfl (aD (v := .d (.lit (.int .i64 r_10_90))) (aA rfl) (aI hS rfl) rfl)),
      fun S hS => aH rfl (aT rfl (qV (m := 2) (f := 1) (aA rfl) (aI hS rfl) rfl rfl (aI hS rfl) pS.of h97)),
      fun S hS => aH rfl (aT rfl (rV (m := 2) (f := 1) (aA rfl) (aI hS rfl) rfl rfl h97 cU)),
      fun S hS => aH rfl (aT rfl (aD (v := .d (.lit (.int .i64 ((atv_8_81.fdiv (2 ^ (min (IntKind.u64.wrap (w64 (r_10_90 + 1))).toNat 64))))))) (aA rfl) (aI hS rfl) rfl)),
      fun S hS => aH rfl (aT rfl (rU (f := 1) (g := aN) (aA rfl) (aI hS rfl) rfl h97 (aI hS rfl) bS.of h99)),
      fun S hS => aH rfl (aT rfl (wF (f := 1) (g := aN) (aA rfl) (aI hS rfl) rfl h97 h99 rfl bJ)),
      fun S hS => aH rfl (aT rfl (bI (aA rfl) (aI hS rfl) rfl rfl)),
      fun S hS => aH rfl (aT rfl (aD (v := .d (.lit (.bool ((!decide (x98 = (-2))))))) (aA rfl) (aI hS rfl) rfl)),
      fun S hS => aH rfl (bD rfl rfl (aA rfl) (aS hS rfl) c102 (aV (aA rfl) (aI hS rfl) kQ)),
      fun S hS => aH rfl (bD rfl rfl (aA rfl) (aS hS rfl) c102 (aW (aA rfl) (aI hS rfl) (i := 3) rfl rfl oU)),
      fun S hS => aH rfl (bD rfl rfl (aA rfl) (aS hS rfl) c102 (aD (v := .d (.lit (.int .i64 r_10_90))) (aA rfl) (aI hS rfl) rfl)),
      fun S hS => aH rfl (bD rfl rfl (aA rfl) (aS hS rfl) c102 (qV (m := 2) (f := 1) (aA rfl) (aI hS rfl) rfl rfl (aI hS rfl) pS.of h104)),
      fun S hS => aH rfl (bD rfl rfl (aA rfl) (aS hS rfl) c102 (rV (m := 2) (f := 1) (aA rfl) (aI hS rfl) rfl rfl h104 cU)),
      fun S hS => aH rfl (bD rfl rfl (aA rfl) (aS hS rfl) c102 (aD (v := .d (.lit (.int .i64 ((atv_8_81.fdiv (2 ^ (min (IntKind.u64.wrap (w64 (r_10_90 + 1))).toNat 64))))))) (aA rfl) (aI hS rfl) rfl)),
      fun S hS => aH rfl (bD rfl rfl (aA rfl) (aS hS rfl) c102 (rU (f := 1) (g := aN) (aA rfl) (aI hS rfl) rfl h104 (aI hS rfl) bS.of h106)),
      fun S hS => aH rfl (bD rfl rfl (aA rfl) (aS hS rfl) c102 (wF (f := 1) (g := aN) (aA rfl) (aI hS rfl) rfl h104 h106 rfl bJ)),
      fun S hS => aH rfl (bD rfl rfl (aA rfl) (aS hS rfl) c102 (aV (aA rfl) (aI hS rfl) mH)),
      fun S hS => aH rfl (bD rfl rfl (aA rfl) (aS hS rfl) c102 (aW (aA rfl) (aI hS rfl) (i := 4) rfl rfl bJ)),
      fun S hS => aH rfl (bD rfl rfl (aA rfl) (aS hS rfl) c102 (bI (aA rfl) (aI hS rfl) (aI hS rfl) rfl)),
      fun S hS => aH rfl (aT rfl (bW (v := .d (.lit (.bool ((!decide (x105 = x64.Player)))))) (aA rfl) (aI hS rfl) c102 (aI hS rfl) rfl)), trivial⟩⟩
            · exact cZ (aU rfl (bB ⟨rfl, rfl, rfl, rfl, rfl, rfl, rfl, rfl, rfl, trivial⟩))
           ·have h101 := aY c102 h101
            have h101 := Option.some.inj h101
            subst h101
            refine ⟨[(169, 0, .bp b6 0 1), (170, 1, .d (.lit w9)), (171, 2, .d (.lit (.int .i64 r_10_90))), (172, 3, .ep w9 1 r_10_90.toNat 0), (173, 4, .d (.lit (pX vs91 r_10_90))), (174, 5, .d (.lit (.int .i64 ((atv_8_81.fdiv (2 ^ (min (IntKind.u64.wrap (w64 (r_10_90 + 1))).toNat 64))))))), (175, 6, .ep (pX vs91 r_10_90) 1 (atv_8_81.fdiv (2 ^ (min (IntKind.u64.wrap (w64 (r_10_90 + 1))).toNat 64))).toNat 0), (176, 7, .d (.lit (.int .i64 x98))), (177, 8, .d (.lit (.bool ((!decide (x98 = (-2))))))), (178, 9, .d (.lit (.bool ((!decide (x98 = (-2))))))), (179, 10, .tup []), (180, 11, .tup []), (181, 12, .tup []), (182, 13, .tup []), (183, 14, .tup []), (184, 15, .tup []), (185, 16, .tup []), (186, 17, .tup []), (187, 18, .tup []), (188, 19, .tup []), (189, 20, .tup []), (190, 21, .d (.lit (.bool false)))], ?_, ?_⟩
            · exact ⟨by kernel_rfl, by kernel_rfl, by kernel_rfl, by kernel_rfl, by kernel_rfl, [([], []), ([0], []), ([], []), ([1, 2], []), ([3], []), ([], []), ([4, 5], []), ([6], []), ([7], []), ([8], []), ([9], []), ([9, 10], []), ([9], []), ([9, 11, 12], []), ([9, 13], []), ([9], []), ([9, 14, 15], []), ([9, 16], []), ([9], []), ([9, 18], []), ([9, 17, 19], []), ([9, 20], [])], by kernel_rfl, ⟨fun S hS => aH rfl (aT rfl (aV (aA rfl) (aI hS rfl) kQ)),
      fun S hS => aH rfl (aT rfl (aW (aA rfl) (aI hS rfl) (i := 3) rfl rfl oU)),
      fun S hS => aH rfl (aT rfl (aD (v := .d (.lit (.int .i64 r_10_90))) (aA rfl) (aI hS rfl) rfl)),
      fun S hS => aH rfl (aT rfl (qV (m := 2) (f := 1) (aA rfl) (aI hS rfl) rfl rfl (aI hS rfl) pS.of h97)),
      fun S hS => aH rfl (aT rfl (rV (m := 2) (f := 1) (aA rfl) (aI hS rfl) rfl rfl h97 cU)),
      fun S hS => aH rfl (aT rfl (aD (v := .d (.lit (.int .i64 ((atv_8_81.fdiv (2 ^ (min (IntKind.u64.wrap (w64 (r_10_90 + 1))).toNat 64))))))) (aA rfl) (aI hS rfl) rfl)),
      fun S hS => aH rfl (aT rfl (rU (f := 1) (g := aN) (aA rfl) (aI hS rfl) rfl h97 (aI hS rfl) bS.of h99)),
      fun S hS => aH rfl (aT rfl (wF (f := 1) (g := aN) (aA rfl) (aI hS rfl) rfl h97 h99 rfl bJ)),
      fun S hS => aH rfl (aT rfl (bI (aA rfl) (aI hS rfl) rfl rfl)),
      fun S hS => aH rfl (aT rfl (aD (v := .d (.lit (.bool ((!decide (x98 = (-2))))))) (aA rfl) (aI hS rfl) rfl)),
      fun S hS => aH rfl (bG rfl rfl (aA rfl) rfl (aA rfl) (aS hS rfl) c102),
      fun S hS => aH rfl (bG rfl rfl (aA rfl) rfl (aA rfl) (aS hS rfl) c102),
      fun S hS => aH rfl (bG rfl rfl (aA rfl) rfl (aA rfl) (aS hS rfl) c102),
      fun S hS => aH rfl (bG rfl rfl (aA rfl) rfl (aA rfl) (aS hS rfl) c102),
      fun S hS => aH rfl (bG rfl rfl (aA rfl) rfl (aA rfl) (aS hS rfl) c102),
      fun S hS => aH rfl (bG rfl rfl (aA rfl) rfl (aA rfl) (aS hS rfl) c102),
      fun S hS => aH rfl (bG rfl rfl (aA rfl) rfl (aA rfl) (aS hS rfl) c102),
      fun S hS => aH rfl (bG rfl rfl (aA rfl) rfl (aA rfl) (aS hS rfl) c102),
      fun S hS => aH rfl (bG rfl rfl (aA rfl) rfl (aA rfl) (aS hS rfl) c102),
      fun S hS => aH rfl (bG rfl rfl (aA rfl) rfl (aA rfl) (aS hS rfl) c102),
      fun S hS => aH rfl (bG rfl rfl (aA rfl) rfl (aA rfl) (aS hS rfl) c102),
      fun S hS => aH rfl (aT rfl (bX (v := .d (.lit (.bool false))) (aA rfl) (aI hS rfl) c102 rfl rfl)), trivial⟩⟩
            · exact cZ (aU rfl (bB ⟨rfl, rfl, rfl, rfl, rfl, rfl, rfl, rfl, rfl, trivial⟩))
          ·refine aF ?_
           refine bT rfl (fun c107 => ?_) (fun c107 => ?_)
           ·have h := aZ c107 h
            refine aE ?_
            refine aC ?_
            refine tr1 rfl (eE (aA rfl) yB (zs := [.sl 1 ((([] : List Int)).map aN), .sl 1 ((([] : List (List Int))).map eL)]) rfl rfl rfl rfl (es := [.sl 1 ((([] : List Int)).map aN), .sl 1 ((([] : List (List Int))).map eL)]) rfl) ?_
            refine tr1 rfl (cB (i := 0) rfl rfl rfl rfl rfl Try.sizeOf89 rfl (aA rfl) (Nat.le_of_ble_eq_true rfl) (ds' := (bC (aR.mk ([] : List Int) ([] : List (List Int))))) rfl) ?_
            refine tr1 rfl (aJ (v := .d (.lit (.bool false))) (aA rfl) rfl rfl) ?_
            refine aF ?_
            have h := Option.some.inj h
            subst h
            exact bM ⟨rfl, _, [.box b2 0 (bC (aR.mk ([] : List Int) ([] : List (List Int)))), .fam 3 1 vs91 (d_10_90.map fun r => r.map aN), .arr w9 22 1 (vs91.map fun v => [.lit v]), .box b6 0 [.sl 1 (d_0_7_2.map aN), .lit w9], .box b66 0 (aL x64)], .two (.cell 4 89 rfl (i := 0) rfl lU (es := (bC (aR.mk ([] : List Int) ([] : List (List Int))))) rfl rfl) (.tmp 5 (v := .d (.lit (.bool false))) rfl), .refl _, .same _⟩
           ·have h := aY c107 h
            refine bR ?_
            obtain ⟨x108, h109, h⟩ := bind_some h
            refine dM mix 8 [4, 6, 8, 13, 14, 15, 18, 20] [(196, .d (.lit (pX vs91 r_10_90))), (197, .d (.lit (.int .i64 ((atv_8_81.fdiv (2 ^ (min (IntKind.u64.wrap (w64 (r_10_90 + 1))).toNat 64))))))), (199, .d (.lit (.int .i64 x64.Player)))] ?_ ?_
            ·refine ⟨[(192, 0, .bp b6 0 1), (193, 1, .d (.lit w9)), (194, 2, .d (.lit (.int .i64 r_10_90))), (195, 3, .ep w9 1 r_10_90.toNat 0), (196, 4, .d (.lit (pX vs91 r_10_90))), (197, 5, .d (.lit (.int .i64 ((atv_8_81.fdiv (2 ^ (min (IntKind.u64.wrap (w64 (r_10_90 + 1))).toNat 64))))))), (198, 6, .bp b66 0 3), (199, 7, .d (.lit (.int .i64 x64.Player)))], ?_, ?_⟩
             · exact ⟨by kernel_rfl, by kernel_rfl, by kernel_rfl, by kernel_rfl, by kernel_rfl, [([], []), ([0], []), ([], []), ([1, 2], []), ([3], []), ([], []), ([], []), ([6], [])], by kernel_rfl, ⟨fun S hS => aH rfl (aT rfl (aV (aA rfl) (aI hS rfl) kQ)),
      fun S hS => aH rfl (aT rfl (aW (aA rfl) (aI hS rfl) (i := 3) rfl rfl oU)),
      fun S hS => aH rfl (aT rfl (aD (v := .d (.lit (.int .i64 r_10_90))) (aA rfl) (aI hS rfl) rfl)),
      fun S hS => aH rfl (aT rfl (qV (m := 2) (f := 1) (aA rfl) (aI hS rfl) rfl rfl (aI hS rfl) pS.of h109)),
      fun S hS => aH rfl (aT rfl (rV (m := 2) (f := 1) (aA rfl) (aI hS rfl) rfl rfl h109 cU)),
      fun S hS => aH rfl (aT rfl (aD (v := .d (.lit (.int .i64 ((atv_8_81.fdiv (2 ^ (min (IntKind.u64.wrap (w64 (r_10_90 + 1))).toNat 64))))))) (aA rfl) (aI hS rfl) rfl)),
      fun S hS => aH rfl (aT rfl (aV (aA rfl) (aI hS rfl) mH)),
      fun S hS => aH rfl (aT rfl (aW (aA rfl) (aI hS rfl) (i := 4) rfl rfl bJ)), trivial⟩⟩
             · exact cZ (aU rfl (aU rfl (aU rfl (bB ⟨rfl, rfl, rfl, rfl, rfl, rfl, rfl, rfl, trivial⟩))))
            ·obtain ⟨x110, h111, h⟩ := bind_some h
             refine tr1 rfl (rU (f := 1) (g := aN) (aA rfl) rfl rfl h109 rfl bS.of h111) ?_
             refine tr1 rfl (aFp (f := 1) (g := aN) rfl rfl h109 h111 rfl rfl rfl Try.sizeOf3 rfl (aA rfl) (Nat.le_of_ble_eq_true rfl) (a' := x64.Player) rfl (c' := (d_10_90.set r_10_90.toNat (x108.set (atv_8_81.fdiv (2 ^ (min (IntKind.u64.wrap (w64 (r_10_90 + 1))).toNat 64))).toNat x64.Player))) rfl) ?_
             refine eV ?_
             refine aC ?_
             refine tr1 rfl (aD (v := .d (.lit (.int .i64 r_10_90))) (aA rfl) rfl rfl) ?_
             refine tr1 rfl (bO (aA rfl) rfl rfl rfl) ?_
             refine tr1 rfl (aJ (v := .d (.lit (.int .i64 ((w64 (r_10_90 + 1)))))) (aA rfl) rfl rfl) ?_
             refine aF ?_
             exact ⟨(w64 (r_10_90 + 1), o4_10_90, (d_10_90.set r_10_90.toNat (x108.set (atv_8_81.fdiv (2 ^ (min (IntKind.u64.wrap (w64 (r_10_90 + 1))).toNat 64))).toNat x64.Player)), vs91), h, bF [0, 1, 2, 3, 4] rfl rfl (aU rfl (bB ⟨rfl, rfl, rfl, rfl, rfl, rfl, rfl, trivial⟩))⟩
         ·have h := aY c93 h
          refine cX ?_
          refine .inl ⟨rfl, ?_⟩
          simp only [nZ] at h
          simp only [iX] at h
          refine aC ?_
          refine tr1 rfl (aD (v := .d (.lit (.int .i64 i_4_60))) (aA rfl) rfl rfl) ?_
          refine tr1 rfl (bO (aA rfl) rfl rfl rfl) ?_
          refine tr1 rfl (aJ (v := .d (.lit (.int .i64 ((w64 (i_4_60 + 1)))))) (aA rfl) rfl rfl) ?_
          refine aF ?_
          exact ⟨(w64 (i_4_60 + 1), o4_10_90, d_10_90, vs91), h, bF [0, 1, 2, 3] rfl rfl (aU rfl (bB ⟨rfl, rfl, rfl, rfl, trivial⟩))⟩
   ·have h := aY c63 h
    refine cX ?_
    refine .inl ⟨rfl, ?_⟩
    simp only [oP] at h
    refine aE ?_
    refine aC ?_
    refine tr1 rfl (bH (aA rfl) rfl (i := 3) rfl lU (es := [.sl 1 (d_0_7_2.map aN), .lit w9]) rfl rfl) ?_
    refine tr1 rfl (cB (i := 0) rfl rfl rfl rfl rfl Try.sizeOf89 rfl (aA rfl) (Nat.le_of_ble_eq_true rfl) (ds' := [.sl 1 (d_0_7_2.map aN), .lit w9]) rfl) ?_
    refine tr1 rfl (aJ (v := .d (.lit (.bool true))) (aA rfl) rfl rfl) ?_
    refine aF ?_
    have h := Option.some.inj h
    subst h
    exact bM ⟨rfl, _, [.box b2 0 [.sl 1 (d_0_7_2.map aN), .lit w9], .fam 3 1 vs61 (d_4_60.map fun r => r.map aN), .arr w9 22 1 (vs61.map fun v => [.lit v]), .box b6 0 [.sl 1 (d_0_7_2.map aN), .lit w9]], .two (.cell 4 89 rfl (i := 0) rfl lU (es := [.sl 1 (d_0_7_2.map aN), .lit w9]) rfl rfl) (.tmp 5 (v := .d (.lit (.bool true))) rfl), .refl _, tD (.cons (.agg (dvc (.same _) (dvc (aLy 2 1 rfl rfl (h := eL) (fun _ => rfl)) dvn))) (.cons (.same _) .nil))⟩

theorem oM (t_0 : aO) (l_1 : List aG) {r : Int} (h : eQ t_0 l_1 = some r) : Fn Try.prog 29 [.agg (aQ t_0), .d (.sl 5 (l_1.map aL))] (.d (.lit (.int .i64 r))) := by
 unfold eQ at h
 refine Fn.of_tr Try.func29 rfl (rs := [.tmp 4]) Try.results29 Try.ntmps29 (Nat.le_of_ble_eq_true rfl) ?_
 refine aE ?_
 refine aC ?_
 refine bV rfl (eH (v := .agg (aQ t_0)) (aA rfl) rfl rfl rfl) ?_
 rintro _ ⟨b1, rfl⟩
 refine tr1 rfl (aJ (v := .d (.lit (.int .i64 0))) (aA rfl) rfl rfl) ?_
 refine aF ?_
 refine aE ?_
 refine aE ?_
 refine aC ?_
 refine tr1 rfl (bH (aA rfl) rfl (i := 0) rfl cV (es := (aQ t_0)) rfl rfl) ?_
 obtain ⟨r2, h3, h⟩ := bind_some h
 refine tr1 rfl (cH (aA rfl) (.func _ _ Try.call53) rfl rfl (BVs.refl _ _) (wO _ h3) rfl) ?_
 refine tr1 rfl (fU (aA rfl) rfl) ?_
 refine aF ?_
 refine bT rfl (fun c4 => ?_) (fun c4 => ?_)
 ·have h := aZ c4 h
  refine aE ?_
  refine aC ?_
  refine tr1 rfl (aJ (v := .d (.lit (.int .i64 70))) (aA rfl) rfl rfl) ?_
  refine aF ?_
  have h := Option.some.inj h
  subst h
  refine cL (cG (cK (l := [4]) ⟨rfl, trivial⟩)) ?_
  exact bM ⟨rfl, _, .one _, rfl, rfl⟩
 ·have h := aY c4 h
  refine bR ?_
  refine aE ?_
  refine aE ?_
  refine aC ?_
  refine tr1 rfl (aD (v := .d (.sl 5 (l_1.map aL))) (aA rfl) rfl rfl) ?_
  refine tr1 rfl (eB (aA rfl) rfl gT.of) ?_
  refine tr1 rfl (bI (aA rfl) rfl rfl rfl) ?_
  refine aF ?_
  refine bT rfl (fun c5 => ?_) (fun c5 => ?_)
  ·have h := aZ c5 h
   refine aE ?_
   refine aC ?_
   refine tr1 rfl (aJ (v := .d (.lit (.int .i64 71))) (aA rfl) rfl rfl) ?_
   refine aF ?_
   have h := Option.some.inj h
   subst h
   refine cL (cG (cK (l := [4]) ⟨rfl, trivial⟩)) ?_
   exact bM ⟨rfl, _, .one _, rfl, rfl⟩
  ·have h := aY c5 h
   refine bR ?_
   refine aE ?_
   refine aE ?_
   refine aC ?_
   refine tr1 rfl (aJ (v := .d (.lit (.int .i64 0))) (aA rfl) rfl rfl) ?_
   refine aF ?_
   refine cD ?_
   refine dI [1, 2] (fun (s6 : Int) => [(5, .d (.lit (.int .i64 s6)))]) (fun (s6 : Int) => [.box b1 0 (aQ t_0)]) (fun (k : Nat) (s6 : Int) => fM l_1 t_0 k s6) (fun _ => rfl) (0) h (bF [0] rfl rfl (aU rfl (bB ⟨rfl, rfl, trivial⟩))) ?_
   rintro k7 i_0_6 h
   simp only [fM] at h
   refine aE ?_
   refine aE ?_
   refine aC ?_
   refine tr1 rfl (aD (v := .d (.lit (.int .i64 i_0_6))) (aA rfl) rfl rfl) ?_
   refine tr1 rfl (aD (v := .d (.sl 5 (l_1.map aL))) (aA rfl) rfl rfl) ?_
   refine tr1 rfl (eB (aA rfl) rfl gT.of) ?_
   refine tr1 rfl (bI (aA rfl) rfl rfl rfl) ?_
   refine aF ?_
   refine bT rfl (fun c8 => ?_) (fun c8 => ?_)
   ·have h := aZ c8 h
    refine bR ?_
    refine aE ?_
    refine cD ?_
    refine aE ?_
    obtain ⟨x9, h10, h⟩ := bind_some h
    refine dM mix 5 [1, 2, 5] [(20, .agg (aQ t_0)), (24, .agg (aL x9))] ?_ ?_
    ·refine ⟨[(20, 0, .agg (aQ t_0)), (21, 1, .d (.sl 5 (l_1.map aL))), (22, 2, .d (.lit (.int .i64 i_0_6))), (23, 3, .cp [.lit (.int .i64 x9.Kind), .lit (.int .i64 x9.Round), .lit (.int .i64 x9.Place), .lit (.int .i64 x9.Player), .lit (.int .i64 x9.Old)]), (24, 4, .agg (aL x9))], ?_, ?_⟩
     · exact ⟨by kernel_rfl, by kernel_rfl, by kernel_rfl, by kernel_rfl, by kernel_rfl, [([], []), ([], []), ([], []), ([1, 2], []), ([3], [])], by kernel_rfl, ⟨fun S hS => aH rfl (aT rfl (bH (aA rfl) (aI hS rfl) (i := 0) rfl cV (es := (aQ t_0)) rfl rfl)),
      fun S hS => aH rfl (aT rfl (aD (v := .d (.sl 5 (l_1.map aL))) (aA rfl) (aI hS rfl) rfl)),
      fun S hS => aH rfl (aT rfl (aD (v := .d (.lit (.int .i64 i_0_6))) (aA rfl) (aI hS rfl) rfl)),
      fun S hS => aH rfl (aT rfl (bQ (aA rfl) (aI hS rfl) (aI hS rfl) gT.of (bU aL h10))),
      fun S hS => aH rfl (aT rfl (jW (aA rfl) (aI hS rfl) jP (es := (aL x9)) rfl rfl)), trivial⟩⟩
     · exact cZ (aU rfl (aU rfl (bB ⟨rfl, rfl, rfl, trivial⟩)))
    ·obtain ⟨r11, h12, h⟩ := bind_some h
     refine tr1 rfl (cH (aA rfl) (.func _ _ Try.call54) rfl rfl (BVs.refl _ _) (wQ _ _ h12) rfl) ?_
     refine tr1 rfl (fU (aA rfl) rfl) ?_
     refine aF ?_
     refine bT rfl (fun c13 => ?_) (fun c13 => ?_)
     ·have h := aZ c13 h
      refine aE ?_
      refine aC ?_
      refine tr1 rfl (aJ (v := .d (.lit (.int .i64 71))) (aA rfl) rfl rfl) ?_
      refine aF ?_
      have h := Option.some.inj h
      subst h
      refine cL (cG (cK (l := [4]) ⟨rfl, trivial⟩)) ?_
      exact bM ⟨rfl, _, .one _, rfl, rfl⟩
     ·have h := aY c13 h
      refine eF ?_
      refine aC ?_
      refine tr1 rfl (aD (v := .d (.lit (.int .i64 i_0_6))) (aA rfl) rfl rfl) ?_
      refine tr1 rfl (bO (aA rfl) rfl rfl rfl) ?_
      refine tr1 rfl (aJ (v := .d (.lit (.int .i64 ((w64 (i_0_6 + 1)))))) (aA rfl) rfl rfl) ?_
      refine aF ?_
      exact ⟨(w64 (i_0_6 + 1)), h, bF [0] rfl rfl (aU rfl (bB ⟨rfl, rfl, trivial⟩))⟩
   ·have h := aY c8 h
    refine cX ?_
    refine .inl ⟨rfl, ?_⟩
    simp only [iJ] at h
    refine aE ?_
    refine aE ?_
    refine aC ?_
    refine tr1 rfl (bH (aA rfl) rfl (i := 0) rfl cV (es := (aQ t_0)) rfl rfl) ?_
    refine tr1 rfl (aD (v := .d (.sl 5 (l_1.map aL))) (aA rfl) rfl rfl) ?_
    obtain ⟨r14, h15, h⟩ := bind_some h
    refine tr1 rfl (eN (aA rfl) (.func _ _ Try.call55) rfl rfl (kS _ _ h15)) ?_
    refine tr1 rfl (aD (v := .tup [.agg (bC r14.1), .d (.lit (.bool r14.2))]) (aA rfl) rfl rfl) ?_
    refine tr1 rfl (bL (aA rfl) rfl rfl) ?_
    refine tr1 rfl (bL (aA rfl) rfl rfl) ?_
    refine bV rfl (dJ (zs := [.sl 1 ((([] : List Int)).map aN), .sl 1 ((([] : List (List Int))).map eL)]) (aA rfl) Try.zeroValue89 rfl rfl) ?_
    rintro _ ⟨b16, rfl⟩
    refine tr1 rfl (cB (i := 1) rfl rfl rfl rfl rfl Try.sizeOf89 rfl (aA rfl) (Nat.le_of_ble_eq_true rfl) (ds' := (bC r14.1)) rfl) ?_
    refine tr1 rfl (aJ (v := .d (.lit (.bool r14.2))) (aA rfl) rfl rfl) ?_
    refine aF ?_
    refine aE ?_
    refine aC ?_
    refine tr1 rfl (aD (v := .d (.lit (.bool r14.2))) (aA rfl) rfl rfl) ?_
    refine tr1 rfl (fU (aA rfl) rfl) ?_
    refine aF ?_
    refine bT rfl (fun c17 => ?_) (fun c17 => ?_)
    ·have h := aZ c17 h
     refine aE ?_
     refine aC ?_
     refine tr1 rfl (aJ (v := .d (.lit (.int .i64 72))) (aA rfl) rfl rfl) ?_
     refine aF ?_
     have h := Option.some.inj h
     subst h
     refine cL (cG (cK (l := [4]) ⟨rfl, trivial⟩)) ?_
     exact bM ⟨rfl, _, .one _, rfl, rfl⟩
    ·have h := aY c17 h
     refine bR ?_
     refine aE ?_
     refine aC ?_
     refine tr1 rfl (aJ (v := .d (.lit (.int .i64 0))) (aA rfl) rfl rfl) ?_
     refine aF ?_
     have h := Option.some.inj h
     subst h
     refine cL (cG (cK (l := [4]) ⟨rfl, trivial⟩)) ?_
     exact bM ⟨rfl, _, .one _, rfl, rfl⟩

theorem aAf (a0 : aO) (a1 : List aG) {r : (List cE) × Int} (h : qQ a0 a1 = some r) : Fn Try.prog 30 [.agg (aQ a0), .d (.sl 5 (a1.map aL))] ((fun x : (List cE) × Int => .tup [.d (.sl 4 (x.1.map dL)), .d (.lit (.int .i64 x.2))]) r) := rM (enc := fun x : (List cE) × Int => .tup [.d (.sl 4 (x.1.map dL)), .d (.lit (.int .i64 x.2))]) (aAe a0 a1 (yL a0 a1 h (fun x => x = r) rfl))

theorem pE (t_0 : aO) (l_1 : List aG) (round_2 : Int) (place_3 : Int) {r : Int} (h : eU t_0 l_1 round_2 place_3 = some r) : Fn Try.prog 59 [.agg (aQ t_0), .d (.sl 5 (l_1.map aL)), .d (.lit (.int .i64 round_2)), .d (.lit (.int .i64 place_3))] (.d (.lit (.int .i64 r))) := by
 unfold eU at h
 refine Fn.of_tr Try.func59 rfl (rs := [.tmp 8]) Try.results59 Try.ntmps59 (Nat.le_of_ble_eq_true rfl) ?_
 refine aE ?_
 refine aC ?_
 refine bV rfl (eH (v := .agg (aQ t_0)) (aA rfl) rfl rfl rfl) ?_
 rintro _ ⟨b1, rfl⟩
 refine tr1 rfl (aJ (v := .d (.lit (.int .i64 0))) (aA rfl) rfl rfl) ?_
 refine aF ?_
 refine aE ?_
 refine aE ?_
 refine aC ?_
 refine tr1 rfl (bH (aA rfl) rfl (i := 0) rfl cV (es := (aQ t_0)) rfl rfl) ?_
 refine tr1 rfl (aD (v := .d (.sl 5 (l_1.map aL))) (aA rfl) rfl rfl) ?_
 obtain ⟨r2, h3, h⟩ := bind_some h
 refine tr1 rfl (cH (aA rfl) (.func _ _ Try.call29) rfl rfl (BVs.refl _ _) (oM _ _ h3) rfl) ?_
 refine tr1 rfl (aJ (v := .d (.lit (.int .i64 r2))) (aA rfl) rfl rfl) ?_
 refine aF ?_
 refine aE ?_
 refine aC ?_
 refine tr1 rfl (aD (v := .d (.lit (.int .i64 r2))) (aA rfl) rfl rfl) ?_
 refine tr1 rfl (bI (aA rfl) rfl rfl rfl) ?_
 refine aF ?_
 refine bT rfl (fun c4 => ?_) (fun c4 => ?_)
 ·have h := aZ c4 h
  refine aE ?_
  refine aC ?_
  refine tr1 rfl (aD (v := .d (.lit (.int .i64 r2))) (aA rfl) rfl rfl) ?_
  refine tr1 rfl (aJ (v := .d (.lit (.int .i64 r2))) (aA rfl) rfl rfl) ?_
  refine aF ?_
  have h := Option.some.inj h
  subst h
  refine cL (cG (cK (l := [8]) ⟨rfl, trivial⟩)) ?_
  exact bM ⟨rfl, _, .one _, rfl, rfl⟩
 ·have h := aY c4 h
  refine bR ?_
  refine aE ?_
  refine aE ?_
  refine aC ?_
  refine tr1 rfl (bH (aA rfl) rfl (i := 0) rfl cV (es := (aQ t_0)) rfl rfl) ?_
  refine tr1 rfl (aD (v := .d (.lit (.int .i64 round_2))) (aA rfl) rfl rfl) ?_
  refine tr1 rfl (aD (v := .d (.lit (.int .i64 place_3))) (aA rfl) rfl rfl) ?_
  obtain ⟨r5, h6, h⟩ := bind_some h
  refine tr1 rfl (cH (aA rfl) (.func _ _ Try.call13) rfl rfl (BVs.refl _ _) (qR _ _ _ h6) rfl) ?_
  refine tr1 rfl (fU (aA rfl) rfl) ?_
  refine aF ?_
  refine bT rfl (fun c7 => ?_) (fun c7 => ?_)
  ·have h := aZ c7 h
   refine aE ?_
   refine aC ?_
   refine tr1 rfl (aJ (v := .d (.lit (.int .i64 1))) (aA rfl) rfl rfl) ?_
   refine aF ?_
   have h := Option.some.inj h
   subst h
   refine cL (cG (cK (l := [8]) ⟨rfl, trivial⟩)) ?_
   exact bM ⟨rfl, _, .one _, rfl, rfl⟩
  ·have h := aY c7 h
   refine bR ?_
   refine aE ?_
   refine aC ?_
   refine tr1 rfl (aJ (v := .d (.lit (.int .i64 0))) (aA rfl) rfl rfl) ?_
   refine aF ?_
   have h := Option.some.inj h
   subst h
   refine cL (cG (cK (l := [8]) ⟨rfl, trivial⟩)) ?_
   exact bM ⟨rfl, _, .one _, rfl, rfl⟩

theorem mN (t_0 : aO) (d_1 : aR) (slot_2 : Int) {r : Int} (h : iG t_0 d_1 slot_2 = some r) : Fn Try.prog 60 [.agg (aQ t_0), .agg (bC d_1), .d (.lit (.int .i64 slot_2))] (.d (.lit (.int .i64 r))) := by
 unfold iG at h
 refine Fn.of_tr Try.func60 rfl (rs := [.tmp 6]) Try.results60 Try.ntmps60 (Nat.le_of_ble_eq_true rfl) ?_
 refine aE ?_
 refine aC ?_
 refine bV rfl (eH (v := .agg (aQ t_0)) (aA rfl) rfl rfl rfl) ?_
 rintro _ ⟨b1, rfl⟩
 refine bV rfl (eH (v := .agg (bC d_1)) (aA rfl) rfl rfl rfl) ?_
 rintro _ ⟨b2, rfl⟩
 refine tr1 rfl (aJ (v := .d (.lit (.int .i64 0))) (aA rfl) rfl rfl) ?_
 refine aF ?_
 refine aE ?_
 refine aC ?_
 refine tr1 rfl (aJ (v := .d (.lit (.int .i64 0))) (aA rfl) rfl rfl) ?_
 refine aF ?_
 refine aE ?_
 refine cD ?_
 refine dI [2, 3, 4] (fun (s3 : Int) => [(7, .d (.lit (.int .i64 s3)))]) (fun (s3 : Int) => [.box b1 0 (aQ t_0), .box b2 0 (bC d_1)]) (fun (k : Nat) (s3 : Int) => gZ slot_2 t_0 d_1 k s3) (fun _ => rfl) (0) h (bF [0, 1] rfl rfl (aU rfl (bB ⟨rfl, rfl, rfl, trivial⟩))) ?_
 rintro k4 n_0_3 h
 simp only [gZ] at h
 refine aE ?_
 refine aE ?_
 obtain ⟨b5, h6, h⟩ := bind_some h
 refine dM mix 39 [2, 3, 4, 7] [(46, .d (.lit (.bool b5)))] ?_ ?_
 ·refine bN (decide (n_0_3 < t_0.Rounds)) (fun c7 => ?_) (fun c7 => ?_)
  ·have h6 := aZ c7 h6
   obtain ⟨x8, h9, h6⟩ := bind_some h6
   obtain ⟨u10, h11, h6⟩ := bind_some h6
   obtain ⟨x12, h13, h6⟩ := bind_some h6
   obtain ⟨b14, h15, h6⟩ := bind_some h6
   refine bN (decide (x12 = (-2))) (fun c16 => ?_) (fun c16 => ?_)
   ·have h15 := aZ c16 h15
    have h15 := Option.some.inj h15
    subst h15
    have h6 := Option.some.inj h6
    subst h6
    refine ⟨[(8, 0, .d (.lit (.int .i64 n_0_3))), (9, 1, .bp b1 0 0), (10, 2, .d (.lit (.int .i64 t_0.Rounds))), (11, 3, .d (.lit (.bool ((decide (n_0_3 < t_0.Rounds)))))), (12, 4, .d (.lit (.bool ((decide (n_0_3 < t_0.Rounds)))))), (13, 5, .bp b2 0 1), (14, 6, .d (.sl 1 (d_1.Must.map eL))), (15, 7, .d (.lit (.int .i64 n_0_3))), (16, 8, .cp [.sl 1 (x8.map aN)]), (17, 9, .d (.sl 1 (x8.map aN))), (18, 10, .d (.lit (.int .i64 slot_2))), (19, 11, .d (.lit (.int .i64 n_0_3))), (20, 12, .d (.lit (.int .i64 ((w64 (n_0_3 + 1)))))), (21, 13, .d (.lit (.int .u64 ((IntKind.u64.wrap (w64 (n_0_3 + 1))))))), (22, 14, .d (.lit (.int .i64 ((slot_2.fdiv (2 ^ (min (IntKind.u64.wrap (w64 (n_0_3 + 1))).toNat 64))))))), (23, 15, .cp [.lit (.int .i64 x12)]), (24, 16, .d (.lit (.int .i64 x12))), (25, 17, .d (.lit (.bool ((decide (x12 = (-2))))))), (26, 18, .d (.lit (.bool ((decide (x12 = (-2))))))), (27, 19, .tup []), (28, 20, .tup []), (29, 21, .tup []), (30, 22, .tup []), (31, 23, .tup []), (32, 24, .tup []), (33, 25, .tup []), (34, 26, .tup []), (35, 27, .tup []), (36, 28, .tup []), (37, 29, .tup []), (38, 30, .tup []), (39, 31, .tup []), (40, 32, .tup []), (41, 33, .tup []), (42, 34, .tup []), (43, 35, .tup []), (44, 36, .tup []), (45, 37, .d (.lit (.bool true))), (46, 38, .d (.lit (.bool (true))))], ?_, ?_⟩
    · exact ⟨by kernel_rfl, by kernel_rfl, by kernel_rfl, by kernel_rfl, by kernel_rfl, [([], []), ([], []), ([1], []), ([0, 2], []), ([3], []), ([4], []), ([4, 5], []), ([4], []), ([4, 6, 7], []), ([4, 8], []), ([4], []), ([4], []), ([4, 11], []), ([4, 12], []), ([4, 10, 13], []), ([4, 9, 14], []), ([4, 15], []), ([4, 16], []), ([4, 17], []), ([18], []), ([18, 19], []), ([18], []), ([18, 20, 21], []), ([18, 22], []), ([18], []), ([18], []), ([18, 25], []), ([18, 26], []), ([18, 24, 27], []), ([18, 23, 28], []), ([18, 29], []), ([18], []), ([18, 31], []), ([18], []), ([18, 32, 33], []), ([18, 34], []), ([18, 30, 35], []), ([4, 18, 36], []), ([4, 37], [])], by kernel_rfl, ⟨fun S hS => aH rfl (aT rfl (aD (v := .d (.lit (.int .i64 n_0_3))) (aA rfl) (aI hS rfl) rfl)),
      fun S hS => aH rfl (aT rfl (aV (aA rfl) (aI hS rfl) fA)),
      fun S hS => aH rfl (aT rfl (aW (aA rfl) (aI hS rfl) (i := 0) rfl rfl bJ)),
      fun S hS => aH rfl (aT rfl (bI (aA rfl) (aI hS rfl) (aI hS rfl) rfl)),
      fun S hS => aH rfl (aT rfl (aD (v := .d (.lit (.bool ((decide (n_0_3 < t_0.Rounds)))))) (aA rfl) (aI hS rfl) rfl)),
      fun S hS => aH rfl (bD rfl rfl (aA rfl) (aS hS rfl) c7 (aV (aA rfl) (aI hS rfl) kQ)),
      fun S hS => aH rfl (bD rfl rfl (aA rfl) (aS hS rfl) c7 (aW (aA rfl) (aI hS rfl) (i := 1) rfl rfl oU)),
      fun S hS => aH rfl (bD rfl rfl (aA rfl) (aS hS rfl) c7 (aD (v := .d (.lit (.int .i64 n_0_3))) (aA rfl) (aI hS rfl) rfl)),
      fun S hS => aH rfl (bD rfl rfl (aA rfl) (aS hS rfl) c7 (bQ (aA rfl) (aI hS rfl) (aI hS rfl) pS.of (bU eL h9))),
      fun S hS => aH rfl (bD rfl rfl (aA rfl) (aS hS rfl) c7 (bP (aA rfl) (aI hS rfl) cU)),
      fun S hS => aH rfl (bD rfl rfl (aA rfl) (aS hS rfl) c7 (aD (v := .d (.lit (.int .i64 slot_2))) (aA rfl) (aI hS rfl) rfl)),
      fun S hS => aH rfl (bD rfl rfl (aA rfl) (aS hS rfl) c7 (aD (v := .d (.lit (.int .i64 n_0_3))) (aA rfl) (aI hS rfl) rfl)),
      fun S hS => aH rfl (bD rfl rfl (aA rfl) (aS hS rfl) c7 (bO (aA rfl) (aI hS rfl) rfl rfl)),
      fun S hS => aH rfl (bD rfl rfl (aA rfl) (aS hS rfl) c7 (oW (aA rfl) (aI hS rfl) Try.runUnderlying3 Try.runUnderlying45)),
      fun S hS => aH rfl (bD rfl rfl (aA rfl) (aS hS rfl) c7 (pR (aA rfl) (aI hS rfl) (aI hS rfl) (nN h11))),
      fun S hS => aH rfl (bD rfl rfl (aA rfl) (aS hS rfl) c7 (bQ (aA rfl) (aI hS rfl) (aI hS rfl) bS.of (bU aN h13))),
      fun S hS => aH rfl (bD rfl rfl (aA rfl) (aS hS rfl) c7 (bP (aA rfl) (aI hS rfl) bJ)),
      fun S hS => aH rfl (bD rfl rfl (aA rfl) (aS hS rfl) c7 (bI (aA rfl) (aI hS rfl) rfl rfl)),
      fun S hS => aH rfl (bD rfl rfl (aA rfl) (aS hS rfl) c7 (aD (v := .d (.lit (.bool ((decide (x12 = (-2))))))) (aA rfl) (aI hS rfl) rfl)),
      fun S hS => aH rfl (bG rfl rfl (aA rfl) rfl (aA rfl) (aS hS rfl) c16),
      fun S hS => aH rfl (bG rfl rfl (aA rfl) rfl (aA rfl) (aS hS rfl) c16),
      fun S hS => aH rfl (bG rfl rfl (aA rfl) rfl (aA rfl) (aS hS rfl) c16),
      fun S hS => aH rfl (bG rfl rfl (aA rfl) rfl (aA rfl) (aS hS rfl) c16),
      fun S hS => aH rfl (bG rfl rfl (aA rfl) rfl (aA rfl) (aS hS rfl) c16),
      fun S hS => aH rfl (bG rfl rfl (aA rfl) rfl (aA rfl) (aS hS rfl) c16),
      fun S hS => aH rfl (bG rfl rfl (aA rfl) rfl (aA rfl) (aS hS rfl) c16),
      fun S hS => aH rfl (bG rfl rfl (aA rfl) rfl (aA rfl) (aS hS rfl) c16),
      fun S hS => aH rfl (bG rfl rfl (aA rfl) rfl (aA rfl) (aS hS rfl) c16),
      fun S hS => aH rfl (bG rfl rfl (aA rfl) rfl (aA rfl) (aS hS rfl) c16),
      fun S hS => aH rfl (bG rfl rfl (aA rfl) rfl (aA rfl) (aS hS rfl) c16),
      fun S hS => aH rfl (bG rfl rfl (aA rfl) rfl (aA rfl) (aS hS rfl) c16),
      fun S hS => aH rfl (bG rfl rfl (aA rfl) rfl (aA rfl) (aS hS rfl) c16),
      fun S hS => aH rfl (bG rfl rfl (aA rfl) rfl (aA rfl) (aS hS rfl) c16),
      fun S hS => aH rfl (bG rfl rfl (aA rfl) rfl (aA rfl) (aS hS rfl) c16),
      fun S hS => aH rfl (bG rfl rfl (aA rfl) rfl (aA rfl) (aS hS rfl) c16),
      fun S hS => aH rfl (bG rfl rfl (aA rfl) rfl (aA rfl) (aS hS rfl) c16),
      fun S hS => aH rfl (bG rfl rfl (aA rfl) rfl (aA rfl) (aS hS rfl) c16),
      fun S hS => aH rfl (bD rfl rfl (aA rfl) (aS hS rfl) c7 (bW (v := .d (.lit (.bool true))) (aA rfl) (aI hS rfl) c16 rfl rfl)),
      fun S hS => aH rfl (aT rfl (bW (v := .d (.lit (.bool (true)))) (aA rfl) (aI hS rfl) c7 (aI hS rfl) rfl)), trivial⟩⟩
    · exact cZ (aU rfl (bB ⟨rfl, rfl, rfl, rfl, trivial⟩))
   ·have h15 := aY c16 h15
    obtain ⟨x17, h18, h15⟩ := bind_some h15
    obtain ⟨u19, h20, h15⟩ := bind_some h15
    obtain ⟨x21, h22, h15⟩ := bind_some h15
    obtain ⟨x23, h24, h15⟩ := bind_some h15
    have h15 := Option.some.inj h15
    subst h15
    have h6 := Option.some.inj h6
    subst h6
    refine ⟨[(8, 0, .d (.lit (.int .i64 n_0_3))), (9, 1, .bp b1 0 0), (10, 2, .d (.lit (.int .i64 t_0.Rounds))), (11, 3, .d (.lit (.bool ((decide (n_0_3 < t_0.Rounds)))))), (12, 4, .d (.lit (.bool ((decide (n_0_3 < t_0.Rounds)))))), (13, 5, .bp b2 0 1), (14, 6, .d (.sl 1 (d_1.Must.map eL))), (15, 7, .d (.lit (.int .i64 n_0_3))), (16, 8, .cp [.sl 1 (x8.map aN)]), (17, 9, .d (.sl 1 (x8.map aN))), (18, 10, .d (.lit (.int .i64 slot_2))), (19, 11, .d (.lit (.int .i64 n_0_3))), (20, 12, .d (.lit (.int .i64 ((w64 (n_0_3 + 1)))))), (21, 13, .d (.lit (.int .u64 ((IntKind.u64.wrap (w64 (n_0_3 + 1))))))), (22, 14, .d (.lit (.int .i64 ((slot_2.fdiv (2 ^ (min (IntKind.u64.wrap (w64 (n_0_3 + 1))).toNat 64))))))), (23, 15, .cp [.lit (.int .i64 x12)]), (24, 16, .d (.lit (.int .i64 x12))), (25, 17, .d (.lit (.bool ((decide (x12 = (-2))))))), (26, 18, .d (.lit (.bool ((decide (x12 = (-2))))))), (27, 19, .bp b2 0 1), (28, 20, .d (.sl 1 (d_1.Must.map eL))), (29, 21, .d (.lit (.int .i64 n_0_3))), (30, 22, .cp [.sl 1 (x17.map aN)]), (31, 23, .d (.sl 1 (x17.map aN))), (32, 24, .d (.lit (.int .i64 slot_2))), (33, 25, .d (.lit (.int .i64 n_0_3))), (34, 26, .d (.lit (.int .i64 ((w64 (n_0_3 + 1)))))), (35, 27, .d (.lit (.int .u64 ((IntKind.u64.wrap (w64 (n_0_3 + 1))))))), (36, 28, .d (.lit (.int .i64 ((slot_2.fdiv (2 ^ (min (IntKind.u64.wrap (w64 (n_0_3 + 1))).toNat 64))))))), (37, 29, .cp [.lit (.int .i64 x21)]), (38, 30, .d (.lit (.int .i64 x21))), (39, 31, .bp b2 0 0), (40, 32, .d (.sl 1 (d_1.Slots.map aN))), (41, 33, .d (.lit (.int .i64 slot_2))), (42, 34, .cp [.lit (.int .i64 x23)]), (43, 35, .d (.lit (.int .i64 x23))), (44, 36, .d (.lit (.bool ((decide (x21 = x23)))))), (45, 37, .d (.lit (.bool ((decide (x21 = x23)))))), (46, 38, .d (.lit (.bool (decide (x21 = x23)))))], ?_, ?_⟩
    · exact ⟨by kernel_rfl, by kernel_rfl, by kernel_rfl, by kernel_rfl, by kernel_rfl, [([], []), ([], []), ([1], []), ([0, 2], []), ([3], []), ([4], []), ([4, 5], []), ([4], []), ([4, 6, 7], []), ([4, 8], []), ([4], []), ([4], []), ([4, 11], []), ([4, 12], []), ([4, 10, 13], []), ([4, 9, 14], []), ([4, 15], []), ([4, 16], []), ([4, 17], []), ([18], []), ([18, 19], []), ([18], []), ([18, 20, 21], []), ([18, 22], []), ([18], []), ([18], []), ([18, 25], []), ([18, 26], []), ([18, 24, 27], []), ([18, 23, 28], []), ([18, 29], []), ([18], []), ([18, 31], []), ([18], []), ([18, 32, 33], []), ([18, 34], []), ([18, 30, 35], []), ([4, 18, 36], []), ([4, 37], [])], by kernel_rfl, ⟨fun S hS => aH rfl (aT rfl (aD (v := .d (.lit (.int .i64 n_0_3))) (aA rfl) (aI hS rfl) rfl)),
      fun S hS => aH rfl (aT rfl (aV (aA rfl) (aI hS rfl) fA)),
      fun S hS => aH rfl (aT rfl (aW (aA rfl) (aI hS rfl) (i := 0) rfl rfl bJ)),
      fun S hS => aH rfl (aT rfl (bI (aA rfl) (aI hS rfl) (aI hS rfl) rfl)),
      fun S hS => aH rfl (aT rfl (aD (v := .d (.lit (.bool ((decide (n_0_3 < t_0.Rounds)))))) (aA rfl) (aI hS rfl) rfl)),
      fun S hS => aH rfl (bD rfl rfl (aA rfl) (aS hS rfl) c7 (aV (aA rfl) (aI hS rfl) kQ)),
      fun S hS => aH rfl (bD rfl rfl (aA rfl) (aS hS rfl) c7 (aW (aA rfl) (aI hS rfl) (i := 1) rfl rfl oU)),
      fun S hS => aH rfl (bD rfl rfl (aA rfl) (aS hS rfl) c7 (aD (v := .d (.lit (.int .i64 n_0_3))) (aA rfl) (aI hS rfl) rfl)),
      fun S hS => aH rfl (bD rfl rfl (aA rfl) (aS hS rfl) c7 (bQ (aA rfl) (aI hS rfl) (aI hS rfl) pS.of (bU eL h9))),
      fun S hS => aH rfl (bD rfl rfl (aA rfl) (aS hS rfl) c7 (bP (aA rfl) (aI hS rfl) cU)),
      fun S hS => aH rfl (bD rfl rfl (aA rfl) (aS hS rfl) c7 (aD (v := .d (.lit (.int .i64 slot_2))) (aA rfl) (aI hS rfl) rfl)),
      fun S hS => aH rfl (bD rfl rfl (aA rfl) (aS hS rfl) c7 (aD (v := .d (.lit (.int .i64 n_0_3))) (aA rfl) (aI hS rfl) rfl)),
      fun S hS => aH rfl (bD rfl rfl (aA rfl) (aS hS rfl) c7 (bO (aA rfl) (aI hS rfl) rfl rfl)),
      fun S hS => aH rfl (bD rfl rfl (aA rfl) (aS hS rfl) c7 (oW (aA rfl) (aI hS rfl) Try.runUnderlying3 Try.runUnderlying45)),
      fun S hS => aH rfl (bD rfl rfl (aA rfl) (aS hS rfl) c7 (pR (aA rfl) (aI hS rfl) (aI hS rfl) (nN h11))),
      fun S hS => aH rfl (bD rfl rfl (aA rfl) (aS hS rfl) c7 (bQ (aA rfl) (aI hS rfl) (aI hS rfl) bS.of (bU aN h13))),
      fun S hS => aH rfl (bD rfl rfl (aA rfl) (aS hS rfl) c7 (bP (aA rfl) (aI hS rfl) bJ)),
      fun S hS => aH rfl (bD rfl rfl (aA rfl) (aS hS rfl) c7 (bI (aA rfl) (aI hS rfl) rfl rfl)),
      fun S hS => aH rfl (bD rfl rfl (aA rfl) (aS hS rfl) c7 (aD (v := .d (.lit (.bool ((decide (x12 = (-2))))))) (aA rfl) (aI hS rfl) rfl)),
      fun S hS => aH rfl (bD rfl rfl (aA rfl) (aS hS rfl) c16 (aV (aA rfl) (aI hS rfl) kQ)),
      fun S hS => aH rfl (bD rfl rfl (aA rfl) (aS hS rfl) c16 (aW (aA rfl) (aI hS rfl) (i := 1) rfl rfl oU)),
      fun S hS => aH rfl (bD rfl rfl (aA rfl) (aS hS rfl) c16 (aD (v := .d (.lit (.int .i64 n_0_3))) (aA rfl) (aI hS rfl) rfl)),
      fun S hS => aH rfl (bD rfl rfl (aA rfl) (aS hS rfl) c16 (bQ (aA rfl) (aI hS rfl) (aI hS rfl) pS.of (bU eL h18))),
      fun S hS => aH rfl (bD rfl rfl (aA rfl) (aS hS rfl) c16 (bP (aA rfl) (aI hS rfl) cU)),
      fun S hS => aH rfl (bD rfl rfl (aA rfl) (aS hS rfl) c16 (aD (v := .d (.lit (.int .i64 slot_2))) (aA rfl) (aI hS rfl) rfl)),
      fun S hS => aH rfl (bD rfl rfl (aA rfl) (aS hS rfl) c16 (aD (v := .d (.lit (.int .i64 n_0_3))) (aA rfl) (aI hS rfl) rfl)),
      fun S hS => aH rfl (bD rfl rfl (aA rfl) (aS hS rfl) c16 (bO (aA rfl) (aI hS rfl) rfl rfl)),
      fun S hS => aH rfl (bD rfl rfl (aA rfl) (aS hS rfl) c16 (oW (aA rfl) (aI hS rfl) Try.runUnderlying3 Try.runUnderlying45)),
      fun S hS => aH rfl (bD rfl rfl (aA rfl) (aS hS rfl) c16 (pR (aA rfl) (aI hS rfl) (aI hS rfl) (nN h20))),
      fun S hS => aH rfl (bD rfl rfl (aA rfl) (aS hS rfl) c16 (bQ (aA rfl) (aI hS rfl) (aI hS rfl) bS.of (bU aN h22))),
      fun S hS => aH rfl (bD rfl rfl (aA rfl) (aS hS rfl) c16 (bP (aA rfl) (aI hS rfl) bJ)),
      fun S hS => aH rfl (bD rfl rfl (aA rfl) (aS hS rfl) c16 (aV (aA rfl) (aI hS rfl) qA)),
      fun S hS => aH rfl (bD rfl rfl (aA rfl) (aS hS rfl) c16 (aW (aA rfl) (aI hS rfl) (i := 1) rfl rfl cU)),
      fun S hS => aH rfl (bD rfl rfl (aA rfl) (aS hS rfl) c16 (aD (v := .d (.lit (.int .i64 slot_2))) (aA rfl) (aI hS rfl) rfl)),
      fun S hS => aH rfl (bD rfl rfl (aA rfl) (aS hS rfl) c16 (bQ (aA rfl) (aI hS rfl) (aI hS rfl) bS.of (bU aN h24))),
      fun S hS => aH rfl (bD rfl rfl (aA rfl) (aS hS rfl) c16 (bP (aA rfl) (aI hS rfl) bJ)),
      fun S hS => aH rfl (bD rfl rfl (aA rfl) (aS hS rfl) c16 (bI (aA rfl) (aI hS rfl) (aI hS rfl) rfl)),
      fun S hS => aH rfl (bD rfl rfl (aA rfl) (aS hS rfl) c7 (bX (v := .d (.lit (.bool ((decide (x21 = x23)))))) (aA rfl) (aI hS rfl) c16 (aI hS rfl) rfl)),
      fun S hS => aH rfl (aT rfl (bW (v := .d (.lit (.bool (decide (x21 = x23))))) (aA rfl) (aI hS rfl) c7 (aI hS rfl) rfl)), trivial⟩⟩
    · exact cZ (aU rfl (bB ⟨rfl, rfl, rfl, rfl, trivial⟩))
  ·have h6 := aY c7 h6
   have h6 := Option.some.inj h6
   subst h6
   refine ⟨[(8, 0, .d (.lit (.int .i64 n_0_3))), (9, 1, .bp b1 0 0), (10, 2, .d (.lit (.int .i64 t_0.Rounds))), (11, 3, .d (.lit (.bool ((decide (n_0_3 < t_0.Rounds)))))), (12, 4, .d (.lit (.bool ((decide (n_0_3 < t_0.Rounds)))))), (13, 5, .tup []), (14, 6, .tup []), (15, 7, .tup []), (16, 8, .tup []), (17, 9, .tup []), (18, 10, .tup []), (19, 11, .tup []), (20, 12, .tup []), (21, 13, .tup []), (22, 14, .tup []), (23, 15, .tup []), (24, 16, .tup []), (25, 17, .tup []), (26, 18, .tup []), (27, 19, .tup []), (28, 20, .tup []), (29, 21, .tup []), (30, 22, .tup []), (31, 23, .tup []), (32, 24, .tup []), (33, 25, .tup []), (34, 26, .tup []), (35, 27, .tup []), (36, 28, .tup []), (37, 29, .tup []), (38, 30, .tup []), (39, 31, .tup []), (40, 32, .tup []), (41, 33, .tup []), (42, 34, .tup []), (43, 35, .tup []), (44, 36, .tup []), (45, 37, .tup []), (46, 38, .d (.lit (.bool false)))], ?_, ?_⟩
   · exact ⟨by kernel_rfl, by kernel_rfl, by kernel_rfl, by kernel_rfl, by kernel_rfl, [([], []), ([], []), ([1], []), ([0, 2], []), ([3], []), ([4], []), ([4, 5], []), ([4], []), ([4, 6, 7], []), ([4, 8], []), ([4], []), ([4], []), ([4, 11], []), ([4, 12], []), ([4, 10, 13], []), ([4, 9, 14], []), ([4, 15], []), ([4, 16], []), ([4, 17], []), ([18], []), ([18, 19], []), ([18], []), ([18, 20, 21], []), ([18, 22], []), ([18], []), ([18], []), ([18, 25], []), ([18, 26], []), ([18, 24, 27], []), ([18, 23, 28], []), ([18, 29], []), ([18], []), ([18, 31], []), ([18], []), ([18, 32, 33], []), ([18, 34], []), ([18, 30, 35], []), ([4, 18, 36], []), ([4, 37], [])], by kernel_rfl, ⟨fun S hS => aH rfl (aT rfl (aD (v := .d (.lit (.int .i64 n_0_3))) (aA rfl) (aI hS rfl) rfl)),
      fun S hS => aH rfl (aT rfl (aV (aA rfl) (aI hS rfl) fA)),
      fun S hS => aH rfl (aT rfl (aW (aA rfl) (aI hS rfl) (i := 0) rfl rfl bJ)),
      fun S hS => aH rfl (aT rfl (bI (aA rfl) (aI hS rfl) (aI hS rfl) rfl)),
      fun S hS => aH rfl (aT rfl (aD (v := .d (.lit (.bool ((decide (n_0_3 < t_0.Rounds)))))) (aA rfl) (aI hS rfl) rfl)),
      fun S hS => aH rfl (bG rfl rfl (aA rfl) rfl (aA rfl) (aS hS rfl) c7),
      fun S hS => aH rfl (bG rfl rfl (aA rfl) rfl (aA rfl) (aS hS rfl) c7),
      fun S hS => aH rfl (bG rfl rfl (aA rfl) rfl (aA rfl) (aS hS rfl) c7),
      fun S hS => aH rfl (bG rfl rfl (aA rfl) rfl (aA rfl) (aS hS rfl) c7),
      fun S hS => aH rfl (bG rfl rfl (aA rfl) rfl (aA rfl) (aS hS rfl) c7),
      fun S hS => aH rfl (bG rfl rfl (aA rfl) rfl (aA rfl) (aS hS rfl) c7),
      fun S hS => aH rfl (bG rfl rfl (aA rfl) rfl (aA rfl) (aS hS rfl) c7),
      fun S hS => aH rfl (bG rfl rfl (aA rfl) rfl (aA rfl) (aS hS rfl) c7),
      fun S hS => aH rfl (bG rfl rfl (aA rfl) rfl (aA rfl) (aS hS rfl) c7),
      fun S hS => aH rfl (bG rfl rfl (aA rfl) rfl (aA rfl) (aS hS rfl) c7),
      fun S hS => aH rfl (bG rfl rfl (aA rfl) rfl (aA rfl) (aS hS rfl) c7),
      fun S hS => aH rfl (bG rfl rfl (aA rfl) rfl (aA rfl) (aS hS rfl) c7),
      fun S hS => aH rfl (bG rfl rfl (aA rfl) rfl (aA rfl) (aS hS rfl) c7),
      fun S hS => aH rfl (bG rfl rfl (aA rfl) rfl (aA rfl) (aS hS rfl) c7),
      fun S hS => aH rfl (iL rfl rfl (aA rfl) rfl (aA rfl) (aS hS rfl)),
      fun S hS => aH rfl (iL rfl rfl (aA rfl) rfl (aA rfl) (aS hS rfl)),
      fun S hS => aH rfl (iL rfl rfl (aA rfl) rfl (aA rfl) (aS hS rfl)),
      fun S hS => aH rfl (iL rfl rfl (aA rfl) rfl (aA rfl) (aS hS rfl)),
      fun S hS => aH rfl (iL rfl rfl (aA rfl) rfl (aA rfl) (aS hS rfl)),
      fun S hS => aH rfl (iL rfl rfl (aA rfl) rfl (aA rfl) (aS hS rfl)),
      fun S hS => aH rfl (iL rfl rfl (aA rfl) rfl (aA rfl) (aS hS rfl)),
      fun S hS => aH rfl (iL rfl rfl (aA rfl) rfl (aA rfl) (aS hS rfl)),
      fun S hS => aH rfl (iL rfl rfl (aA rfl) rfl (aA rfl) (aS hS rfl)),
      fun S hS => aH rfl (iL rfl rfl (aA rfl) rfl (aA rfl) (aS hS rfl)),
      fun S hS => aH rfl (iL rfl rfl (aA rfl) rfl (aA rfl) (aS hS rfl)),
      fun S hS => aH rfl (iL rfl rfl (aA rfl) rfl (aA rfl) (aS hS rfl)),
      fun S hS => aH rfl (iL rfl rfl (aA rfl) rfl (aA rfl) (aS hS rfl)),
      fun S hS => aH rfl (iL rfl rfl (aA rfl) rfl (aA rfl) (aS hS rfl)),
      fun S hS => aH rfl (iL rfl rfl (aA rfl) rfl (aA rfl) (aS hS rfl)),
      fun S hS => aH rfl (iL rfl rfl (aA rfl) rfl (aA rfl) (aS hS rfl)),
      fun S hS => aH rfl (iL rfl rfl (aA rfl) rfl (aA rfl) (aS hS rfl)),
      fun S hS => aH rfl (iL rfl rfl (aA rfl) rfl (aA rfl) (aS hS rfl)),
      fun S hS => aH rfl (bG rfl rfl (aA rfl) rfl (aA rfl) (aS hS rfl) c7),
      fun S hS => aH rfl (aT rfl (bX (v := .d (.lit (.bool false))) (aA rfl) (aI hS rfl) c7 rfl rfl)), trivial⟩⟩
   · exact cZ (aU rfl (bB ⟨rfl, rfl, rfl, rfl, trivial⟩))
 ·refine aF ?_
  refine bT rfl (fun c25 => ?_) (fun c25 => ?_)
  ·have h := aZ c25 h
   refine bR ?_
   refine cD ?_
   refine aC ?_
   refine tr1 rfl (aD (v := .d (.lit (.int .i64 n_0_3))) (aA rfl) rfl rfl) ?_
   refine tr1 rfl (bO (aA rfl) rfl rfl rfl) ?_
   refine tr1 rfl (aJ (v := .d (.lit (.int .i64 ((w64 (n_0_3 + 1)))))) (aA rfl) rfl rfl) ?_
   refine eV ?_
   exact ⟨(w64 (n_0_3 + 1)), h, bF [0, 1] rfl rfl (aU rfl (bB ⟨rfl, rfl, rfl, trivial⟩))⟩
  ·have h := aY c25 h
   refine cX ?_
   refine .inl ⟨rfl, ?_⟩
   simp only [lZ] at h
   refine aE ?_
   refine aC ?_
   refine tr1 rfl (aD (v := .d (.lit (.int .i64 n_0_3))) (aA rfl) rfl rfl) ?_
   refine tr1 rfl (aJ (v := .d (.lit (.int .i64 n_0_3))) (aA rfl) rfl rfl) ?_
   refine aF ?_
   have h := Option.some.inj h
   subst h
   refine cL (cG (cK (l := [6]) ⟨rfl, trivial⟩)) ?_
   exact bM ⟨rfl, _, .one _, rfl, rfl⟩

theorem wR (l_0 : List Int) {r : (List Int)} (h : kU l_0 = some r) : Fn Try.prog 61 [.d (.sl 1 (l_0.map aN))] (.d (.sl 1 (r.map aN))) := by
 unfold kU at h
 refine Fn.of_tr Try.func61 rfl (rs := [.tmp 2]) Try.results61 Try.ntmps61 (Nat.le_of_ble_eq_true rfl) ?_
 refine aE ?_
 refine aC ?_
 refine tr1 rfl (qW 1 (aA rfl)) ?_
 refine aF ?_
 refine aE ?_
 refine aC ?_
 refine tr1 rfl (jK 3 1 (.inl rfl) (aA rfl)) ?_
 refine aF ?_
 refine aE ?_
 refine aE ?_
 refine aC ?_
 refine tr1 rfl (aJ (v := .d (.lit (.int .i64 0))) (aA rfl) rfl rfl) ?_
 refine aF ?_
 refine cD ?_
 refine dI [0] (fun (s2 : Int × (List Int) × Value) => [(3, .d (.lit s2.2.2)), (4, .d (.lit (.int .i64 s2.1)))]) (fun (s2 : Int × (List Int) × Value) => [.arr s2.2.2 3 1 (s2.2.1.map aN)]) (fun (k : Nat) (s2 : Int × (List Int) × Value) => fG l_0 k s2.1 s2.2.1) (fun _ => rfl) (0, ([] : List Int), (.slice none 0 0)) h (bF [0] rfl rfl (aU rfl (aU rfl (bB ⟨rfl, trivial⟩)))) ?_
 rintro k4 ⟨i_0_2, out_0_2, w3⟩ h
 simp only [fG] at h
 refine aE ?_
 refine aE ?_
 refine aC ?_
 refine tr1 rfl (aD (v := .d (.lit (.int .i64 i_0_2))) (aA rfl) rfl rfl) ?_
 refine tr1 rfl (aD (v := .d (.sl 1 (l_0.map aN))) (aA rfl) rfl rfl) ?_
 refine tr1 rfl (eB (aA rfl) rfl bS.of) ?_
 refine tr1 rfl (bI (aA rfl) rfl rfl rfl) ?_
 refine aF ?_
 refine bT rfl (fun c5 => ?_) (fun c5 => ?_)
 ·have h := aZ c5 h
  refine bR ?_
  refine aE ?_
  refine cD ?_
  refine aE ?_
  refine aC ?_
  refine tr1 rfl (aD (v := .d (.lit w3)) (aA rfl) rfl rfl) ?_
  refine tr1 rfl (aD (v := .d (.sl 1 (l_0.map aN))) (aA rfl) rfl rfl) ?_
  refine tr1 rfl (aD (v := .d (.lit (.int .i64 i_0_2))) (aA rfl) rfl rfl) ?_
  obtain ⟨x6, h7, h⟩ := bind_some h
  refine tr1 rfl (bQ (aA rfl) rfl rfl bS.of (bU aN h7)) ?_
  refine tr1 rfl (bP (aA rfl) rfl bJ) ?_
  refine tr1 rfl (fQ (aA rfl) bS rfl rfl (rows := ([x6]).map aN) rfl (dG (f := aN) fun _ => rfl) rfl (by decide)) ?_
  obtain ⟨x8, h9, h⟩ := bind_some h
  refine bV rfl (fZ (i := 0) (aA rfl) bS rfl rfl rfl (fun _ => rfl) h9 rfl) ?_
  rintro _ ⟨v10, rfl⟩
  refine tr1 rfl (aJ (v := .d (.lit v10)) (aA rfl) rfl rfl) ?_
  refine aF ?_
  refine aE ?_
  refine aC ?_
  refine tr1 rfl (aD (v := .d (.lit v10)) (aA rfl) rfl rfl) ?_
  refine tr1 rfl (nO (m := 0) (aA rfl) rfl rfl bS.of) ?_
  refine tr1 rfl (bO (aA rfl) rfl rfl rfl) ?_
  refine tr1 rfl (aJ (v := .d (.lit (.int .i64 ((w64 ((x8.length : Int) - 1)))))) (aA rfl) rfl rfl) ?_
  refine aF ?_
  refine uZ ?_
  refine dI [0, 4] (fun (s11 : Int × (List Int)) => [(3, .d (.lit v10)), (5, .d (.lit (.int .i64 s11.1)))]) (fun (s11 : Int × (List Int)) => [.arr v10 3 1 (s11.2.map aN)]) (fun (k : Nat) (s11 : Int × (List Int)) => gF (fG l_0 k4) l_0 i_0_2 k s11.1 s11.2) (fun _ => rfl) (w64 ((x8.length : Int) - 1), x8) h (bF [0] rfl rfl (aU rfl (aU rfl (bB ⟨rfl, rfl, trivial⟩)))) ?_
  rintro k12 ⟨k_2_11, out_2_11⟩ h
  simp only [gF] at h
  refine aE ?_
  refine aE ?_
  obtain ⟨b13, h14, h⟩ := bind_some h
  refine dM mix 14 [0, 3, 4, 5] [(35, .d (.lit (.bool b13)))] ?_ ?_
  ·refine bN (decide (0 < k_2_11)) (fun c15 => ?_) (fun c15 => ?_)
   ·have h14 := aZ c15 h14
    obtain ⟨x16, h17, h14⟩ := bind_some h14
    obtain ⟨x18, h19, h14⟩ := bind_some h14
    have h14 := Option.some.inj h14
    subst h14
    refine ⟨[(22, 0, .d (.lit (.int .i64 k_2_11))), (23, 1, .d (.lit (.bool ((decide (0 < k_2_11)))))), (24, 2, .d (.lit (.bool ((decide (0 < k_2_11)))))), (25, 3, .d (.lit v10)), (26, 4, .d (.lit (.int .i64 k_2_11))), (27, 5, .ep v10 1 k_2_11.toNat 0), (28, 6, .d (.lit (.int .i64 x16))), (29, 7, .d (.lit v10)), (30, 8, .d (.lit (.int .i64 k_2_11))), (31, 9, .d (.lit (.int .i64 ((w64 (k_2_11 - 1)))))), (32, 10, .ep v10 1 (w64 (k_2_11 - 1)).toNat 0), (33, 11, .d (.lit (.int .i64 x18))), (34, 12, .d (.lit (.bool ((decide (x16 < x18)))))), (35, 13, .d (.lit (.bool ((decide (x16 < x18))))))], ?_, ?_⟩
    · exact ⟨by kernel_rfl, by kernel_rfl, by kernel_rfl, by kernel_rfl, by kernel_rfl, [([], []), ([0], []), ([1], []), ([2], []), ([2], []), ([2, 3, 4], []), ([2, 5], []), ([2], []), ([2], []), ([2, 8], []), ([2, 7, 9], []), ([2, 10], []), ([2, 6, 11], []), ([2, 12], [])], by kernel_rfl, ⟨fun S hS => aH rfl (aT rfl (aD (v := .d (.lit (.int .i64 k_2_11))) (aA rfl) (aI hS rfl) rfl)),
      fun S hS => aH rfl (aT rfl (bI (aA rfl) (aI hS rfl) rfl rfl)),
      fun S hS => aH rfl (aT rfl (aD (v := .d (.lit (.bool ((decide (0 < k_2_11)))))) (aA rfl) (aI hS rfl) rfl)),
      fun S hS => aH rfl (bD rfl rfl (aA rfl) (aS hS rfl) c15 (aD (v := .d (.lit v10)) (aA rfl) (aI hS rfl) rfl)),
      fun S hS => aH rfl (bD rfl rfl (aA rfl) (aS hS rfl) c15 (aD (v := .d (.lit (.int .i64 k_2_11))) (aA rfl) (aI hS rfl) rfl)),
      fun S hS => aH rfl (bD rfl rfl (aA rfl) (aS hS rfl) c15 (eY (m := 0) (aA rfl) (aI hS rfl) rfl (aI hS rfl) bS.of (bU aN h17))),
      fun S hS => aH rfl (bD rfl rfl (aA rfl) (aS hS rfl) c15 (jJ (aA rfl) (aI hS rfl) (m := 0) rfl (mD aN h17) rfl bJ)),
      fun S hS => aH rfl (bD rfl rfl (aA rfl) (aS hS rfl) c15 (aD (v := .d (.lit v10)) (aA rfl) (aI hS rfl) rfl)),
      fun S hS => aH rfl (bD rfl rfl (aA rfl) (aS hS rfl) c15 (aD (v := .d (.lit (.int .i64 k_2_11))) (aA rfl) (aI hS rfl) rfl)),
      fun S hS => aH rfl (bD rfl rfl (aA rfl) (aS hS rfl) c15 (bO (aA rfl) (aI hS rfl) rfl rfl)),
      fun S hS => aH rfl (bD rfl rfl (aA rfl) (aS hS rfl) c15 (eY (m := 0) (aA rfl) (aI hS rfl) rfl (aI hS rfl) bS.of (bU aN h19))),
      fun S hS => aH rfl (bD rfl rfl (aA rfl) (aS hS rfl) c15 (jJ (aA rfl) (aI hS rfl) (m := 0) rfl (mD aN h19) rfl bJ)),
      fun S hS => aH rfl (bD rfl rfl (aA rfl) (aS hS rfl) c15 (bI (aA rfl) (aI hS rfl) (aI hS rfl) rfl)),
      fun S hS => aH rfl (aT rfl (bW (v := .d (.lit (.bool ((decide (x16 < x18)))))) (aA rfl) (aI hS rfl) c15 (aI hS rfl) rfl)), trivial⟩⟩
    · exact cZ (aU rfl (bB ⟨rfl, rfl, rfl, rfl, trivial⟩))
   ·have h14 := aY c15 h14
    have h14 := Option.some.inj h14
    subst h14
    refine ⟨[(22, 0, .d (.lit (.int .i64 k_2_11))), (23, 1, .d (.lit (.bool ((decide (0 < k_2_11)))))), (24, 2, .d (.lit (.bool ((decide (0 < k_2_11)))))), (25, 3, .tup []), (26, 4, .tup []), (27, 5, .tup []), (28, 6, .tup []), (29, 7, .tup []), (30, 8, .tup []), (31, 9, .tup []), (32, 10, .tup []), (33, 11, .tup []), (34, 12, .tup []), (35, 13, .d (.lit (.bool false)))], ?_, ?_⟩
    · exact ⟨by kernel_rfl, by kernel_rfl, by kernel_rfl, by kernel_rfl, by kernel_rfl, [([], []), ([0], []), ([1], []), ([2], []), ([2], []), ([2, 3, 4], []), ([2, 5], []), ([2], []), ([2], []), ([2, 8], []), ([2, 7, 9], []), ([2, 10], []), ([2, 6, 11], []), ([2, 12], [])], by kernel_rfl, ⟨fun S hS => aH rfl (aT rfl (aD (v := .d (.lit (.int .i64 k_2_11))) (aA rfl) (aI hS rfl) rfl)),
      fun S hS => aH rfl (aT rfl (bI (aA rfl) (aI hS rfl) rfl rfl)),
      fun S hS => aH rfl (aT rfl (aD (v := .d (.lit (.bool ((decide (0 < k_2_11)))))) (aA rfl) (aI hS rfl) rfl)),
      fun S hS => aH rfl (bG rfl rfl (aA rfl) rfl (aA rfl) (aS hS rfl) c15),
      fun S hS => aH rfl (bG rfl rfl (aA rfl) rfl (aA rfl) (aS hS rfl) c15),
      fun S hS => aH rfl (bG rfl rfl (aA rfl) rfl (aA rfl) (aS hS rfl) c15),
      fun S hS => aH rfl (bG rfl rfl (aA rfl) rfl (aA rfl) (aS hS rfl) c15),
      fun S hS => aH rfl (bG rfl rfl (aA rfl) rfl (aA rfl) (aS hS rfl) c15),
      fun S hS => aH rfl (bG rfl rfl (aA rfl) rfl (aA rfl) (aS hS rfl) c15),
      fun S hS => aH rfl (bG rfl rfl (aA rfl) rfl (aA rfl) (aS hS rfl) c15),
      fun S hS => aH rfl (bG rfl rfl (aA rfl) rfl (aA rfl) (aS hS rfl) c15),
      fun S hS => aH rfl (bG rfl rfl (aA rfl) rfl (aA rfl) (aS hS rfl) c15),
      fun S hS => aH rfl (bG rfl rfl (aA rfl) rfl (aA rfl) (aS hS rfl) c15),
      fun S hS => aH rfl (aT rfl (bX (v := .d (.lit (.bool false))) (aA rfl) (aI hS rfl) c15 rfl rfl)), trivial⟩⟩
    · exact cZ (aU rfl (bB ⟨rfl, rfl, rfl, rfl, trivial⟩))
  ·refine aF ?_
   refine bT rfl (fun c20 => ?_) (fun c20 => ?_)
   ·have h := aZ c20 h
    refine bR ?_
    refine aE ?_
    refine cD ?_
    obtain ⟨x22, h23, h⟩ := bind_some h
    obtain ⟨x24, h25, h⟩ := bind_some h
    obtain ⟨x26, h27, h⟩ := bind_some h
    refine qK mix 16 [0, 3, 4, 5] (fun X21 => [(40, .d (.lit v10)), (42, .d (.lit (.int .i64 ((w64 (k_2_11 - 1)))))), (51, .d (.lit (.int .i64 x24)))]) (fun X21 => [.arr v10 3 1 ((out_2_11.set k_2_11.toNat x22).map aN)]) ?_ ?_
    ·refine ⟨0, fun X21 => [(38, 0, .d (.lit v10)), (39, 1, .d (.lit (.int .i64 k_2_11))), (40, 2, .d (.lit v10)), (41, 3, .d (.lit (.int .i64 k_2_11))), (42, 4, .d (.lit (.int .i64 ((w64 (k_2_11 - 1)))))), (43, 5, .d (.lit v10)), (44, 6, .d (.lit (.int .i64 k_2_11))), (45, 7, .d (.lit (.int .i64 ((w64 (k_2_11 - 1)))))), (46, 8, .ep v10 1 (w64 (k_2_11 - 1)).toNat 0), (47, 9, .d (.lit (.int .i64 x22))), (48, 10, .d (.lit v10)), (49, 11, .d (.lit (.int .i64 k_2_11))), (50, 12, .ep v10 1 k_2_11.toNat 0), (51, 13, .d (.lit (.int .i64 x24))), (52, 14, .ep v10 1 k_2_11.toNat 0)], fun X21 => [([(15, .arr v10 3 1 ((out_2_11.set k_2_11.toNat x22).map aN))], .arr v10 3 1 (out_2_11.map aN))], ?_, ?_⟩
     · exact ⟨by kernel_rfl, by kernel_rfl, by kernel_rfl, fun _ => by kernel_rfl, fun _ => by kernel_rfl, fun _ => by kernel_rfl, fun _ => rfl, [([], [15]), ([], [15]), ([], []), ([], []), ([3], []), ([], [15]), ([], [15]), ([6], [15]), ([5, 7], [15]), ([8], [15]), ([], [15]), ([], [15]), ([10, 11], [15]), ([12], [15]), ([0, 1], [15]), ([9, 14], [])], by kernel_rfl, ⟨fun X21 S hw hi hS => dW (X := X21) rfl (hw X21) rfl (aT rfl (aD (v := .d (.lit v10)) (aA rfl) (aI hS rfl) rfl)),
      fun X21 S hw hi hS => dW (X := X21) rfl (hw X21) rfl (aT rfl (aD (v := .d (.lit (.int .i64 k_2_11))) (aA rfl) (aI hS rfl) rfl)),
      fun X21 S hw hi hS => dW (X := X21) rfl (hw X21) rfl (aT rfl (aD (v := .d (.lit v10)) (aA rfl) (aI hS rfl) rfl)),
      fun X21 S hw hi hS => dW (X := X21) rfl (hw X21) rfl (aT rfl (aD (v := .d (.lit (.int .i64 k_2_11))) (aA rfl) (aI hS rfl) rfl)),
      fun X21 S hw hi hS => dW (X := X21) rfl (hw X21) rfl (aT rfl (bO (aA rfl) (aI hS rfl) rfl rfl)),
      fun X21 S hw hi hS => dW (X := X21) rfl (hw X21) rfl (aT rfl (aD (v := .d (.lit v10)) (aA rfl) (aI hS rfl) rfl)),
      fun X21 S hw hi hS => dW (X := X21) rfl (hw X21) rfl (aT rfl (aD (v := .d (.lit (.int .i64 k_2_11))) (aA rfl) (aI hS rfl) rfl)),
      fun X21 S hw hi hS => dW (X := X21) rfl (hw X21) rfl (aT rfl (bO (aA rfl) (aI hS rfl) rfl rfl)),
      fun X21 S hw hi hS => dW (X := X21) rfl (hw X21) rfl (aT rfl (eY (m := 0) (aA rfl) (aI hS rfl) (og hS rfl rfl) (aI hS rfl) bS.of (bU aN h23))),
      fun X21 S hw hi hS => dW (X := X21) rfl (hw X21) rfl (aT rfl (jJ (aA rfl) (aI hS rfl) (m := 0) (og hS rfl rfl) (mD aN h23) rfl bJ)),
      fun X21 S hw hi hS => dW (X := X21) rfl (hw X21) rfl (aT rfl (aD (v := .d (.lit v10)) (aA rfl) (aI hS rfl) rfl)),
      fun X21 S hw hi hS => dW (X := X21) rfl (hw X21) rfl (aT rfl (aD (v := .d (.lit (.int .i64 k_2_11))) (aA rfl) (aI hS rfl) rfl)),
      fun X21 S hw hi hS => dW (X := X21) rfl (hw X21) rfl (aT rfl (eY (m := 0) (aA rfl) (aI hS rfl) (og hS rfl rfl) (aI hS rfl) bS.of (bU aN h25))),
      fun X21 S hw hi hS => dW (X := X21) rfl (hw X21) rfl (aT rfl (jJ (aA rfl) (aI hS rfl) (m := 0) (og hS rfl rfl) (mD aN h25) rfl bJ)),
      fun X21 S hw hi hS => dW (X := X21) rfl (hw X21) rfl (aT rfl (eY (m := 0) (aA rfl) (aI hS rfl) (og hS rfl rfl) (aI hS rfl) bS.of (bU aN h27))),
      fun X21 S hw hi hS => aBv (X := X21) hS rfl rfl rfl (p := 0) rfl rfl (aT rfl (sW (l := 0) (aI hS rfl) (og hS rfl rfl) (mD aN h27) (aI hS rfl) rfl rfl Try.sizeOf3 rfl (aA rfl) (Nat.le_of_ble_eq_true rfl) (rows' := ((out_2_11.set k_2_11.toNat x22)).map aN) (aBu _ _ _ _ rfl))), trivial⟩⟩
     · exact fun X21 => cZ (aU rfl (aU rfl (aU rfl (bB ⟨rfl, rfl, rfl, rfl, trivial⟩))))
    ·intro X21
     obtain ⟨x28, h29, h⟩ := bind_some h
     refine tr1 rfl (eY (m := 0) (aA rfl) rfl rfl rfl bS.of (bU aN h29)) ?_
     refine tr1 rfl (sW (l := 0) rfl rfl (mD aN h29) rfl rfl rfl Try.sizeOf3 rfl (aA rfl) (Nat.le_of_ble_eq_true rfl) (rows' := (((out_2_11.set k_2_11.toNat x22).set (w64 (k_2_11 - 1)).toNat x24)).map aN) (aBu _ _ _ _ rfl)) ?_
     refine eV ?_
     refine aC ?_
     refine tr1 rfl (aD (v := .d (.lit (.int .i64 k_2_11))) (aA rfl) rfl rfl) ?_
     refine tr1 rfl (bO (aA rfl) rfl rfl rfl) ?_
     refine tr1 rfl (aJ (v := .d (.lit (.int .i64 ((w64 (k_2_11 - 1)))))) (aA rfl) rfl rfl) ?_
     refine aF ?_
     exact ⟨(w64 (k_2_11 - 1), ((out_2_11.set k_2_11.toNat x22).set (w64 (k_2_11 - 1)).toNat x24)), h, bF [0] rfl rfl (aU rfl (aU rfl (bB ⟨rfl, rfl, trivial⟩)))⟩
   ·have h := aY c20 h
    refine cX ?_
    refine .inl ⟨rfl, ?_⟩
    simp only [kW] at h
    simp only [nI] at h
    refine aC ?_
    refine tr1 rfl (aD (v := .d (.lit (.int .i64 i_0_2))) (aA rfl) rfl rfl) ?_
    refine tr1 rfl (bO (aA rfl) rfl rfl rfl) ?_
    refine tr1 rfl (aJ (v := .d (.lit (.int .i64 ((w64 (i_0_2 + 1)))))) (aA rfl) rfl rfl) ?_
    refine aF ?_
    exact ⟨(w64 (i_0_2 + 1), out_2_11, v10), h, bF [0] rfl rfl (aU rfl (aU rfl (bB ⟨rfl, trivial⟩)))⟩
 ·have h := aY c5 h
  refine cX ?_
  refine .inl ⟨rfl, ?_⟩
  simp only [nH] at h
  refine aE ?_
  refine aC ?_
  refine tr1 rfl (aD (v := .d (.lit w3)) (aA rfl) rfl rfl) ?_
  refine tr1 rfl (aJ (v := .d (.lit w3)) (aA rfl) rfl rfl) ?_
  refine aF ?_
  have h := Option.some.inj h
  subst h
  refine cL (cG (sZ (k := 2) (v := .d (.sl 1 (out_0_2.map aN))) (.d (mA 0 rfl (dG (f := aN) fun _ => rfl))) (aBi))) ?_
  exact bM ⟨rfl, _, .one _, rfl, rfl⟩

theorem zL (t_0 : aO) (l_1 : List aG) (round_2 : Int) (place_3 : Int) {r : (List Int) × Int} (h : fB t_0 l_1 round_2 place_3 = some r) : Fn Try.prog 38 [.agg (aQ t_0), .d (.sl 5 (l_1.map aL)), .d (.lit (.int .i64 round_2)), .d (.lit (.int .i64 place_3))] (.tup [.d (.sl 1 (r.1.map aN)), .d (.lit (.int .i64 r.2))]) := by
 unfold fB at h
 refine Fn.of_tr Try.func38 rfl (rs := [.tmp 8, .tmp 9]) Try.results38 Try.ntmps38 (Nat.le_of_ble_eq_true rfl) ?_
 refine aE ?_
 refine aC ?_
 refine bV rfl (eH (v := .agg (aQ t_0)) (aA rfl) rfl rfl rfl) ?_
 rintro _ ⟨b1, rfl⟩
 refine tr1 rfl (qW 1 (aA rfl)) ?_
 refine tr1 rfl (aJ (v := .d (.lit (.int .i64 0))) (aA rfl) rfl rfl) ?_
 refine aF ?_
 refine aE ?_
 refine aE ?_
 refine aC ?_
 refine tr1 rfl (bH (aA rfl) rfl (i := 0) rfl cV (es := (aQ t_0)) rfl rfl) ?_
 refine tr1 rfl (aD (v := .d (.sl 5 (l_1.map aL))) (aA rfl) rfl rfl) ?_
 refine tr1 rfl (aD (v := .d (.lit (.int .i64 round_2))) (aA rfl) rfl rfl) ?_
 refine tr1 rfl (aD (v := .d (.lit (.int .i64 place_3))) (aA rfl) rfl rfl) ?_
 obtain ⟨r2, h3, h⟩ := bind_some h
 refine tr1 rfl (cH (aA rfl) (.func _ _ Try.call59) rfl rfl (BVs.refl _ _) (pE _ _ _ _ h3) rfl) ?_
 refine tr1 rfl (aJ (v := .d (.lit (.int .i64 r2))) (aA rfl) rfl rfl) ?_
 refine aF ?_
 refine aE ?_
 refine aC ?_
 refine tr1 rfl (aD (v := .d (.lit (.int .i64 r2))) (aA rfl) rfl rfl) ?_
 refine tr1 rfl (bI (aA rfl) rfl rfl rfl) ?_
 refine aF ?_
 refine bT rfl (fun c4 => ?_) (fun c4 => ?_)
 ·have h := aZ c4 h
  refine aE ?_
  refine aC ?_
  refine tr1 rfl (aD (v := .d (.lit (.int .i64 r2))) (aA rfl) rfl rfl) ?_
  refine tr1 rfl (qW 1 (aA rfl)) ?_
  refine tr1 rfl (aJ (v := .d (.lit (.int .i64 r2))) (aA rfl) rfl rfl) ?_
  refine aF ?_
  have h := Option.some.inj h
  subst h
  refine cL (cG (cK (l := [8, 9]) ⟨rfl, rfl, trivial⟩)) ?_
  exact bM ⟨rfl, _, .two _ _, rfl, rfl⟩
 ·have h := aY c4 h
  refine bR ?_
  refine aE ?_
  refine aC ?_
  refine tr1 rfl (bH (aA rfl) rfl (i := 0) rfl cV (es := (aQ t_0)) rfl rfl) ?_
  refine tr1 rfl (aD (v := .d (.sl 5 (l_1.map aL))) (aA rfl) rfl rfl) ?_
  obtain ⟨r5, h6, h⟩ := bind_some h
  refine tr1 rfl (eN (aA rfl) (.func _ _ Try.call55) rfl rfl (kS _ _ h6)) ?_
  refine tr1 rfl (aD (v := .tup [.agg (bC r5.1), .d (.lit (.bool r5.2))]) (aA rfl) rfl rfl) ?_
  refine tr1 rfl (bL (aA rfl) rfl rfl) ?_
  refine tr1 rfl (bL (aA rfl) rfl rfl) ?_
  refine bV rfl (dJ (zs := [.sl 1 ((([] : List Int)).map aN), .sl 1 ((([] : List (List Int))).map eL)]) (aA rfl) Try.zeroValue89 rfl rfl) ?_
  rintro _ ⟨b7, rfl⟩
  refine tr1 rfl (cB (i := 1) rfl rfl rfl rfl rfl Try.sizeOf89 rfl (aA rfl) (Nat.le_of_ble_eq_true rfl) (ds' := (bC r5.1)) rfl) ?_
  refine tr1 rfl (aJ (v := .d (.lit (.bool r5.2))) (aA rfl) rfl rfl) ?_
  refine aF ?_
  refine aE ?_
  refine aC ?_
  refine tr1 rfl (jK 3 1 (.inl rfl) (aA rfl)) ?_
  refine aF ?_
  refine aE ?_
  refine aE ?_
  refine aC ?_
  refine tr1 rfl (aJ (v := .d (.lit (.int .i64 0))) (aA rfl) rfl rfl) ?_
  refine aF ?_
  refine cD ?_
  refine dI [2, 3, 4, 11] (fun (s9 : Int × (List Int) × Value) => [(13, .d (.lit s9.2.2)), (14, .d (.lit (.int .i64 s9.1)))]) (fun (s9 : Int × (List Int) × Value) => [.box b1 0 (aQ t_0), .box b7 0 (bC r5.1), .arr s9.2.2 3 1 (s9.2.1.map aN)]) (fun (k : Nat) (s9 : Int × (List Int) × Value) => eX round_2 place_3 t_0 r5.1 k s9.1 s9.2.1) (fun _ => rfl) (0, ([] : List Int), (.slice none 0 0)) h (bF [0, 1, 2] rfl rfl (aU rfl (aU rfl (bB ⟨rfl, rfl, rfl, rfl, trivial⟩)))) ?_
  rintro k11 ⟨s_0_9, out_0_9, w10⟩ h
  simp only [eX] at h
  refine aE ?_
  refine aE ?_
  refine aC ?_
  refine tr1 rfl (aD (v := .d (.lit (.int .i64 s_0_9))) (aA rfl) rfl rfl) ?_
  refine tr1 rfl (aV (aA rfl) rfl qA) ?_
  refine tr1 rfl (aW (aA rfl) rfl (i := 1) rfl rfl cU) ?_
  refine tr1 rfl (eB (aA rfl) rfl bS.of) ?_
  refine tr1 rfl (bI (aA rfl) rfl rfl rfl) ?_
  refine aF ?_
  refine bT rfl (fun c12 => ?_) (fun c12 => ?_)
  ·have h := aZ c12 h
   refine bR ?_
   refine aE ?_
   refine cD ?_
   refine aE ?_
   refine aC ?_
   refine tr1 rfl (aV (aA rfl) rfl qA) ?_
   refine tr1 rfl (aW (aA rfl) rfl (i := 1) rfl rfl cU) ?_
   refine tr1 rfl (aD (v := .d (.lit (.int .i64 s_0_9))) (aA rfl) rfl rfl) ?_
   obtain ⟨x13, h14, h⟩ := bind_some h
   refine tr1 rfl (bQ (aA rfl) rfl rfl bS.of (bU aN h14)) ?_
   refine tr1 rfl (bP (aA rfl) rfl bJ) ?_
   refine tr1 rfl (bI (aA rfl) rfl rfl rfl) ?_
   refine tr1 rfl (aD (v := .d (.lit (.bool ((!decide (x13 = (-1))))))) (aA rfl) rfl rfl) ?_
   obtain ⟨b15, h16, h⟩ := bind_some h
   refine cF 8 [2, 3, 4, 11, 13, 14] 50 b15 ?_ ?_
   ·refine bN (!decide (x13 = (-1))) (fun c28 => ?_) (fun c28 => ?_)
    ·have h16 := aZ c28 h16
     refine aM rfl rfl (aA rfl) rfl c28 (aD (v := .d (.lit (.int .i64 s_0_9))) (aA rfl) rfl rfl) ?_
     refine aM rfl rfl (aA rfl) rfl c28 (aD (v := .d (.lit (.int .i64 round_2))) (aA rfl) rfl rfl) ?_
     refine aM rfl rfl (aA rfl) rfl c28 (bO (aA rfl) rfl rfl rfl) ?_
     refine aM rfl rfl (aA rfl) rfl c28 (oW (aA rfl) rfl Try.runUnderlying3 Try.runUnderlying45) ?_
     obtain ⟨u29, h30, h16⟩ := bind_some h16
     refine aM rfl rfl (aA rfl) rfl c28 (pR (aA rfl) rfl rfl (nN h30)) ?_
     refine aM rfl rfl (aA rfl) rfl c28 (aD (v := .d (.lit (.int .i64 place_3))) (aA rfl) rfl rfl) ?_
     refine aM rfl rfl (aA rfl) rfl c28 (bI (aA rfl) rfl rfl rfl) ?_
     refine tr1 rfl (bW (v := .d (.lit (.bool ((decide ((s_0_9.fdiv (2 ^ (min (IntKind.u64.wrap (w64 (round_2 + 1))).toNat 64))) = place_3)))))) (aA rfl) rfl c28 rfl rfl) ?_
     have h16 := Option.some.inj h16
     subst h16
     refine aF (bE rfl ⟨rfl, rfl, rfl, rfl, rfl, rfl, trivial⟩ rfl)
    ·have h16 := aY c28 h16
     refine aP rfl rfl (aA rfl) rfl (aA rfl) rfl c28 ?_
     refine aP rfl rfl (aA rfl) rfl (aA rfl) rfl c28 ?_
     refine aP rfl rfl (aA rfl) rfl (aA rfl) rfl c28 ?_
     refine aP rfl rfl (aA rfl) rfl (aA rfl) rfl c28 ?_
     refine aP rfl rfl (aA rfl) rfl (aA rfl) rfl c28 ?_
     refine aP rfl rfl (aA rfl) rfl (aA rfl) rfl c28 ?_
     refine aP rfl rfl (aA rfl) rfl (aA rfl) rfl c28 ?_
     refine tr1 rfl (bX (v := .d (.lit (.bool false))) (aA rfl) rfl c28 rfl rfl) ?_
     have h16 := Option.some.inj h16
     subst h16
     refine aF (bE rfl ⟨rfl, rfl, rfl, rfl, rfl, rfl, trivial⟩ rfl)
   ·refine tr1 rfl (aD (v := .d (.lit (.bool b15))) (aA rfl) rfl rfl) ?_
    obtain ⟨b17, h18, h⟩ := bind_some h
    refine cF 7 [2, 3, 4, 11, 13, 14] 58 b17 ?_ ?_
    ·refine bN (b15) (fun c25 => ?_) (fun c25 => ?_)
     ·have h18 := aZ c25 h18
      refine aM rfl rfl (aA rfl) rfl c25 (bH (aA rfl) rfl (i := 0) rfl cV (es := (aQ t_0)) rfl rfl) ?_
      refine aM rfl rfl (aA rfl) rfl c25 (bH (aA rfl) rfl (i := 1) rfl lU (es := (bC r5.1)) rfl rfl) ?_
      refine aM rfl rfl (aA rfl) rfl c25 (aD (v := .d (.lit (.int .i64 s_0_9))) (aA rfl) rfl rfl) ?_
      obtain ⟨r26, h27, h18⟩ := bind_some h18
      refine aM rfl rfl (aA rfl) rfl c25 (cH (aA rfl) (.func _ _ Try.call60) rfl rfl (BVs.refl _ _) (mN _ _ _ h27) rfl) ?_
      refine aM rfl rfl (aA rfl) rfl c25 (aD (v := .d (.lit (.int .i64 round_2))) (aA rfl) rfl rfl) ?_
      refine aM rfl rfl (aA rfl) rfl c25 (bI (aA rfl) rfl rfl rfl) ?_
      refine tr1 rfl (bW (v := .d (.lit (.bool ((decide (round_2 < r26)))))) (aA rfl) rfl c25 rfl rfl) ?_
      have h18 := Option.some.inj h18
      subst h18
      refine aF (bE rfl ⟨rfl, rfl, rfl, rfl, rfl, rfl, trivial⟩ rfl)
     ·have h18 := aY c25 h18
      refine aP rfl rfl (aA rfl) rfl (aA rfl) rfl c25 ?_
      refine aP rfl rfl (aA rfl) rfl (aA rfl) rfl c25 ?_
      refine aP rfl rfl (aA rfl) rfl (aA rfl) rfl c25 ?_
      refine aP rfl rfl (aA rfl) rfl (aA rfl) rfl c25 ?_
      refine aP rfl rfl (aA rfl) rfl (aA rfl) rfl c25 ?_
      refine aP rfl rfl (aA rfl) rfl (aA rfl) rfl c25 ?_
      refine tr1 rfl (bX (v := .d (.lit (.bool false))) (aA rfl) rfl c25 rfl rfl) ?_
      have h18 := Option.some.inj h18
      subst h18
      refine aF (bE rfl ⟨rfl, rfl, rfl, rfl, rfl, rfl, trivial⟩ rfl)
    ·refine aF ?_
     refine bT rfl (fun c19 => ?_) (fun c19 => ?_)
     ·have h := aZ c19 h
      refine aC ?_
      refine tr1 rfl (aD (v := .d (.lit w10)) (aA rfl) rfl rfl) ?_
      refine tr1 rfl (aV (aA rfl) rfl qA) ?_
      refine tr1 rfl (aW (aA rfl) rfl (i := 1) rfl rfl cU) ?_
      refine tr1 rfl (aD (v := .d (.lit (.int .i64 s_0_9))) (aA rfl) rfl rfl) ?_
      obtain ⟨x20, h21, h⟩ := bind_some h
      refine tr1 rfl (bQ (aA rfl) rfl rfl bS.of (bU aN h21)) ?_
      refine tr1 rfl (bP (aA rfl) rfl bJ) ?_
      refine tr1 rfl (fQ (aA rfl) bS rfl rfl (rows := ([x20]).map aN) rfl (dG (f := aN) fun _ => rfl) rfl (by decide)) ?_
      obtain ⟨x22, h23, h⟩ := bind_some h
      refine bV rfl (fZ (i := 2) (aA rfl) bS rfl rfl rfl (fun _ => rfl) h23 rfl) ?_
      rintro _ ⟨v24, rfl⟩
      refine tr1 rfl (aJ (v := .d (.lit v24)) (aA rfl) rfl rfl) ?_
      refine eV ?_
      refine aC ?_
      refine tr1 rfl (aD (v := .d (.lit (.int .i64 s_0_9))) (aA rfl) rfl rfl) ?_
      refine tr1 rfl (bO (aA rfl) rfl rfl rfl) ?_
      refine tr1 rfl (aJ (v := .d (.lit (.int .i64 ((w64 (s_0_9 + 1)))))) (aA rfl) rfl rfl) ?_
      refine aF ?_
      exact ⟨(w64 (s_0_9 + 1), x22, v24), h, bF [0, 1, 2] rfl rfl (aU rfl (aU rfl (bB ⟨rfl, rfl, rfl, rfl, trivial⟩)))⟩
     ·have h := aY c19 h
      refine eF ?_
      refine aC ?_
      refine tr1 rfl (aD (v := .d (.lit (.int .i64 s_0_9))) (aA rfl) rfl rfl) ?_
      refine tr1 rfl (bO (aA rfl) rfl rfl rfl) ?_
      refine tr1 rfl (aJ (v := .d (.lit (.int .i64 ((w64 (s_0_9 + 1)))))) (aA rfl) rfl rfl) ?_
      refine aF ?_
      exact ⟨(w64 (s_0_9 + 1), out_0_9, w10), h, bF [0, 1, 2] rfl rfl (aU rfl (aU rfl (bB ⟨rfl, rfl, rfl, rfl, trivial⟩)))⟩
  ·have h := aY c12 h
   refine cX ?_
   refine .inl ⟨rfl, ?_⟩
   simp only [pG] at h
   refine aE ?_
   refine aC ?_
   refine tr1 rfl (aD (v := .d (.lit w10)) (aA rfl) rfl rfl) ?_
   refine kN (aLf [.box b1 0 (aQ t_0), .box b7 0 (bC r5.1)] [.arr w10 3 1 (out_0_9.map aN)] rfl (sZ (k := 67) (v := .d (.sl 1 (out_0_9.map aN))) (.d (mA 0 rfl (dG (f := aN) fun _ => rfl))) (sZ (k := 13) (v := .d (.sl 1 (out_0_9.map aN))) (.d (mA 0 rfl (dG (f := aN) fun _ => rfl))) (aJq _ _)))) ?_
   obtain ⟨r31, h32, h⟩ := bind_some h
   refine tr1 rfl (eN (aA rfl) (.func _ _ Try.call61) rfl rfl (wR _ h32)) ?_
   refine tr1 rfl (aJ (v := .d (.sl 1 (r31.map aN))) (aA rfl) rfl rfl) ?_
   refine tr1 rfl (aJ (v := .d (.lit (.int .i64 0))) (aA rfl) rfl rfl) ?_
   refine aF ?_
   have h := Option.some.inj h
   subst h
   refine cL (cG (cK (l := [8, 9]) ⟨rfl, rfl, trivial⟩)) ?_
   exact bM ⟨rfl, _, .two _ _, rfl, rfl⟩

theorem wK (a0 : aO) (a1 : List aG) (a2 : Int) (a3 : Int) {r : (List Int) × Int} (h : pN a0 a1 a2 a3 = some r) : Fn Try.prog 15 [.agg (aQ a0), .d (.sl 5 (a1.map aL)), .d (.lit (.int .i64 a2)), .d (.lit (.int .i64 a3))] ((fun x : (List Int) × Int => .tup [.d (.sl 1 (x.1.map aN)), .d (.lit (.int .i64 x.2))]) r) := rM (enc := fun x : (List Int) × Int => .tup [.d (.sl 1 (x.1.map aN)), .d (.lit (.int .i64 x.2))]) (aCu a0 a1 a2 a3 (aAg a0 a1 a2 a3 h (fun x => x = r) rfl))

theorem aBk (a0 : aO) (a1 : List aG) {r : Int × Int} (h : rJ a0 a1 = some r) : Fn Try.prog 34 [.agg (aQ a0), .d (.sl 5 (a1.map aL))] ((fun x : Int × Int => .tup [.d (.lit (.int .i64 x.1)), .d (.lit (.int .i64 x.2))]) r) := rM (enc := fun x : Int × Int => .tup [.d (.lit (.int .i64 x.1)), .d (.lit (.int .i64 x.2))]) (aBj a0 a1 (zC a0 a1 h (fun x => x = r) rfl))

theorem pH (d_0 : aR) (player_1 : Int) {r : Int} (h : gR d_0 player_1 = some r) : Fn Try.prog 62 [.agg (bC d_0), .d (.lit (.int .i64 player_1))] (.d (.lit (.int .i64 r))) := by
 unfold gR at h
 refine Fn.of_tr Try.func62 rfl (rs := [.tmp 4]) Try.results62 Try.ntmps62 (Nat.le_of_ble_eq_true rfl) ?_
 refine aE ?_
 refine aC ?_
 refine bV rfl (eH (v := .agg (bC d_0)) (aA rfl) rfl rfl rfl) ?_
 rintro _ ⟨b1, rfl⟩
 refine tr1 rfl (aJ (v := .d (.lit (.int .i64 0))) (aA rfl) rfl rfl) ?_
 refine aF ?_
 refine aE ?_
 refine aE ?_
 refine aC ?_
 refine tr1 rfl (aJ (v := .d (.lit (.int .i64 0))) (aA rfl) rfl rfl) ?_
 refine aF ?_
 refine cD ?_
 refine dI [1, 2] (fun (s2 : Int) => [(5, .d (.lit (.int .i64 s2)))]) (fun (s2 : Int) => [.box b1 0 (bC d_0)]) (fun (k : Nat) (s2 : Int) => hC player_1 d_0 k s2) (fun _ => rfl) (0) h (bF [0] rfl rfl (aU rfl (bB ⟨rfl, rfl, trivial⟩))) ?_
 rintro k3 s_0_2 h
 simp only [hC] at h
 refine aE ?_
 refine aE ?_
 refine aC ?_
 refine tr1 rfl (aD (v := .d (.lit (.int .i64 s_0_2))) (aA rfl) rfl rfl) ?_
 refine tr1 rfl (aV (aA rfl) rfl qA) ?_
 refine tr1 rfl (aW (aA rfl) rfl (i := 0) rfl rfl cU) ?_
 refine tr1 rfl (eB (aA rfl) rfl bS.of) ?_
 refine tr1 rfl (bI (aA rfl) rfl rfl rfl) ?_
 refine aF ?_
 refine bT rfl (fun c4 => ?_) (fun c4 => ?_)
 ·have h := aZ c4 h
  refine bR ?_
  refine aE ?_
  refine cD ?_
  refine aE ?_
  refine aC ?_
  refine tr1 rfl (aV (aA rfl) rfl qA) ?_
  refine tr1 rfl (aW (aA rfl) rfl (i := 0) rfl rfl cU) ?_
  refine tr1 rfl (aD (v := .d (.lit (.int .i64 s_0_2))) (aA rfl) rfl rfl) ?_
  obtain ⟨x5, h6, h⟩ := bind_some h
  refine tr1 rfl (bQ (aA rfl) rfl rfl bS.of (bU aN h6)) ?_
  refine tr1 rfl (bP (aA rfl) rfl bJ) ?_
  refine tr1 rfl (aD (v := .d (.lit (.int .i64 player_1))) (aA rfl) rfl rfl) ?_
  refine tr1 rfl (bI (aA rfl) rfl rfl rfl) ?_
  refine aF ?_
  refine bT rfl (fun c7 => ?_) (fun c7 => ?_)
  ·have h := aZ c7 h
   refine aE ?_
   refine aC ?_
   refine tr1 rfl (aD (v := .d (.lit (.int .i64 s_0_2))) (aA rfl) rfl rfl) ?_
   refine tr1 rfl (aJ (v := .d (.lit (.int .i64 s_0_2))) (aA rfl) rfl rfl) ?_
   refine aF ?_
   have h := Option.some.inj h
   subst h
   refine cL (cG (cK (l := [4]) ⟨rfl, trivial⟩)) ?_
   exact bM ⟨rfl, _, .one _, rfl, rfl⟩
  ·have h := aY c7 h
   refine eF ?_
   refine aC ?_
   refine tr1 rfl (aD (v := .d (.lit (.int .i64 s_0_2))) (aA rfl) rfl rfl) ?_
   refine tr1 rfl (bO (aA rfl) rfl rfl rfl) ?_
   refine tr1 rfl (aJ (v := .d (.lit (.int .i64 ((w64 (s_0_2 + 1)))))) (aA rfl) rfl rfl) ?_
   refine aF ?_
   exact ⟨(w64 (s_0_2 + 1)), h, bF [0] rfl rfl (aU rfl (bB ⟨rfl, rfl, trivial⟩))⟩
 ·have h := aY c4 h
  refine cX ?_
  refine .inl ⟨rfl, ?_⟩
  simp only [oR] at h
  refine aE ?_
  refine aC ?_
  refine tr1 rfl (aJ (v := .d (.lit (.int .i64 (-1)))) (aA rfl) rfl rfl) ?_
  refine aF ?_
  have h := Option.some.inj h
  subst h
  refine cL (cG (cK (l := [4]) ⟨rfl, trivial⟩)) ?_
  exact bM ⟨rfl, _, .one _, rfl, rfl⟩

theorem xC (t_0 : aO) (d_1 : aR) (slot_2 : Int) {r : Int} (h : lF t_0 d_1 slot_2 = some r) : Fn Try.prog 63 [.agg (aQ t_0), .agg (bC d_1), .d (.lit (.int .i64 slot_2))] (.d (.lit (.int .i64 r))) := by
 unfold lF at h
 refine Fn.of_tr Try.func63 rfl (rs := [.tmp 6]) Try.results63 Try.ntmps63 (Nat.le_of_ble_eq_true rfl) ?_
 refine aE ?_
 refine aC ?_
 refine bV rfl (eH (v := .agg (aQ t_0)) (aA rfl) rfl rfl rfl) ?_
 rintro _ ⟨b1, rfl⟩
 refine bV rfl (eH (v := .agg (bC d_1)) (aA rfl) rfl rfl rfl) ?_
 rintro _ ⟨b2, rfl⟩
 refine tr1 rfl (aJ (v := .d (.lit (.int .i64 0))) (aA rfl) rfl rfl) ?_
 refine aF ?_
 refine aE ?_
 refine aC ?_
 refine tr1 rfl (aJ (v := .d (.lit (.int .i64 0))) (aA rfl) rfl rfl) ?_
 refine aF ?_
 refine aE ?_
 refine cD ?_
 refine dI [2, 3, 4] (fun (s3 : Int) => [(7, .d (.lit (.int .i64 s3)))]) (fun (s3 : Int) => [.box b1 0 (aQ t_0), .box b2 0 (bC d_1)]) (fun (k : Nat) (s3 : Int) => gO slot_2 t_0 d_1 k s3) (fun _ => rfl) (0) h (bF [0, 1] rfl rfl (aU rfl (bB ⟨rfl, rfl, rfl, trivial⟩))) ?_
 rintro k4 n_0_3 h
 simp only [gO] at h
 refine aE ?_
 refine aE ?_
 obtain ⟨b5, h6, h⟩ := bind_some h
 refine dM mix 24 [2, 3, 4, 7] [(31, .d (.lit (.bool b5)))] ?_ ?_
 ·refine bN (decide (n_0_3 < t_0.Rounds)) (fun c7 => ?_) (fun c7 => ?_)
  ·have h6 := aZ c7 h6
   obtain ⟨x8, h9, h6⟩ := bind_some h6
   obtain ⟨u10, h11, h6⟩ := bind_some h6
   obtain ⟨x12, h13, h6⟩ := bind_some h6
   obtain ⟨x14, h15, h6⟩ := bind_some h6
   have h6 := Option.some.inj h6
   subst h6
   refine ⟨[(8, 0, .d (.lit (.int .i64 n_0_3))), (9, 1, .bp b1 0 0), (10, 2, .d (.lit (.int .i64 t_0.Rounds))), (11, 3, .d (.lit (.bool ((decide (n_0_3 < t_0.Rounds)))))), (12, 4, .d (.lit (.bool ((decide (n_0_3 < t_0.Rounds)))))), (13, 5, .bp b2 0 1), (14, 6, .d (.sl 1 (d_1.Must.map eL))), (15, 7, .d (.lit (.int .i64 n_0_3))), (16, 8, .cp [.sl 1 (x8.map aN)]), (17, 9, .d (.sl 1 (x8.map aN))), (18, 10, .d (.lit (.int .i64 slot_2))), (19, 11, .d (.lit (.int .i64 n_0_3))), (20, 12, .d (.lit (.int .i64 ((w64 (n_0_3 + 1)))))), (21, 13, .d (.lit (.int .u64 ((IntKind.u64.wrap (w64 (n_0_3 + 1))))))), (22, 14, .d (.lit (.int .i64 ((slot_2.fdiv (2 ^ (min (IntKind.u64.wrap (w64 (n_0_3 + 1))).toNat 64))))))), (23, 15, .cp [.lit (.int .i64 x12)]), (24, 16, .d (.lit (.int .i64 x12))), (25, 17, .bp b2 0 0), (26, 18, .d (.sl 1 (d_1.Slots.map aN))), (27, 19, .d (.lit (.int .i64 slot_2))), (28, 20, .cp [.lit (.int .i64 x14)]), (29, 21, .d (.lit (.int .i64 x14))), (30, 22, .d (.lit (.bool ((decide (x12 = x14)))))), (31, 23, .d (.lit (.bool ((decide (x12 = x14))))))], ?_, ?_⟩
   · exact ⟨by kernel_rfl, by kernel_rfl, by kernel_rfl, by kernel_rfl, by kernel_rfl, [([], []), ([], []), ([1], []), ([0, 2], []), ([3], []), ([4], []), ([4, 5], []), ([4], []), ([4, 6, 7], []), ([4, 8], []), ([4], []), ([4], []), ([4, 11], []), ([4, 12], []), ([4, 10, 13], []), ([4, 9, 14], []), ([4, 15], []), ([4], []), ([4, 17], []), ([4], []), ([4, 18, 19], []), ([4, 20], []), ([4, 16, 21], []), ([4, 22], [])], by kernel_rfl, ⟨fun S hS => aH rfl (aT rfl (aD (v := .d (.lit (.int .i64 n_0_3))) (aA rfl) (aI hS rfl) rfl)),
      fun S hS => aH rfl (aT rfl (aV (aA rfl) (aI hS rfl) fA)),
      fun S hS => aH rfl (aT rfl (aW (aA rfl) (aI hS rfl) (i := 0) rfl rfl bJ)),
      fun S hS => aH rfl (aT rfl (bI (aA rfl) (aI hS rfl) (aI hS rfl) rfl)),
      fun S hS => aH rfl (aT rfl (aD (v := .d (.lit (.bool ((decide (n_0_3 < t_0.Rounds)))))) (aA rfl) (aI hS rfl) rfl)),
      fun S hS => aH rfl (bD rfl rfl (aA rfl) (aS hS rfl) c7 (aV (aA rfl) (aI hS rfl) kQ)),
      fun S hS => aH rfl (bD rfl rfl (aA rfl) (aS hS rfl) c7 (aW (aA rfl) (aI hS rfl) (i := 1) rfl rfl oU)),
      fun S hS => aH rfl (bD rfl rfl (aA rfl) (aS hS rfl) c7 (aD (v := .d (.lit (.int .i64 n_0_3))) (aA rfl) (aI hS rfl) rfl)),
      fun S hS => aH rfl (bD rfl rfl (aA rfl) (aS hS rfl) c7 (bQ (aA rfl) (aI hS rfl) (aI hS rfl) pS.of (bU eL h9))),
      fun S hS => aH rfl (bD rfl rfl (aA rfl) (aS hS rfl) c7 (bP (aA rfl) (aI hS rfl) cU)),
      fun S hS => aH rfl (bD rfl rfl (aA rfl) (aS hS rfl) c7 (aD (v := .d (.lit (.int .i64 slot_2))) (aA rfl) (aI hS rfl) rfl)),
      fun S hS => aH rfl (bD rfl rfl (aA rfl) (aS hS rfl) c7 (aD (v := .d (.lit (.int .i64 n_0_3))) (aA rfl) (aI hS rfl) rfl)),
      fun S hS => aH rfl (bD rfl rfl (aA rfl) (aS hS rfl) c7 (bO (aA rfl) (aI hS rfl) rfl rfl)),
      fun S hS => aH rfl (bD rfl rfl (aA rfl) (aS hS rfl) c7 (oW (aA rfl) (aI hS rfl) Try.runUnderlying3 Try.runUnderlying45)),
      fun S hS => aH rfl (bD rfl rfl (aA rfl) (aS hS rfl) c7 (pR (aA rfl) (aI hS rfl) (aI hS rfl) (nN h11))),
      fun S hS => aH rfl (bD rfl rfl (aA rfl) (aS hS rfl) c7 (bQ (aA rfl) (aI hS rfl) (aI hS rfl) bS.of (bU aN h13))),
      fun S hS => aH rfl (bD rfl rfl (aA rfl) (aS hS rfl) c7 (bP (aA rfl) (aI hS rfl) bJ)),
      fun S hS => aH rfl (bD rfl rfl (aA rfl) (aS hS rfl) c7 (aV (aA rfl) (aI hS rfl) qA)),
      fun S hS => aH rfl (bD rfl rfl (aA rfl) (aS hS rfl) c7 (aW (aA rfl) (aI hS rfl) (i := 1) rfl rfl cU)),
      fun S hS => aH rfl (bD rfl rfl (aA rfl) (aS hS rfl) c7 (aD (v := .d (.lit (.int .i64 slot_2))) (aA rfl) (aI hS rfl) rfl)),
      fun S hS => aH rfl (bD rfl rfl (aA rfl) (aS hS rfl) c7 (bQ (aA rfl) (aI hS rfl) (aI hS rfl) bS.of (bU aN h15))),
      fun S hS => aH rfl (bD rfl rfl (aA rfl) (aS hS rfl) c7 (bP (aA rfl) (aI hS rfl) bJ)),
      fun S hS => aH rfl (bD rfl rfl (aA rfl) (aS hS rfl) c7 (bI (aA rfl) (aI hS rfl) (aI hS rfl) rfl)),
      fun S hS => aH rfl (aT rfl (bW (v := .d (.lit (.bool ((decide (x12 = x14)))))) (aA rfl) (aI hS rfl) c7 (aI hS rfl) rfl)), trivial⟩⟩
   · exact cZ (aU rfl (bB ⟨rfl, rfl, rfl, rfl, trivial⟩))
  ·have h6 := aY c7 h6
   have h6 := Option.some.inj h6
   subst h6
   refine ⟨[(8, 0, .d (.lit (.int .i64 n_0_3))), (9, 1, .bp b1 0 0), (10, 2, .d (.lit (.int .i64 t_0.Rounds))), (11, 3, .d (.lit (.bool ((decide (n_0_3 < t_0.Rounds)))))), (12, 4, .d (.lit (.bool ((decide (n_0_3 < t_0.Rounds)))))), (13, 5, .tup []), (14, 6, .tup []), (15, 7, .tup []), (16, 8, .tup []), (17, 9, .tup []), (18, 10, .tup []), (19, 11, .tup []), (20, 12, .tup []), (21, 13, .tup []), (22, 14, .tup []), (23, 15, .tup []), (24, 16, .tup []), (25, 17, .tup []), (26, 18, .tup []), (27, 19, .tup []), (28, 20, .tup []), (29, 21, .tup []), (30, 22, .tup []), (31, 23, .d (.lit (.bool false)))], ?_, ?_⟩
   · exact ⟨by kernel_rfl, by kernel_rfl, by kernel_rfl, by kernel_rfl, by kernel_rfl, [([], []), ([], []), ([1], []), ([0, 2], []), ([3], []), ([4], []), ([4, 5], []), ([4], []), ([4, 6, 7], []), ([4, 8], []), ([4], []), ([4], []), ([4, 11], []), ([4, 12], []), ([4, 10, 13], []), ([4, 9, 14], []), ([4, 15], []), ([4], []), ([4, 17], []), ([4], []), ([4, 18, 19], []), ([4, 20], []), ([4, 16, 21], []), ([4, 22], [])], by kernel_rfl, ⟨fun S hS => aH rfl (aT rfl (aD (v := .d (.lit (.int .i64 n_0_3))) (aA rfl) (aI hS rfl) rfl)),
      fun S hS => aH rfl (aT rfl (aV (aA rfl) (aI hS rfl) fA)),
      fun S hS => aH rfl (aT rfl (aW (aA rfl) (aI hS rfl) (i := 0) rfl rfl bJ)),
      fun S hS => aH rfl (aT rfl (bI (aA rfl) (aI hS rfl) (aI hS rfl) rfl)),
      fun S hS => aH rfl (aT rfl (aD (v := .d (.lit (.bool ((decide (n_0_3 < t_0.Rounds)))))) (aA rfl) (aI hS rfl) rfl)),
      fun S hS => aH rfl (bG rfl rfl (aA rfl) rfl (aA rfl) (aS hS rfl) c7),
      fun S hS => aH rfl (bG rfl rfl (aA rfl) rfl (aA rfl) (aS hS rfl) c7),
      fun S hS => aH rfl (bG rfl rfl (aA rfl) rfl (aA rfl) (aS hS rfl) c7),
      fun S hS => aH rfl (bG rfl rfl (aA rfl) rfl (aA rfl) (aS hS rfl) c7),
      fun S hS => aH rfl (bG rfl rfl (aA rfl) rfl (aA rfl) (aS hS rfl) c7),
      fun S hS => aH rfl (bG rfl rfl (aA rfl) rfl (aA rfl) (aS hS rfl) c7),
      fun S hS => aH rfl (bG rfl rfl (aA rfl) rfl (aA rfl) (aS hS rfl) c7),
      fun S hS => aH rfl (bG rfl rfl (aA rfl) rfl (aA rfl) (aS hS rfl) c7),
      fun S hS => aH rfl (bG rfl rfl (aA rfl) rfl (aA rfl) (aS hS rfl) c7),
      fun S hS => aH rfl (bG rfl rfl (aA rfl) rfl (aA rfl) (aS hS rfl) c7),
      fun S hS => aH rfl (bG rfl rfl (aA rfl) rfl (aA rfl) (aS hS rfl) c7),
      fun S hS => aH rfl (bG rfl rfl (aA rfl) rfl (aA rfl) (aS hS rfl) c7),
      fun S hS => aH rfl (bG rfl rfl (aA rfl) rfl (aA rfl) (aS hS rfl) c7),
      fun S hS => aH rfl (bG rfl rfl (aA rfl) rfl (aA rfl) (aS hS rfl) c7),
      fun S hS => aH rfl (bG rfl rfl (aA rfl) rfl (aA rfl) (aS hS rfl) c7),
      fun S hS => aH rfl (bG rfl rfl (aA rfl) rfl (aA rfl) (aS hS rfl) c7),
      fun S hS => aH rfl (bG rfl rfl (aA rfl) rfl (aA rfl) (aS hS rfl) c7),
      fun S hS => aH rfl (bG rfl rfl (aA rfl) rfl (aA rfl) (aS hS rfl) c7),
      fun S hS => aH rfl (aT rfl (bX (v := .d (.lit (.bool false))) (aA rfl) (aI hS rfl) c7 rfl rfl)), trivial⟩⟩
   · exact cZ (aU rfl (bB ⟨rfl, rfl, rfl, rfl, trivial⟩))
 ·refine aF ?_
  refine bT rfl (fun c16 => ?_) (fun c16 => ?_)
  ·have h := aZ c16 h
   refine bR ?_
   refine cD ?_
   refine aC ?_
   refine tr1 rfl (aD (v := .d (.lit (.int .i64 n_0_3))) (aA rfl) rfl rfl) ?_
   refine tr1 rfl (bO (aA rfl) rfl rfl rfl) ?_
   refine tr1 rfl (aJ (v := .d (.lit (.int .i64 ((w64 (n_0_3 + 1)))))) (aA rfl) rfl rfl) ?_
   refine eV ?_
   exact ⟨(w64 (n_0_3 + 1)), h, bF [0, 1] rfl rfl (aU rfl (bB ⟨rfl, rfl, rfl, trivial⟩))⟩
  ·have h := aY c16 h
   refine cX ?_
   refine .inl ⟨rfl, ?_⟩
   simp only [lO] at h
   refine aE ?_
   refine aC ?_
   refine tr1 rfl (aD (v := .d (.lit (.int .i64 n_0_3))) (aA rfl) rfl rfl) ?_
   refine tr1 rfl (aJ (v := .d (.lit (.int .i64 n_0_3))) (aA rfl) rfl rfl) ?_
   refine aF ?_
   have h := Option.some.inj h
   subst h
   refine cL (cG (cK (l := [6]) ⟨rfl, trivial⟩)) ?_
   exact bM ⟨rfl, _, .one _, rfl, rfl⟩

theorem vI (t_0 : aO) (l_1 : List aG) (player_2 : Int) {r : cR × Int} (h : eJ t_0 l_1 player_2 = some r) : Fn Try.prog 39 [.agg (aQ t_0), .d (.sl 5 (l_1.map aL)), .d (.lit (.int .i64 player_2))] (.tup [.agg (cQ r.1), .d (.lit (.int .i64 r.2))]) := by
 unfold eJ at h
 refine nQ Try.func39 rfl (rs := [.cell 6 39, .tmp 7]) Try.results39 Try.ntmps39 (Nat.le_of_ble_eq_true rfl) ?_
 refine aE ?_
 refine aC ?_
 refine bV rfl (eH (v := .agg (aQ t_0)) (aA rfl) rfl rfl rfl) ?_
 rintro _ ⟨b1, rfl⟩
 refine bV rfl (dJ (zs := [.lit (.int .i64 0), .lit (.int .i64 0)]) (aA rfl) Try.zeroValue39 rfl rfl) ?_
 rintro _ ⟨b2, rfl⟩
 refine tr1 rfl (aJ (v := .d (.lit (.int .i64 0))) (aA rfl) rfl rfl) ?_
 refine aF ?_
 refine aE ?_
 refine aE ?_
 refine aC ?_
 refine tr1 rfl (bH (aA rfl) rfl (i := 0) rfl cV (es := (aQ t_0)) rfl rfl) ?_
 refine tr1 rfl (aD (v := .d (.sl 5 (l_1.map aL))) (aA rfl) rfl rfl) ?_
 obtain ⟨r3, h4, h⟩ := bind_some h
 refine tr1 rfl (cH (aA rfl) (.func _ _ Try.call29) rfl rfl (BVs.refl _ _) (oM _ _ h4) rfl) ?_
 refine tr1 rfl (aJ (v := .d (.lit (.int .i64 r3))) (aA rfl) rfl rfl) ?_
 refine aF ?_
 refine aE ?_
 refine aC ?_
 refine tr1 rfl (aD (v := .d (.lit (.int .i64 r3))) (aA rfl) rfl rfl) ?_
 refine tr1 rfl (bI (aA rfl) rfl rfl rfl) ?_
 refine aF ?_
 refine bT rfl (fun c5 => ?_) (fun c5 => ?_)
 ·have h := aZ c5 h
  refine aE ?_
  refine aC ?_
  refine tr1 rfl (eE (aA rfl) sL (zs := [.lit (.int .i64 0), .lit (.int .i64 0)]) rfl rfl rfl rfl (es := [.lit (.int .i64 0), .lit (.int .i64 0)]) rfl) ?_
  refine tr1 rfl (aD (v := .d (.lit (.int .i64 r3))) (aA rfl) rfl rfl) ?_
  refine tr1 rfl (cB (i := 1) rfl rfl rfl rfl rfl Try.sizeOf39 rfl (aA rfl) (Nat.le_of_ble_eq_true rfl) (ds' := (cQ (cR.mk 0 0))) rfl) ?_
  refine tr1 rfl (aJ (v := .d (.lit (.int .i64 r3))) (aA rfl) rfl rfl) ?_
  refine aF ?_
  have h := Option.some.inj h
  subst h
  exact bM ⟨rfl, _, [.box b1 0 (aQ t_0), .box b2 0 (cQ (cR.mk 0 0))], .two (.cell 6 39 rfl (i := 1) rfl pJ (es := (cQ (cR.mk 0 0))) rfl rfl) (.tmp 7 (v := .d (.lit (.int .i64 r3))) rfl), .refl _, .same _⟩
 ·have h := aY c5 h
  refine bR ?_
  refine aE ?_
  refine aE ?_
  refine aC ?_
  refine tr1 rfl (aD (v := .d (.lit (.int .i64 player_2))) (aA rfl) rfl rfl) ?_
  obtain ⟨r6, h7, h⟩ := bind_some h
  refine tr1 rfl (cH (aA rfl) (.func _ _ Try.call41) rfl rfl (BVs.refl _ _) (dV _ _ _ h7) rfl) ?_
  refine tr1 rfl (fU (aA rfl) rfl) ?_
  refine aF ?_
  refine bT rfl (fun c8 => ?_) (fun c8 => ?_)
  ·have h := aZ c8 h
   refine aE ?_
   refine aC ?_
   refine tr1 rfl (eE (aA rfl) sL (zs := [.lit (.int .i64 0), .lit (.int .i64 0)]) rfl rfl rfl rfl (es := [.lit (.int .i64 0), .lit (.int .i64 0)]) rfl) ?_
   refine tr1 rfl (cB (i := 1) rfl rfl rfl rfl rfl Try.sizeOf39 rfl (aA rfl) (Nat.le_of_ble_eq_true rfl) (ds' := (cQ (cR.mk 0 0))) rfl) ?_
   refine tr1 rfl (aJ (v := .d (.lit (.int .i64 1))) (aA rfl) rfl rfl) ?_
   refine aF ?_
   have h := Option.some.inj h
   subst h
   exact bM ⟨rfl, _, [.box b1 0 (aQ t_0), .box b2 0 (cQ (cR.mk 0 0))], .two (.cell 6 39 rfl (i := 1) rfl pJ (es := (cQ (cR.mk 0 0))) rfl rfl) (.tmp 7 (v := .d (.lit (.int .i64 1))) rfl), .refl _, .same _⟩
  ·have h := aY c8 h
   refine bR ?_
   refine aE ?_
   refine aC ?_
   refine tr1 rfl (bH (aA rfl) rfl (i := 0) rfl cV (es := (aQ t_0)) rfl rfl) ?_
   refine tr1 rfl (aD (v := .d (.sl 5 (l_1.map aL))) (aA rfl) rfl rfl) ?_
   obtain ⟨r9, h10, h⟩ := bind_some h
   refine tr1 rfl (eN (aA rfl) (.func _ _ Try.call55) rfl rfl (kS _ _ h10)) ?_
   refine tr1 rfl (aD (v := .tup [.agg (bC r9.1), .d (.lit (.bool r9.2))]) (aA rfl) rfl rfl) ?_
   refine tr1 rfl (bL (aA rfl) rfl rfl) ?_
   refine tr1 rfl (bL (aA rfl) rfl rfl) ?_
   refine bV rfl (dJ (zs := [.sl 1 ((([] : List Int)).map aN), .sl 1 ((([] : List (List Int))).map eL)]) (aA rfl) Try.zeroValue89 rfl rfl) ?_
   rintro _ ⟨b11, rfl⟩
   refine tr1 rfl (cB (i := 2) rfl rfl rfl rfl rfl Try.sizeOf89 rfl (aA rfl) (Nat.le_of_ble_eq_true rfl) (ds' := (bC r9.1)) rfl) ?_
   refine tr1 rfl (aJ (v := .d (.lit (.bool r9.2))) (aA rfl) rfl rfl) ?_
   refine aF ?_
   refine aE ?_
   refine aC ?_
   refine tr1 rfl (bH (aA rfl) rfl (i := 2) rfl lU (es := (bC r9.1)) rfl rfl) ?_
   refine tr1 rfl (aD (v := .d (.lit (.int .i64 player_2))) (aA rfl) rfl rfl) ?_
   obtain ⟨r12, h13, h⟩ := bind_some h
   refine tr1 rfl (cH (aA rfl) (.func _ _ Try.call62) rfl rfl (BVs.refl _ _) (pH _ _ h13) rfl) ?_
   refine tr1 rfl (aJ (v := .d (.lit (.int .i64 r12))) (aA rfl) rfl rfl) ?_
   refine aF ?_
   refine aE ?_
   refine aE ?_
   refine aC ?_
   refine tr1 rfl (aD (v := .d (.lit (.int .i64 r12))) (aA rfl) rfl rfl) ?_
   refine tr1 rfl (bI (aA rfl) rfl rfl rfl) ?_
   refine aF ?_
   refine bT rfl (fun c14 => ?_) (fun c14 => ?_)
   ·have h := aZ c14 h
    refine aE ?_
    refine aC ?_
    refine tr1 rfl (eE (aA rfl) sL (zs := [.lit (.int .i64 0), .lit (.int .i64 0)]) rfl rfl rfl rfl (es := [.lit (.int .i64 0), .lit (.int .i64 0)]) rfl) ?_
    refine tr1 rfl (cB (i := 1) rfl rfl rfl rfl rfl Try.sizeOf39 rfl (aA rfl) (Nat.le_of_ble_eq_true rfl) (ds' := (cQ (cR.mk 0 0))) rfl) ?_
    refine tr1 rfl (aJ (v := .d (.lit (.int .i64 3))) (aA rfl) rfl rfl) ?_
    refine aF ?_
    have h := Option.some.inj h
    subst h
    exact bM ⟨rfl, _, [.box b1 0 (aQ t_0), .box b2 0 (cQ (cR.mk 0 0)), .box b11 0 (bC r9.1)], .two (.cell 6 39 rfl (i := 1) rfl pJ (es := (cQ (cR.mk 0 0))) rfl rfl) (.tmp 7 (v := .d (.lit (.int .i64 3))) rfl), .refl _, .same _⟩
   ·have h := aY c14 h
    refine bR ?_
    refine aE ?_
    obtain ⟨r15, h16, h⟩ := bind_some h
    refine dM mix 7 [6] [(38, .d (.lit (.int .i64 r15))), (39, .agg (aQ t_0)), (40, .agg (bC r9.1)), (41, .d (.lit (.int .i64 r12)))] ?_ ?_
    ·refine ⟨[(35, 0, .agg (aQ t_0)), (36, 1, .agg (bC r9.1)), (37, 2, .d (.lit (.int .i64 r12))), (38, 3, .d (.lit (.int .i64 r15))), (39, 4, .agg (aQ t_0)), (40, 5, .agg (bC r9.1)), (41, 6, .d (.lit (.int .i64 r12)))], ?_, ?_⟩
     · exact ⟨by kernel_rfl, by kernel_rfl, by kernel_rfl, by kernel_rfl, by kernel_rfl, [([], []), ([], []), ([], []), ([0, 1, 2], []), ([], []), ([], []), ([], [])], by kernel_rfl, ⟨fun S hS => aH rfl (aT rfl (bH (aA rfl) (aI hS rfl) (i := 0) rfl cV (es := (aQ t_0)) rfl rfl)),
      fun S hS => aH rfl (aT rfl (bH (aA rfl) (aI hS rfl) (i := 2) rfl lU (es := (bC r9.1)) rfl rfl)),
      fun S hS => aH rfl (aT rfl (aD (v := .d (.lit (.int .i64 r12))) (aA rfl) (aI hS rfl) rfl)),
      fun S hS => aH rfl (aT rfl (cH (aA rfl) (.func _ _ Try.call63) (ev2 (aI hS rfl) (ev2 (aI hS rfl) (ev2 (aI hS rfl) evn))) rfl (BVs.refl _ _) (xC _ _ _ h16) rfl)),
      fun S hS => aH rfl (aT rfl (bH (aA rfl) (aI hS rfl) (i := 0) rfl cV (es := (aQ t_0)) rfl rfl)),
      fun S hS => aH rfl (aT rfl (bH (aA rfl) (aI hS rfl) (i := 2) rfl lU (es := (bC r9.1)) rfl rfl)),
      fun S hS => aH rfl (aT rfl (aD (v := .d (.lit (.int .i64 r12))) (aA rfl) (aI hS rfl) rfl)), trivial⟩⟩
     · exact cZ (aU rfl (aU rfl (aU rfl (aU rfl (bB ⟨rfl, trivial⟩)))))
    ·obtain ⟨r17, h18, h⟩ := bind_some h
     refine tr1 rfl (cH (aA rfl) (.func _ _ Try.call60) rfl rfl (BVs.refl _ _) (mN _ _ _ h18) rfl) ?_
     refine tr1 rfl (eE (aA rfl) sL (zs := [.lit (.int .i64 0), .lit (.int .i64 0)]) rfl rfl rfl rfl (es := [.lit (.int .i64 r15), .lit (.int .i64 r17)]) rfl) ?_
     refine tr1 rfl (cB (i := 1) rfl rfl rfl rfl rfl Try.sizeOf39 rfl (aA rfl) (Nat.le_of_ble_eq_true rfl) (ds' := (cQ (cR.mk r15 r17))) rfl) ?_
     refine tr1 rfl (aJ (v := .d (.lit (.int .i64 0))) (aA rfl) rfl rfl) ?_
     refine aF ?_
     have h := Option.some.inj h
     subst h
     exact bM ⟨rfl, _, [.box b1 0 (aQ t_0), .box b2 0 (cQ (cR.mk r15 r17)), .box b11 0 (bC r9.1)], .two (.cell 6 39 rfl (i := 1) rfl pJ (es := (cQ (cR.mk r15 r17))) rfl rfl) (.tmp 7 (v := .d (.lit (.int .i64 0))) rfl), .refl _, .same _⟩

theorem sP (a0 : aO) (a1 : List aG) (a2 : Int) {r : cR × Int} (h : mM a0 a1 a2 = some r) : Fn Try.prog 17 [.agg (aQ a0), .d (.sl 5 (a1.map aL)), .d (.lit (.int .i64 a2))] ((fun x : cR × Int => .tup [.agg (cQ x.1), .d (.lit (.int .i64 x.2))]) r) := rM (enc := fun x : cR × Int => .tup [.agg (cQ x.1), .d (.lit (.int .i64 x.2))]) (yM a0 a1 a2 (wN a0 a1 a2 h (fun x => x = r) rfl))

theorem sB {r : Bool} (h : lE = some r) : Fn Try.prog 14 [] (.d (.lit (.bool r))) := by
 unfold lE at h
 refine Fn.of_tr Try.func14 rfl (rs := [.tmp 0]) Try.results14 Try.ntmps14 (Nat.le_of_ble_eq_true rfl) ?_
 refine aE ?_
 refine aC ?_
 refine tr1 rfl (aJ (v := .d (.lit (.bool false))) (aA rfl) rfl rfl) ?_
 refine aF ?_
 refine aE ?_
 refine aC ?_
 obtain ⟨r1, h2, h⟩ := bind_some h
 refine tr1 rfl (eN (aA rfl) (.func _ _ Try.call43) rfl rfl (vG h2)) ?_
 refine tr1 rfl (aD (v := .tup [.agg (aQ r1.1), .d (.sl 5 (r1.2.map aL))]) (aA rfl) rfl rfl) ?_
 refine tr1 rfl (bL (aA rfl) rfl rfl) ?_
 refine tr1 rfl (bL (aA rfl) rfl rfl) ?_
 refine bV rfl (dJ (zs := [.lit (.int .i64 0), .sl 1 ((([] : List Int)).map aN)]) (aA rfl) Try.zeroValue24 rfl rfl) ?_
 rintro _ ⟨b3, rfl⟩
 refine tr1 rfl (cB (i := 0) rfl rfl rfl rfl rfl Try.sizeOf24 rfl (aA rfl) (Nat.le_of_ble_eq_true rfl) (ds' := (aQ r1.1)) rfl) ?_
 refine tr1 rfl (aJ (v := .d (.sl 5 (r1.2.map aL))) (aA rfl) rfl rfl) ?_
 refine aF ?_
 refine aE ?_
 refine aC ?_
 refine tr1 rfl (bH (aA rfl) rfl (i := 0) rfl cV (es := (aQ r1.1)) rfl rfl) ?_
 refine tr1 rfl (aD (v := .d (.sl 5 (r1.2.map aL))) (aA rfl) rfl rfl) ?_
 obtain ⟨r4, h5, h⟩ := bind_some h
 refine tr1 rfl (eN (aA rfl) (.func _ _ Try.call30) rfl rfl (aAf _ _ h5)) ?_
 refine tr1 rfl (aD (v := .tup [.d (.sl 4 (r4.1.map dL)), .d (.lit (.int .i64 r4.2))]) (aA rfl) rfl rfl) ?_
 refine tr1 rfl (bL (aA rfl) rfl rfl) ?_
 refine tr1 rfl (bL (aA rfl) rfl rfl) ?_
 refine tr1 rfl (aJ (v := .d (.sl 4 (r4.1.map dL))) (aA rfl) rfl rfl) ?_
 refine tr1 rfl (aJ (v := .d (.lit (.int .i64 r4.2))) (aA rfl) rfl rfl) ?_
 refine aF ?_
 refine aE ?_
 refine aC ?_
 refine tr1 rfl (bH (aA rfl) rfl (i := 0) rfl cV (es := (aQ r1.1)) rfl rfl) ?_
 refine tr1 rfl (aD (v := .d (.sl 5 (r1.2.map aL))) (aA rfl) rfl rfl) ?_
 obtain ⟨r6, h7, h⟩ := bind_some h
 refine tr1 rfl (eN (aA rfl) (.func _ _ Try.call15) rfl rfl (wK _ _ _ _ h7)) ?_
 refine tr1 rfl (aD (v := .tup [.d (.sl 1 (r6.1.map aN)), .d (.lit (.int .i64 r6.2))]) (aA rfl) rfl rfl) ?_
 refine tr1 rfl (bL (aA rfl) rfl rfl) ?_
 refine tr1 rfl (bL (aA rfl) rfl rfl) ?_
 refine tr1 rfl (aJ (v := .d (.sl 1 (r6.1.map aN))) (aA rfl) rfl rfl) ?_
 refine tr1 rfl (aJ (v := .d (.lit (.int .i64 r6.2))) (aA rfl) rfl rfl) ?_
 refine aF ?_
 refine aE ?_
 refine aC ?_
 refine tr1 rfl (bH (aA rfl) rfl (i := 0) rfl cV (es := (aQ r1.1)) rfl rfl) ?_
 refine tr1 rfl (aD (v := .d (.sl 5 (r1.2.map aL))) (aA rfl) rfl rfl) ?_
 obtain ⟨r8, h9, h⟩ := bind_some h
 refine tr1 rfl (cH (aA rfl) (.func _ _ Try.call34) rfl rfl (BVs.refl _ _) (aBk _ _ h9) rfl) ?_
 refine tr1 rfl (aD (v := .tup [.d (.lit (.int .i64 r8.1)), .d (.lit (.int .i64 r8.2))]) (aA rfl) rfl rfl) ?_
 refine tr1 rfl (bL (aA rfl) rfl rfl) ?_
 refine tr1 rfl (bL (aA rfl) rfl rfl) ?_
 refine tr1 rfl (aJ (v := .d (.lit (.int .i64 r8.1))) (aA rfl) rfl rfl) ?_
 refine tr1 rfl (aJ (v := .d (.lit (.int .i64 r8.2))) (aA rfl) rfl rfl) ?_
 refine aF ?_
 refine aE ?_
 refine aC ?_
 refine tr1 rfl (bH (aA rfl) rfl (i := 0) rfl cV (es := (aQ r1.1)) rfl rfl) ?_
 refine tr1 rfl (aD (v := .d (.sl 5 (r1.2.map aL))) (aA rfl) rfl rfl) ?_
 obtain ⟨r10, h11, h⟩ := bind_some h
 refine tr1 rfl (eN (aA rfl) (.func _ _ Try.call17) rfl rfl (sP _ _ _ h11)) ?_
 refine tr1 rfl (aD (v := .tup [.agg (cQ r10.1), .d (.lit (.int .i64 r10.2))]) (aA rfl) rfl rfl) ?_
 refine tr1 rfl (bL (aA rfl) rfl rfl) ?_
 refine tr1 rfl (bL (aA rfl) rfl rfl) ?_
 refine bV rfl (dJ (zs := [.lit (.int .i64 0), .lit (.int .i64 0)]) (aA rfl) Try.zeroValue39 rfl rfl) ?_
 rintro _ ⟨b12, rfl⟩
 refine tr1 rfl (cB (i := 1) rfl rfl rfl rfl rfl Try.sizeOf39 rfl (aA rfl) (Nat.le_of_ble_eq_true rfl) (ds' := (cQ r10.1)) rfl) ?_
 refine tr1 rfl (aJ (v := .d (.lit (.int .i64 r10.2))) (aA rfl) rfl rfl) ?_
 refine aF ?_
 refine aE ?_
 refine aC ?_
 refine tr1 rfl (aD (v := .d (.lit (.int .i64 r4.2))) (aA rfl) rfl rfl) ?_
 refine tr1 rfl (bI (aA rfl) rfl rfl rfl) ?_
 refine tr1 rfl (aD (v := .d (.lit (.bool ((decide (r4.2 = 0)))))) (aA rfl) rfl rfl) ?_
 obtain ⟨b13, h14, h⟩ := bind_some h
 refine cF 3 [3, 5, 7, 8, 9, 10] 44 b13 ?_ ?_
 ·refine bN (decide (r4.2 = 0)) (fun c45 => ?_) (fun c45 => ?_)
  ·have h14 := aZ c45 h14
   refine aM rfl rfl (aA rfl) rfl c45 (aD (v := .d (.lit (.int .i64 r6.2))) (aA rfl) rfl rfl) ?_
   refine aM rfl rfl (aA rfl) rfl c45 (bI (aA rfl) rfl rfl rfl) ?_
   refine tr1 rfl (bW (v := .d (.lit (.bool ((decide (r6.2 = 0)))))) (aA rfl) rfl c45 rfl rfl) ?_
   have h14 := Option.some.inj h14
   subst h14
   refine aF (bE rfl ⟨rfl, rfl, rfl, rfl, rfl, rfl, trivial⟩ rfl)
  ·have h14 := aY c45 h14
   refine aP rfl rfl (aA rfl) rfl (aA rfl) rfl c45 ?_
   refine aP rfl rfl (aA rfl) rfl (aA rfl) rfl c45 ?_
   refine tr1 rfl (bX (v := .d (.lit (.bool false))) (aA rfl) rfl c45 rfl rfl) ?_
   have h14 := Option.some.inj h14
   subst h14
   refine aF (bE rfl ⟨rfl, rfl, rfl, rfl, rfl, rfl, trivial⟩ rfl)
 ·refine tr1 rfl (aD (v := .d (.lit (.bool b13))) (aA rfl) rfl rfl) ?_
  obtain ⟨b15, h16, h⟩ := bind_some h
  refine cF 3 [3, 5, 7, 9, 10] 48 b15 ?_ ?_
  ·refine bN (b13) (fun c44 => ?_) (fun c44 => ?_)
   ·have h16 := aZ c44 h16
    refine aM rfl rfl (aA rfl) rfl c44 (aD (v := .d (.lit (.int .i64 r8.2))) (aA rfl) rfl rfl) ?_
    refine aM rfl rfl (aA rfl) rfl c44 (bI (aA rfl) rfl rfl rfl) ?_
    refine tr1 rfl (bW (v := .d (.lit (.bool ((decide (r8.2 = 0)))))) (aA rfl) rfl c44 rfl rfl) ?_
    have h16 := Option.some.inj h16
    subst h16
    refine aF (bE rfl ⟨rfl, rfl, rfl, rfl, rfl, trivial⟩ rfl)
   ·have h16 := aY c44 h16
    refine aP rfl rfl (aA rfl) rfl (aA rfl) rfl c44 ?_
    refine aP rfl rfl (aA rfl) rfl (aA rfl) rfl c44 ?_
    refine tr1 rfl (bX (v := .d (.lit (.bool false))) (aA rfl) rfl c44 rfl rfl) ?_
    have h16 := Option.some.inj h16
    subst h16
    refine aF (bE rfl ⟨rfl, rfl, rfl, rfl, rfl, trivial⟩ rfl)
  ·refine tr1 rfl (aD (v := .d (.lit (.bool b15))) (aA rfl) rfl rfl) ?_
   obtain ⟨b17, h18, h⟩ := bind_some h
   refine cF 3 [3, 5, 7, 9] 52 b17 ?_ ?_
   ·refine bN (b15) (fun c43 => ?_) (fun c43 => ?_)
    ·have h18 := aZ c43 h18
     refine aM rfl rfl (aA rfl) rfl c43 (aD (v := .d (.lit (.int .i64 r10.2))) (aA rfl) rfl rfl) ?_
     refine aM rfl rfl (aA rfl) rfl c43 (bI (aA rfl) rfl rfl rfl) ?_
     refine tr1 rfl (bW (v := .d (.lit (.bool ((decide (r10.2 = 0)))))) (aA rfl) rfl c43 rfl rfl) ?_
     have h18 := Option.some.inj h18
     subst h18
     refine aF (bE rfl ⟨rfl, rfl, rfl, rfl, trivial⟩ rfl)
    ·have h18 := aY c43 h18
     refine aP rfl rfl (aA rfl) rfl (aA rfl) rfl c43 ?_
     refine aP rfl rfl (aA rfl) rfl (aA rfl) rfl c43 ?_
     refine tr1 rfl (bX (v := .d (.lit (.bool false))) (aA rfl) rfl c43 rfl rfl) ?_
     have h18 := Option.some.inj h18
     subst h18
     refine aF (bE rfl ⟨rfl, rfl, rfl, rfl, trivial⟩ rfl)
   ·refine tr1 rfl (aD (v := .d (.lit (.bool b17))) (aA rfl) rfl rfl) ?_
    obtain ⟨b19, h20, h⟩ := bind_some h
    refine cF 4 [3, 5, 7, 9] 57 b19 ?_ ?_
    ·refine bN (b17) (fun c42 => ?_) (fun c42 => ?_)
     ·have h20 := aZ c42 h20
      refine aM rfl rfl (aA rfl) rfl c42 (aD (v := .d (.sl 4 (r4.1.map dL))) (aA rfl) rfl rfl) ?_
      refine aM rfl rfl (aA rfl) rfl c42 (eB (aA rfl) rfl aBe.of) ?_
      refine aM rfl rfl (aA rfl) rfl c42 (bI (aA rfl) rfl rfl rfl) ?_
      refine tr1 rfl (bW (v := .d (.lit (.bool ((decide ((r4.1.length : Int) = 7)))))) (aA rfl) rfl c42 rfl rfl) ?_
      have h20 := Option.some.inj h20
      subst h20
      refine aF (bE rfl ⟨rfl, rfl, rfl, rfl, trivial⟩ rfl)
     ·have h20 := aY c42 h20
      refine aP rfl rfl (aA rfl) rfl (aA rfl) rfl c42 ?_
      refine aP rfl rfl (aA rfl) rfl (aA rfl) rfl c42 ?_
      refine aP rfl rfl (aA rfl) rfl (aA rfl) rfl c42 ?_
      refine tr1 rfl (bX (v := .d (.lit (.bool false))) (aA rfl) rfl c42 rfl rfl) ?_
      have h20 := Option.some.inj h20
      subst h20
      refine aF (bE rfl ⟨rfl, rfl, rfl, rfl, trivial⟩ rfl)
    ·refine tr1 rfl (aD (v := .d (.lit (.bool b19))) (aA rfl) rfl rfl) ?_
     obtain ⟨b21, h22, h⟩ := bind_some h
     refine cF 6 [3, 5, 7, 9] 64 b21 ?_ ?_
     ·refine bN (b19) (fun c39 => ?_) (fun c39 => ?_)
      ·have h22 := aZ c39 h22
       refine aM rfl rfl (aA rfl) rfl c39 (aD (v := .d (.sl 4 (r4.1.map dL))) (aA rfl) rfl rfl) ?_
       obtain ⟨x40, h41, h22⟩ := bind_some h22
       refine aM rfl rfl (aA rfl) rfl c39 (bQ (aA rfl) rfl rfl aBe.of (bU dL h41)) ?_
       refine aM rfl rfl (aA rfl) rfl c39 (jW (aA rfl) rfl aDf (es := (dL x40)) rfl rfl) ?_
       refine aM rfl rfl (aA rfl) rfl c39 (eE (aA rfl) aEp (zs := [.lit (.int .i64 0), .lit (.int .i64 0), .lit (.int .i64 0), .lit (.int .i64 0)]) rfl rfl rfl rfl (es := [.lit (.int .i64 1), .lit (.int .i64 0), .lit (.int .i64 1), .lit (.int .i64 2)]) rfl) ?_
       refine aM rfl rfl (aA rfl) rfl c39 (uE (a := x40) (b := (cE.mk 1 0 1 2)) (aA rfl) rfl rfl rfl rfl Try.eqGuardType57 aIh) ?_
       refine tr1 rfl (bW (v := .d (.lit (.bool ((decide (x40 = (cE.mk 1 0 1 2))))))) (aA rfl) rfl c39 rfl rfl) ?_
       have h22 := Option.some.inj h22
       subst h22
       refine aF (bE rfl ⟨rfl, rfl, rfl, rfl, trivial⟩ rfl)
      ·have h22 := aY c39 h22
       refine aP rfl rfl (aA rfl) rfl (aA rfl) rfl c39 ?_
       refine aP rfl rfl (aA rfl) rfl (aA rfl) rfl c39 ?_
       refine aP rfl rfl (aA rfl) rfl (aA rfl) rfl c39 ?_
       refine aP rfl rfl (aA rfl) rfl (aA rfl) rfl c39 ?_
       refine aP rfl rfl (aA rfl) rfl (aA rfl) rfl c39 ?_
       refine tr1 rfl (bX (v := .d (.lit (.bool false))) (aA rfl) rfl c39 rfl rfl) ?_
       have h22 := Option.some.inj h22
       subst h22
       refine aF (bE rfl ⟨rfl, rfl, rfl, rfl, trivial⟩ rfl)
     ·refine tr1 rfl (aD (v := .d (.lit (.bool b21))) (aA rfl) rfl rfl) ?_
      obtain ⟨b23, h24, h⟩ := bind_some h
      refine cF 6 [5, 7, 9] 71 b23 ?_ ?_
      ·refine bN (b21) (fun c36 => ?_) (fun c36 => ?_)
       ·have h24 := aZ c36 h24
        refine aM rfl rfl (aA rfl) rfl c36 (aD (v := .d (.sl 4 (r4.1.map dL))) (aA rfl) rfl rfl) ?_
        obtain ⟨x37, h38, h24⟩ := bind_some h24
        refine aM rfl rfl (aA rfl) rfl c36 (bQ (aA rfl) rfl rfl aBe.of (bU dL h38)) ?_
        refine aM rfl rfl (aA rfl) rfl c36 (jW (aA rfl) rfl aDf (es := (dL x37)) rfl rfl) ?_
        refine aM rfl rfl (aA rfl) rfl c36 (eE (aA rfl) aEp (zs := [.lit (.int .i64 0), .lit (.int .i64 0), .lit (.int .i64 0), .lit (.int .i64 0)]) rfl rfl rfl rfl (es := [.lit (.int .i64 2), .lit (.int .i64 0), .lit (.int .i64 2), .lit (.int .i64 (-2))]) rfl) ?_
        refine aM rfl rfl (aA rfl) rfl c36 (uE (a := x37) (b := (cE.mk 2 0 2 (-2))) (aA rfl) rfl rfl rfl rfl Try.eqGuardType57 aIh) ?_
        refine tr1 rfl (bW (v := .d (.lit (.bool ((decide (x37 = (cE.mk 2 0 2 (-2)))))))) (aA rfl) rfl c36 rfl rfl) ?_
        have h24 := Option.some.inj h24
        subst h24
        refine aF (bE rfl ⟨rfl, rfl, rfl, trivial⟩ rfl)
       ·have h24 := aY c36 h24
        refine aP rfl rfl (aA rfl) rfl (aA rfl) rfl c36 ?_
        refine aP rfl rfl (aA rfl) rfl (aA rfl) rfl c36 ?_
        refine aP rfl rfl (aA rfl) rfl (aA rfl) rfl c36 ?_
        refine aP rfl rfl (aA rfl) rfl (aA rfl) rfl c36 ?_
        refine aP rfl rfl (aA rfl) rfl (aA rfl) rfl c36 ?_
        refine tr1 rfl (bX (v := .d (.lit (.bool false))) (aA rfl) rfl c36 rfl rfl) ?_
        have h24 := Option.some.inj h24
        subst h24
        refine aF (bE rfl ⟨rfl, rfl, rfl, trivial⟩ rfl)
      ·refine tr1 rfl (aD (v := .d (.lit (.bool b23))) (aA rfl) rfl rfl) ?_
       obtain ⟨b25, h26, h⟩ := bind_some h
       refine cF 4 [7, 9] 76 b25 ?_ ?_
       ·refine bN (b23) (fun c33 => ?_) (fun c33 => ?_)
        ·have h26 := aZ c33 h26
         refine aM rfl rfl (aA rfl) rfl c33 (aD (v := .d (.sl 1 (r6.1.map aN))) (aA rfl) rfl rfl) ?_
         refine aM rfl rfl (aA rfl) rfl c33 (fQ (aA rfl) bS rfl rfl (rows := ([2, 5, 7, 8]).map aN) rfl (dG (f := aN) fun _ => rfl) rfl (by decide)) ?_
         obtain ⟨r34, h35, h26⟩ := bind_some h26
         refine aM rfl rfl (aA rfl) rfl c33 (cH (aA rfl) (.func _ _ Try.call23) rfl rfl (BVs.refl _ _) (qG _ _ h35) rfl) ?_
         refine tr1 rfl (bW (v := .d (.lit (.bool r34))) (aA rfl) rfl c33 rfl rfl) ?_
         have h26 := Option.some.inj h26
         subst h26
         refine aF (bE rfl ⟨rfl, rfl, trivial⟩ rfl)
        ·have h26 := aY c33 h26
         refine aP rfl rfl (aA rfl) rfl (aA rfl) rfl c33 ?_
         refine aP rfl rfl (aA rfl) rfl (aA rfl) rfl c33 ?_
         refine aP rfl rfl (aA rfl) rfl (aA rfl) rfl c33 ?_
         refine tr1 rfl (bX (v := .d (.lit (.bool false))) (aA rfl) rfl c33 rfl rfl) ?_
         have h26 := Option.some.inj h26
         subst h26
         refine aF (bE rfl ⟨rfl, rfl, trivial⟩ rfl)
       ·refine tr1 rfl (aD (v := .d (.lit (.bool b25))) (aA rfl) rfl rfl) ?_
        obtain ⟨b27, h28, h⟩ := bind_some h
        refine cF 3 [9] 80 b27 ?_ ?_
        ·refine bN (b25) (fun c32 => ?_) (fun c32 => ?_)
         ·have h28 := aZ c32 h28
          refine aM rfl rfl (aA rfl) rfl c32 (aD (v := .d (.lit (.int .i64 r8.1))) (aA rfl) rfl rfl) ?_
          refine aM rfl rfl (aA rfl) rfl c32 (bI (aA rfl) rfl rfl rfl) ?_
          refine tr1 rfl (bW (v := .d (.lit (.bool ((decide (r8.1 = 3)))))) (aA rfl) rfl c32 rfl rfl) ?_
          have h28 := Option.some.inj h28
          subst h28
          refine aF (bE rfl ⟨rfl, trivial⟩ rfl)
         ·have h28 := aY c32 h28
          refine aP rfl rfl (aA rfl) rfl (aA rfl) rfl c32 ?_
          refine aP rfl rfl (aA rfl) rfl (aA rfl) rfl c32 ?_
          refine tr1 rfl (bX (v := .d (.lit (.bool false))) (aA rfl) rfl c32 rfl rfl) ?_
          have h28 := Option.some.inj h28
          subst h28
          refine aF (bE rfl ⟨rfl, trivial⟩ rfl)
        ·refine tr1 rfl (aD (v := .d (.lit (.bool b27))) (aA rfl) rfl rfl) ?_
         obtain ⟨b29, h30, h⟩ := bind_some h
         refine cF 4 [] 85 b29 ?_ ?_
         ·refine bN (b27) (fun c31 => ?_) (fun c31 => ?_)
          ·have h30 := aZ c31 h30
           refine aM rfl rfl (aA rfl) rfl c31 (bH (aA rfl) rfl (i := 1) rfl pJ (es := (cQ r10.1)) rfl rfl) ?_
           refine aM rfl rfl (aA rfl) rfl c31 (eE (aA rfl) sL (zs := [.lit (.int .i64 0), .lit (.int .i64 0)]) rfl rfl rfl rfl (es := [.lit (.int .i64 2), .lit (.int .i64 3)]) rfl) ?_
           refine aM rfl rfl (aA rfl) rfl c31 (uE (a := r10.1) (b := (cR.mk 2 3)) (aA rfl) rfl rfl rfl rfl Try.eqGuardType39 aIg) ?_
           refine tr1 rfl (bW (v := .d (.lit (.bool ((decide (r10.1 = (cR.mk 2 3))))))) (aA rfl) rfl c31 rfl rfl) ?_
           have h30 := Option.some.inj h30
           subst h30
           refine aF (bE rfl trivial rfl)
          ·have h30 := aY c31 h30
           refine aP rfl rfl (aA rfl) rfl (aA rfl) rfl c31 ?_
           refine aP rfl rfl (aA rfl) rfl (aA rfl) rfl c31 ?_
           refine aP rfl rfl (aA rfl) rfl (aA rfl) rfl c31 ?_
           refine tr1 rfl (bX (v := .d (.lit (.bool false))) (aA rfl) rfl c31 rfl rfl) ?_
           have h30 := Option.some.inj h30
           subst h30
           refine aF (bE rfl trivial rfl)
         ·refine tr1 rfl (aJ (v := .d (.lit (.bool b29))) (aA rfl) rfl rfl) ?_
          refine aF ?_
          have h := Option.some.inj h
          subst h
          refine cL (cG (cK (l := [0]) ⟨rfl, trivial⟩)) ?_
          exact bM ⟨rfl, _, .one _, rfl, rfl⟩

theorem yN (t_0 : aO) {r : aO} (h : oD t_0 = some r) : Fn Try.prog 28 [.agg (aQ t_0)] (.agg (aQ r)) := by
 unfold oD at h
 refine nQ Try.func28 rfl (rs := [.cell 2 24]) Try.results28 Try.ntmps28 (Nat.le_of_ble_eq_true rfl) ?_
 refine aE ?_
 refine aC ?_
 refine bV rfl (eH (v := .agg (aQ t_0)) (aA rfl) rfl rfl rfl) ?_
 rintro _ ⟨b1, rfl⟩
 refine bV rfl (dJ (zs := [.lit (.int .i64 0), .sl 1 ((([] : List Int)).map aN)]) (aA rfl) Try.zeroValue24 rfl rfl) ?_
 rintro _ ⟨b2, rfl⟩
 refine aF ?_
 refine aE ?_
 obtain ⟨x4, h5, h⟩ := bind_some h
 refine qK mix 6 [2] (fun X3 => [(4, .d (.lit (.int .i64 t_0.Rounds))), (8, .d (.sl 1 (x4.map aN)))]) (fun X3 => [.box b1 0 (aQ t_0), .box b2 0 (aQ (aO.mk 0 ([] : List Int)))]) ?_ ?_
 ·refine ⟨0, fun X3 => [(3, 0, .bp b1 0 0), (4, 1, .d (.lit (.int .i64 t_0.Rounds))), (5, 2, .fl true 1 (([] : List Int).map aN)), (6, 3, .bp b1 0 1), (7, 4, .d (.sl 1 (t_0.Slots.map aN))), (8, 5, .d (.sl 1 (x4.map aN)))], fun X3 => [([], .box b1 0 (aQ t_0)), ([], .box b2 0 (aQ (aO.mk 0 ([] : List Int))))], ?_, ?_⟩
  · exact ⟨by kernel_rfl, by kernel_rfl, by kernel_rfl, fun _ => by kernel_rfl, fun _ => by kernel_rfl, fun _ => by kernel_rfl, fun _ => rfl, [([], []), ([0], []), ([], [5]), ([], [5]), ([3], [5]), ([2, 4], [])], by kernel_rfl, ⟨fun X3 S hw hi hS => dW (X := X3) rfl (hw X3) rfl (aT rfl (aV (aA rfl) (aI hS rfl) fA)),
      fun X3 S hw hi hS => dW (X := X3) rfl (hw X3) rfl (aT rfl (aW (aA rfl) (aI hS rfl) (i := 0) (og hS rfl rfl) rfl bJ)),
      fun X3 S hw hi hS => dW (X := X3) rfl (hw X3) rfl (aT rfl (aEn (aA rfl) bS rfl pan (rows := (([] : List Int)).map aN) rfl (dG (f := aN) fun _ => rfl) rfl (by decide))),
      fun X3 S hw hi hS => dW (X := X3) rfl (hw X3) rfl (aT rfl (aV (aA rfl) (aI hS rfl) dU)),
      fun X3 S hw hi hS => dW (X := X3) rfl (hw X3) rfl (aT rfl (aW (aA rfl) (aI hS rfl) (i := 0) (og hS rfl rfl) rfl cU)),
      fun X3 S hw hi hS => dW (X := X3) rfl (hw X3) rfl (aT rfl (aJa (.d (.weak _ _)) (aCo (nn := true) (f := aN) (xs := ([] : List Int)) (ys := t_0.Slots) (aA rfl) bS (aI hS rfl) (aI hS rfl) (fun _ => rfl) h5 rfl))), trivial⟩⟩
  · exact fun X3 => cZ (aU rfl (aU rfl (bB ⟨rfl, trivial⟩)))
 ·intro X3
  refine tr1 rfl (eE (aA rfl) aJe (zs := [.lit (.int .i64 0), .sl 1 ((([] : List Int)).map aN)]) rfl rfl rfl rfl (es := [.lit (.int .i64 t_0.Rounds), .sl 1 (x4.map aN)]) rfl) ?_
  refine tr1 rfl (cB (i := 1) rfl rfl rfl rfl rfl Try.sizeOf24 rfl (aA rfl) (Nat.le_of_ble_eq_true rfl) (ds' := (aQ (aO.mk t_0.Rounds x4))) rfl) ?_
  refine aF ?_
  have h := Option.some.inj h
  subst h
  exact bM ⟨rfl, _, [.box b1 0 (aQ t_0), .box b2 0 (aQ (aO.mk t_0.Rounds x4))], .one (.cell 2 24 rfl (i := 1) rfl cV (es := (aQ (aO.mk t_0.Rounds x4))) rfl rfl), .refl _, .same _⟩

theorem zE (t_0 : aO) (l_1 : List aG) (round_2 : Int) (place_3 : Int) {Q : (Int × Int) → Prop} (h : mO t_0 l_1 round_2 place_3 Q) : eZ Try.prog 20 [.agg (aQ t_0), .d (.sl 5 (l_1.map aL)), .d (.lit (.int .i64 round_2)), .d (.lit (.int .i64 place_3))] [] (fun r' o' => ∃ (r : Int × Int), Q r ∧ r' = .tup [.d (.lit (.int .i64 r.1)), .d (.lit (.int .i64 r.2))] ∧ o' = []) := by
 unfold mO at h
 refine gA Try.func20 rfl (rs := [.tmp 8, .tmp 9]) Try.results20 Try.ntmps20 (Nat.le_of_ble_eq_true rfl) ?_
 refine aE ?_
 refine aC ?_
 refine bV rfl (eH (v := .agg (aQ t_0)) (aA rfl) rfl rfl rfl) ?_
 rintro _ ⟨b1, rfl⟩
 refine tr1 rfl (aJ (v := .d (.lit (.int .i64 0))) (aA rfl) rfl rfl) ?_
 refine tr1 rfl (aJ (v := .d (.lit (.int .i64 0))) (aA rfl) rfl rfl) ?_
 refine aF ?_
 refine aE ?_
 refine aC ?_
 refine tr1 rfl (bH (aA rfl) rfl (i := 0) rfl cV (es := (aQ t_0)) rfl rfl) ?_
 refine tr1 rfl (aD (v := .d (.sl 5 (l_1.map aL))) (aA rfl) rfl rfl) ?_
 refine tr1 rfl (aD (v := .d (.lit (.int .i64 round_2))) (aA rfl) rfl rfl) ?_
 refine tr1 rfl (aD (v := .d (.lit (.int .i64 place_3))) (aA rfl) rfl rfl) ?_
 refine bV rfl (mV (aA rfl) (.func _ _ Try.call44) rfl rfl (wY _ _ _ _ h)) ?_
 rintro _ ⟨_, _, ⟨r2, h, rfl, rfl⟩, rfl⟩
 refine tr1 rfl (aD (v := .tup [cO aX r2.1, .agg (aK r2.2.1), .d (.lit (.int .i64 r2.2.2))]) (aA rfl) rfl rfl) ?_
 refine tr1 rfl (bL (aA rfl) rfl rfl) ?_
 refine tr1 rfl (bL (aA rfl) rfl rfl) ?_
 refine tr1 rfl (bL (aA rfl) rfl rfl) ?_
 refine bV rfl (dJ (zs := [.lit (.int .i64 0), .lit (.int .i64 0)]) (aA rfl) Try.zeroValue70 rfl rfl) ?_
 rintro _ ⟨b3, rfl⟩
 refine tr1 rfl (aJ (v := cO aX r2.1) (aA rfl) rfl rfl) ?_
 refine tr1 rfl (cB (i := 1) rfl rfl rfl rfl rfl Try.sizeOf70 rfl (aA rfl) (Nat.le_of_ble_eq_true rfl) (ds' := (aK r2.2.1)) rfl) ?_
 refine tr1 rfl (aJ (v := .d (.lit (.int .i64 r2.2.2))) (aA rfl) rfl rfl) ?_
 refine aF ?_
 refine aE ?_
 refine aE ?_
 refine aC ?_
 refine tr1 rfl (aD (v := .d (.lit (.int .i64 r2.2.2))) (aA rfl) rfl rfl) ?_
 refine tr1 rfl (bI (aA rfl) rfl rfl rfl) ?_
 refine aF ?_
 refine bT rfl (fun c4 => ?_) (fun c4 => ?_)
 ·have h := dR c4 h
  refine aE ?_
  refine aC ?_
  refine tr1 rfl (aD (v := .d (.lit (.int .i64 r2.2.2))) (aA rfl) rfl rfl) ?_
  refine tr1 rfl (aJ (v := .d (.lit (.int .i64 0))) (aA rfl) rfl rfl) ?_
  refine tr1 rfl (aJ (v := .d (.lit (.int .i64 r2.2.2))) (aA rfl) rfl rfl) ?_
  refine aF ?_
  exact bM ⟨rfl, _, [], [.box b1 0 (aQ t_0), .box b3 0 (aK r2.2.1)], _, .two (.tmp 8 (v := .d (.lit (.int .i64 0))) rfl) (.tmp 9 (v := .d (.lit (.int .i64 r2.2.2))) rfl), .refl _, .same _, (0, r2.2.2), h, rfl, rfl⟩
 ·have h := dQ c4 h
  refine bR ?_
  refine aE ?_
  obtain ⟨x5, h6, h⟩ := cS h
  refine dM mix 10 [] [(13, .d (.lit (.int .i64 ((cI r2.2.1 0 x5.won))))), (35, .d (.lit (.bool ((cT r2.2.1 x5.won)))))] ?_ ?_
  ·refine ⟨[(28, 0, cO aX r2.1), (29, 1, .cp [.lit (.int .i64 x5.Tree.Rounds), .sl 1 (x5.Tree.Slots.map aN), .sl 1 (x5.players.map aN), .mp false (x5.won.map fun p : aB × Int => ((fun a : aB => Value.agg ((aK a).map bK).toArray) p.1, aN p.2))]), (30, 2, .cp [.mp false (x5.won.map fun p : aB × Int => ((fun a : aB => Value.agg ((aK a).map bK).toArray) p.1, aN p.2))]), (31, 3, .d (.mp false (x5.won.map fun p : aB × Int => ((fun a : aB => Value.agg ((aK a).map bK).toArray) p.1, aN p.2)))), (32, 4, .agg (aK r2.2.1)), (33, 5, .tup [.d (.lit (.int .i64 ((cI r2.2.1 0 x5.won)))), .d (.lit (.bool ((cT r2.2.1 x5.won))))]), (27, 6, .tup [.d (.lit (.int .i64 ((cI r2.2.1 0 x5.won)))), .d (.lit (.bool ((cT r2.2.1 x5.won))))]), (34, 7, .d (.lit (.int .i64 ((cI r2.2.1 0 x5.won))))), (35, 8, .d (.lit (.bool ((cT r2.2.1 x5.won))))), (13, 9, .d (.lit (.int .i64 ((cI r2.2.1 0 x5.won)))))], ?_, ?_⟩
   · exact ⟨by kernel_rfl, by kernel_rfl, by kernel_rfl, by kernel_rfl, by kernel_rfl, [([], []), ([0], []), ([1], []), ([2], []), ([], []), ([3, 4], []), ([5], []), ([6], []), ([6], []), ([7], [])], by kernel_rfl, ⟨fun S hS => aH rfl (aT rfl (aD (v := cO aX r2.1) (aA rfl) (aI hS rfl) rfl)),
      fun S hS => aH rfl (aT rfl (nV (enc := aX) (aA rfl) (aI hS rfl) h6)),
      fun S hS => aH rfl (aT rfl (cY (aA rfl) (aI hS rfl) pZ (es := [.mp false (x5.won.map fun p : aB × Int => ((fun a : aB => Value.agg ((aK a).map bK).toArray) p.1, aN p.2))]) rfl)),
      fun S hS => aH rfl (aT rfl (bP (aA rfl) (aI hS rfl) tO)),
      fun S hS => aH rfl (aT rfl (bH (aA rfl) (aI hS rfl) (i := 1) rfl iZ (es := (aK r2.2.1)) rfl rfl)),
      fun S hS => aH rfl (aT rfl (pQ (enc := aN) (agg := false) (l := x5.won) (z := 0) (a := r2.2.1) (aA rfl) sF Try.underlying73 Try.zeroValue3 (fun _ _ => .d (.lit _ rfl)) (aI hS rfl) rfl rfl (aI hS rfl) (kE (enc := aK) r2.2.1 rfl))),
      fun S hS => aH rfl (aT rfl (aD (v := .tup [.d (.lit (.int .i64 ((cI r2.2.1 0 x5.won)))), .d (.lit (.bool ((cT r2.2.1 x5.won))))]) (aA rfl) (aI hS rfl) rfl)),
      fun S hS => aH rfl (aT rfl (bL (aA rfl) (aI hS rfl) rfl)),
      fun S hS => aH rfl (aT rfl (bL (aA rfl) (aI hS rfl) rfl)),
      fun S hS => aH rfl (aT rfl (aJ (v := .d (.lit (.int .i64 ((cI r2.2.1 0 x5.won))))) (aA rfl) (aI hS rfl) rfl)), trivial⟩⟩
   · exact cZ (aU rfl (aU rfl (bB trivial)))
  ·refine tr1 rfl (aJ (v := .d (.lit (.bool ((cT r2.2.1 x5.won))))) (aA rfl) rfl rfl) ?_
   refine aF ?_
   refine aE ?_
   refine aE ?_
   refine aC ?_
   refine tr1 rfl (aD (v := .d (.lit (.bool ((cT r2.2.1 x5.won))))) (aA rfl) rfl rfl) ?_
   refine tr1 rfl (fU (aA rfl) rfl) ?_
   refine aF ?_
   refine bT rfl (fun c7 => ?_) (fun c7 => ?_)
   ·have h := dR c7 h
    refine aE ?_
    refine aC ?_
    refine tr1 rfl (aJ (v := .d (.lit (.int .i64 0))) (aA rfl) rfl rfl) ?_
    refine tr1 rfl (aJ (v := .d (.lit (.int .i64 3))) (aA rfl) rfl rfl) ?_
    refine aF ?_
    exact bM ⟨rfl, _, [], [.box b1 0 (aQ t_0), .box b3 0 (aK r2.2.1)], _, .two (.tmp 8 (v := .d (.lit (.int .i64 0))) rfl) (.tmp 9 (v := .d (.lit (.int .i64 3))) rfl), .refl _, .same _, (0, 3), h, rfl, rfl⟩
   ·have h := dQ c7 h
    refine bR ?_
    refine aE ?_
    refine aC ?_
    refine tr1 rfl (aD (v := .d (.lit (.int .i64 ((cI r2.2.1 0 x5.won))))) (aA rfl) rfl rfl) ?_
    refine tr1 rfl (aJ (v := .d (.lit (.int .i64 ((cI r2.2.1 0 x5.won))))) (aA rfl) rfl rfl) ?_
    refine tr1 rfl (aJ (v := .d (.lit (.int .i64 0))) (aA rfl) rfl rfl) ?_
    refine aF ?_
    exact bM ⟨rfl, _, [], [.box b1 0 (aQ t_0), .box b3 0 (aK r2.2.1)], _, .two (.tmp 8 (v := .d (.lit (.int .i64 ((cI r2.2.1 0 x5.won))))) rfl) (.tmp 9 (v := .d (.lit (.int .i64 0))) rfl), .refl _, .same _, (cI r2.2.1 0 x5.won, 0), h, rfl, rfl⟩

theorem wP (t_0 : aO) (l_1 : List aG) (round_2 : Int) (place_3 : Int) {r : Int × Int} (h : dZ t_0 l_1 round_2 place_3 = some r) : Fn Try.prog 37 [.agg (aQ t_0), .d (.sl 5 (l_1.map aL)), .d (.lit (.int .i64 round_2)), .d (.lit (.int .i64 place_3))] (.tup [.d (.lit (.int .i64 r.1)), .d (.lit (.int .i64 r.2))]) := by
 unfold dZ at h
 refine Fn.of_tr Try.func37 rfl (rs := [.tmp 8, .tmp 9]) Try.results37 Try.ntmps37 (Nat.le_of_ble_eq_true rfl) ?_
 refine aE ?_
 refine aC ?_
 refine bV rfl (eH (v := .agg (aQ t_0)) (aA rfl) rfl rfl rfl) ?_
 rintro _ ⟨b1, rfl⟩
 refine tr1 rfl (aJ (v := .d (.lit (.int .i64 0))) (aA rfl) rfl rfl) ?_
 refine tr1 rfl (aJ (v := .d (.lit (.int .i64 0))) (aA rfl) rfl rfl) ?_
 refine aF ?_
 refine aE ?_
 refine aE ?_
 refine aC ?_
 refine tr1 rfl (bH (aA rfl) rfl (i := 0) rfl cV (es := (aQ t_0)) rfl rfl) ?_
 refine tr1 rfl (aD (v := .d (.sl 5 (l_1.map aL))) (aA rfl) rfl rfl) ?_
 refine tr1 rfl (aD (v := .d (.lit (.int .i64 round_2))) (aA rfl) rfl rfl) ?_
 refine tr1 rfl (aD (v := .d (.lit (.int .i64 place_3))) (aA rfl) rfl rfl) ?_
 obtain ⟨r2, h3, h⟩ := bind_some h
 refine tr1 rfl (cH (aA rfl) (.func _ _ Try.call59) rfl rfl (BVs.refl _ _) (pE _ _ _ _ h3) rfl) ?_
 refine tr1 rfl (aJ (v := .d (.lit (.int .i64 r2))) (aA rfl) rfl rfl) ?_
 refine aF ?_
 refine aE ?_
 refine aC ?_
 refine tr1 rfl (aD (v := .d (.lit (.int .i64 r2))) (aA rfl) rfl rfl) ?_
 refine tr1 rfl (bI (aA rfl) rfl rfl rfl) ?_
 refine aF ?_
 refine bT rfl (fun c4 => ?_) (fun c4 => ?_)
 ·have h := aZ c4 h
  refine aE ?_
  refine aC ?_
  refine tr1 rfl (aD (v := .d (.lit (.int .i64 r2))) (aA rfl) rfl rfl) ?_
  refine tr1 rfl (aJ (v := .d (.lit (.int .i64 0))) (aA rfl) rfl rfl) ?_
  refine tr1 rfl (aJ (v := .d (.lit (.int .i64 r2))) (aA rfl) rfl rfl) ?_
  refine aF ?_
  have h := Option.some.inj h
  subst h
  refine cL (cG (cK (l := [8, 9]) ⟨rfl, rfl, trivial⟩)) ?_
  exact bM ⟨rfl, _, .two _ _, rfl, rfl⟩
 ·have h := aY c4 h
  refine bR ?_
  refine aE ?_
  refine aC ?_
  refine tr1 rfl (bH (aA rfl) rfl (i := 0) rfl cV (es := (aQ t_0)) rfl rfl) ?_
  refine tr1 rfl (aD (v := .d (.sl 5 (l_1.map aL))) (aA rfl) rfl rfl) ?_
  obtain ⟨r5, h6, h⟩ := bind_some h
  refine tr1 rfl (eN (aA rfl) (.func _ _ Try.call55) rfl rfl (kS _ _ h6)) ?_
  refine tr1 rfl (aD (v := .tup [.agg (bC r5.1), .d (.lit (.bool r5.2))]) (aA rfl) rfl rfl) ?_
  refine tr1 rfl (bL (aA rfl) rfl rfl) ?_
  refine tr1 rfl (bL (aA rfl) rfl rfl) ?_
  refine bV rfl (dJ (zs := [.sl 1 ((([] : List Int)).map aN), .sl 1 ((([] : List (List Int))).map eL)]) (aA rfl) Try.zeroValue89 rfl rfl) ?_
  rintro _ ⟨b7, rfl⟩
  refine tr1 rfl (cB (i := 1) rfl rfl rfl rfl rfl Try.sizeOf89 rfl (aA rfl) (Nat.le_of_ble_eq_true rfl) (ds' := (bC r5.1)) rfl) ?_
  refine tr1 rfl (aJ (v := .d (.lit (.bool r5.2))) (aA rfl) rfl rfl) ?_
  refine aF ?_
  refine aE ?_
  refine aE ?_
  refine aC ?_
  refine tr1 rfl (aV (aA rfl) rfl kQ) ?_
  refine tr1 rfl (aW (aA rfl) rfl (i := 1) rfl rfl oU) ?_
  refine tr1 rfl (aD (v := .d (.lit (.int .i64 round_2))) (aA rfl) rfl rfl) ?_
  obtain ⟨x8, h9, h⟩ := bind_some h
  refine tr1 rfl (bQ (aA rfl) rfl rfl pS.of (bU eL h9)) ?_
  refine tr1 rfl (bP (aA rfl) rfl cU) ?_
  refine tr1 rfl (aD (v := .d (.lit (.int .i64 place_3))) (aA rfl) rfl rfl) ?_
  obtain ⟨x10, h11, h⟩ := bind_some h
  refine tr1 rfl (bQ (aA rfl) rfl rfl bS.of (bU aN h11)) ?_
  refine tr1 rfl (bP (aA rfl) rfl bJ) ?_
  refine tr1 rfl (bI (aA rfl) rfl rfl rfl) ?_
  refine aF ?_
  refine bT rfl (fun c12 => ?_) (fun c12 => ?_)
  ·have h := aZ c12 h
   refine aE ?_
   refine aC ?_
   refine tr1 rfl (aJ (v := .d (.lit (.int .i64 0))) (aA rfl) rfl rfl) ?_
   refine tr1 rfl (aJ (v := .d (.lit (.int .i64 3))) (aA rfl) rfl rfl) ?_
   refine aF ?_
   have h := Option.some.inj h
   subst h
   refine cL (cG (cK (l := [8, 9]) ⟨rfl, rfl, trivial⟩)) ?_
   exact bM ⟨rfl, _, .two _ _, rfl, rfl⟩
  ·have h := aY c12 h
   refine bR ?_
   refine aE ?_
   refine aC ?_
   refine tr1 rfl (aV (aA rfl) rfl kQ) ?_
   refine tr1 rfl (aW (aA rfl) rfl (i := 1) rfl rfl oU) ?_
   refine tr1 rfl (aD (v := .d (.lit (.int .i64 round_2))) (aA rfl) rfl rfl) ?_
   obtain ⟨x13, h14, h⟩ := bind_some h
   refine tr1 rfl (bQ (aA rfl) rfl rfl pS.of (bU eL h14)) ?_
   refine tr1 rfl (bP (aA rfl) rfl cU) ?_
   refine tr1 rfl (aD (v := .d (.lit (.int .i64 place_3))) (aA rfl) rfl rfl) ?_
   obtain ⟨x15, h16, h⟩ := bind_some h
   refine tr1 rfl (bQ (aA rfl) rfl rfl bS.of (bU aN h16)) ?_
   refine tr1 rfl (bP (aA rfl) rfl bJ) ?_
   refine tr1 rfl (aJ (v := .d (.lit (.int .i64 x15))) (aA rfl) rfl rfl) ?_
   refine tr1 rfl (aJ (v := .d (.lit (.int .i64 0))) (aA rfl) rfl rfl) ?_
   refine aF ?_
   have h := Option.some.inj h
   subst h
   refine cL (cG (cK (l := [8, 9]) ⟨rfl, rfl, trivial⟩)) ?_
   exact bM ⟨rfl, _, .two _ _, rfl, rfl⟩

theorem zV (x_0 : List Int) {r : Int} (h : mW x_0 = some r) : Fn Try.prog 58 [.d (.sl 1 (x_0.map aN))] (.d (.lit (.int .i64 r))) := by
 unfold mW at h
 refine Fn.of_tr Try.func58 rfl (rs := [.tmp 2]) Try.results58 Try.ntmps58 (Nat.le_of_ble_eq_true rfl) ?_
 refine aE ?_
 refine aC ?_
 refine tr1 rfl (aJ (v := .d (.lit (.int .i64 0))) (aA rfl) rfl rfl) ?_
 refine aF ?_
 refine aE ?_
 refine aE ?_
 refine aC ?_
 refine tr1 rfl (aD (v := .d (.sl 1 (x_0.map aN))) (aA rfl) rfl rfl) ?_
 refine tr1 rfl (eB (aA rfl) rfl bS.of) ?_
 refine tr1 rfl (bI (aA rfl) rfl rfl rfl) ?_
 refine aF ?_
 refine bT rfl (fun c1 => ?_) (fun c1 => ?_)
 ·have h := aZ c1 h
  cases h
 ·have h := aY c1 h
  refine bR ?_
  refine aE ?_
  refine aC ?_
  refine tr1 rfl (aD (v := .d (.sl 1 (x_0.map aN))) (aA rfl) rfl rfl) ?_
  obtain ⟨x2, h3, h⟩ := bind_some h
  refine tr1 rfl (bQ (aA rfl) rfl rfl bS.of (bU aN h3)) ?_
  refine tr1 rfl (bP (aA rfl) rfl bJ) ?_
  refine tr1 rfl (aJ (v := .d (.lit (.int .i64 x2))) (aA rfl) rfl rfl) ?_
  refine aF ?_
  refine aE ?_
  refine aE ?_
  refine aC ?_
  refine tr1 rfl (aJ (v := .d (.lit (.int .i64 1))) (aA rfl) rfl rfl) ?_
  refine aF ?_
  refine cD ?_
  refine dI [0] (fun (s4 : Int × Int) => [(3, .d (.lit (.int .i64 s4.1))), (4, .d (.lit (.int .i64 s4.2)))]) (fun (s4 : Int × Int) => []) (fun (k : Nat) (s4 : Int × Int) => iE x_0 k s4.1 s4.2) (fun _ => rfl) (x2, 1) h (bF [] rfl rfl (aU rfl (aU rfl (bB ⟨rfl, trivial⟩)))) ?_
  rintro k5 ⟨m_0_4, i_0_4⟩ h
  simp only [iE] at h
  refine aE ?_
  refine aE ?_
  refine aC ?_
  refine tr1 rfl (aD (v := .d (.lit (.int .i64 i_0_4))) (aA rfl) rfl rfl) ?_
  refine tr1 rfl (aD (v := .d (.sl 1 (x_0.map aN))) (aA rfl) rfl rfl) ?_
  refine tr1 rfl (eB (aA rfl) rfl bS.of) ?_
  refine tr1 rfl (bI (aA rfl) rfl rfl rfl) ?_
  refine aF ?_
  refine bT rfl (fun c6 => ?_) (fun c6 => ?_)
  ·have h := aZ c6 h
   refine bR ?_
   refine aE ?_
   refine cD ?_
   refine aC ?_
   refine tr1 rfl (aD (v := .d (.lit (.int .i64 m_0_4))) (aA rfl) rfl rfl) ?_
   refine tr1 rfl (aD (v := .d (.sl 1 (x_0.map aN))) (aA rfl) rfl rfl) ?_
   refine tr1 rfl (aD (v := .d (.lit (.int .i64 i_0_4))) (aA rfl) rfl rfl) ?_
   obtain ⟨x7, h8, h⟩ := bind_some h
   refine tr1 rfl (bQ (aA rfl) rfl rfl bS.of (bU aN h8)) ?_
   refine tr1 rfl (bP (aA rfl) rfl bJ) ?_
   refine tr1 rfl (aLb (aA rfl) rfl rfl) ?_
   refine tr1 rfl (aJ (v := .d (.lit (.int .i64 ((min m_0_4 x7))))) (aA rfl) rfl rfl) ?_
   refine eV ?_
   refine aC ?_
   refine tr1 rfl (aD (v := .d (.lit (.int .i64 i_0_4))) (aA rfl) rfl rfl) ?_
   refine tr1 rfl (bO (aA rfl) rfl rfl rfl) ?_
   refine tr1 rfl (aJ (v := .d (.lit (.int .i64 ((w64 (i_0_4 + 1)))))) (aA rfl) rfl rfl) ?_
   refine aF ?_
   exact ⟨(min m_0_4 x7, w64 (i_0_4 + 1)), h, bF [] rfl rfl (aU rfl (aU rfl (bB ⟨rfl, trivial⟩)))⟩
  ·have h := aY c6 h
   refine cX ?_
   refine .inl ⟨rfl, ?_⟩
   simp only [pI] at h
   refine aE ?_
   refine aC ?_
   refine tr1 rfl (aD (v := .d (.lit (.int .i64 m_0_4))) (aA rfl) rfl rfl) ?_
   refine tr1 rfl (aJ (v := .d (.lit (.int .i64 m_0_4))) (aA rfl) rfl rfl) ?_
   refine aF ?_
   have h := Option.some.inj h
   subst h
   exact bM ⟨rfl, _, .one _, rfl, rfl⟩

theorem aBl (t_0 : aO) (l_1 : List aG) (a_2 : Int) (b_3 : Int) {Q : (Int × Int) → Prop} (h : oK t_0 l_1 a_2 b_3 Q) : eZ Try.prog 36 [.agg (aQ t_0), .d (.sl 5 (l_1.map aL)), .d (.lit (.int .i64 a_2)), .d (.lit (.int .i64 b_3))] [] (fun r' o' => ∃ (r : Int × Int), Q r ∧ r' = .tup [.d (.lit (.int .i64 r.1)), .d (.lit (.int .i64 r.2))] ∧ o' = []) := by
 unfold oK at h
 refine gA Try.func36 rfl (rs := [.tmp 8, .tmp 9]) Try.results36 Try.ntmps36 (Nat.le_of_ble_eq_true rfl) ?_
 refine aE ?_
 refine aC ?_
 refine bV rfl (eH (v := .agg (aQ t_0)) (aA rfl) rfl rfl rfl) ?_
 rintro _ ⟨b1, rfl⟩
 refine tr1 rfl (aJ (v := .d (.lit (.int .i64 0))) (aA rfl) rfl rfl) ?_
 refine tr1 rfl (aJ (v := .d (.lit (.int .i64 0))) (aA rfl) rfl rfl) ?_
 refine aF ?_
 refine aE ?_
 refine aC ?_
 refine tr1 rfl (bH (aA rfl) rfl (i := 0) rfl cV (es := (aQ t_0)) rfl rfl) ?_
 refine tr1 rfl (aD (v := .d (.sl 5 (l_1.map aL))) (aA rfl) rfl rfl) ?_
 refine tr1 rfl (aD (v := .d (.lit (.int .i64 a_2))) (aA rfl) rfl rfl) ?_
 refine tr1 rfl (aD (v := .d (.lit (.int .i64 b_3))) (aA rfl) rfl rfl) ?_
 refine tr1 rfl (fQ (aA rfl) bS rfl rfl (rows := ([a_2, b_3]).map aN) rfl (dG (f := aN) fun _ => rfl) rfl (by decide)) ?_
 refine bV rfl (mV (aA rfl) (.func _ _ Try.call49) rfl rfl (wL _ _ _ h)) ?_
 rintro _ ⟨_, _, ⟨r2, h, rfl, rfl⟩, rfl⟩
 refine tr1 rfl (aD (v := .tup [cO aX r2.1, .d (.sl 1 (r2.2.1.map aN)), .d (.lit (.int .i64 r2.2.2))]) (aA rfl) rfl rfl) ?_
 refine tr1 rfl (bL (aA rfl) rfl rfl) ?_
 refine tr1 rfl (bL (aA rfl) rfl rfl) ?_
 refine tr1 rfl (bL (aA rfl) rfl rfl) ?_
 refine tr1 rfl (aJ (v := cO aX r2.1) (aA rfl) rfl rfl) ?_
 refine tr1 rfl (aJ (v := .d (.sl 1 (r2.2.1.map aN))) (aA rfl) rfl rfl) ?_
 refine tr1 rfl (aJ (v := .d (.lit (.int .i64 r2.2.2))) (aA rfl) rfl rfl) ?_
 refine aF ?_
 refine aE ?_
 refine cD ?_
 refine aE ?_
 refine aC ?_
 refine tr1 rfl (aD (v := .d (.lit (.int .i64 r2.2.2))) (aA rfl) rfl rfl) ?_
 refine tr1 rfl (bI (aA rfl) rfl rfl rfl) ?_
 refine tr1 rfl (aJ (v := .d (.lit (.bool ((!decide (r2.2.2 = 0)))))) (aA rfl) rfl rfl) ?_
 refine aF ?_
 refine bT rfl (fun c3 => ?_) (fun c3 => ?_)
 ·have h := dR c3 h
  refine aE ?_
  refine aC ?_
  refine tr1 rfl (aD (v := .d (.lit (.int .i64 r2.2.2))) (aA rfl) rfl rfl) ?_
  refine tr1 rfl (aJ (v := .d (.lit (.int .i64 0))) (aA rfl) rfl rfl) ?_
  refine tr1 rfl (aJ (v := .d (.lit (.int .i64 r2.2.2))) (aA rfl) rfl rfl) ?_
  refine aF ?_
  exact bM ⟨rfl, _, [], [.box b1 0 (aQ t_0)], _, .two (.tmp 8 (v := .d (.lit (.int .i64 0))) rfl) (.tmp 9 (v := .d (.lit (.int .i64 r2.2.2))) rfl), .refl _, .same _, (0, r2.2.2), h, rfl, rfl⟩
 ·have h := dQ c3 h
  refine aE ?_
  refine aC ?_
  refine tr1 rfl (aD (v := .d (.lit (.int .i64 a_2))) (aA rfl) rfl rfl) ?_
  refine tr1 rfl (aD (v := .d (.lit (.int .i64 b_3))) (aA rfl) rfl rfl) ?_
  refine tr1 rfl (bI (aA rfl) rfl rfl rfl) ?_
  refine tr1 rfl (aJ (v := .d (.lit (.bool ((decide (a_2 = b_3)))))) (aA rfl) rfl rfl) ?_
  refine aF ?_
  refine bT rfl (fun c4 => ?_) (fun c4 => ?_)
  ·have h := dR c4 h
   refine aE ?_
   refine aC ?_
   refine tr1 rfl (aJ (v := .d (.lit (.int .i64 0))) (aA rfl) rfl rfl) ?_
   refine tr1 rfl (aJ (v := .d (.lit (.int .i64 1))) (aA rfl) rfl rfl) ?_
   refine aF ?_
   exact bM ⟨rfl, _, [], [.box b1 0 (aQ t_0)], _, .two (.tmp 8 (v := .d (.lit (.int .i64 0))) rfl) (.tmp 9 (v := .d (.lit (.int .i64 1))) rfl), .refl _, .same _, (0, 1), h, rfl, rfl⟩
  ·have h := dQ c4 h
   refine aE ?_
   refine aC ?_
   refine tr1 rfl (aD (v := .d (.sl 1 (r2.2.1.map aN))) (aA rfl) rfl rfl) ?_
   obtain ⟨r5, h6, h⟩ := cS h
   refine tr1 rfl (cH (aA rfl) (.func _ _ Try.call58) rfl rfl (BVs.refl _ _) (zV _ h6) rfl) ?_
   refine tr1 rfl (bI (aA rfl) rfl rfl rfl) ?_
   refine tr1 rfl (aJ (v := .d (.lit (.bool ((decide (r5 < 0)))))) (aA rfl) rfl rfl) ?_
   refine aF ?_
   refine bT rfl (fun c7 => ?_) (fun c7 => ?_)
   ·have h := dR c7 h
    refine aE ?_
    refine aC ?_
    refine tr1 rfl (aJ (v := .d (.lit (.int .i64 0))) (aA rfl) rfl rfl) ?_
    refine tr1 rfl (aJ (v := .d (.lit (.int .i64 3))) (aA rfl) rfl rfl) ?_
    refine aF ?_
    exact bM ⟨rfl, _, [], [.box b1 0 (aQ t_0)], _, .two (.tmp 8 (v := .d (.lit (.int .i64 0))) rfl) (.tmp 9 (v := .d (.lit (.int .i64 3))) rfl), .refl _, .same _, (0, 3), h, rfl, rfl⟩
   ·have h := dQ c7 h
    refine eF ?_
    refine aE ?_
    refine aE ?_
    refine aC ?_
    refine tr1 rfl (aD (v := cO aX r2.1) (aA rfl) rfl rfl) ?_
    obtain ⟨x8, h9, h⟩ := cS h
    refine tr1 rfl (nV (enc := aX) (aA rfl) rfl h9) ?_
    refine tr1 rfl (cY (aA rfl) rfl nM (es := [.lit (.int .i64 x8.Tree.Rounds), .sl 1 (x8.Tree.Slots.map aN)]) rfl) ?_
    refine tr1 rfl (cY (aA rfl) rfl fA (es := [.lit (.int .i64 x8.Tree.Rounds)]) rfl) ?_
    refine tr1 rfl (bP (aA rfl) rfl bJ) ?_
    refine tr1 rfl (aD (v := .d (.lit (.int .i64 0))) (aA rfl) rfl rfl) ?_
    refine aF ?_
    refine cD ?_
    refine nP [10, 11, 40] (fun (s10 : Int) => [(41, .d (.lit (.int .i64 s10)))]) (fun (s10 : Int) => []) (fun (k : Nat) (s10 : Int) => jB Q r2.1 r2.2.1 x8.Tree.Rounds k s10) (fun _ h => h) (0) h (bF [] rfl rfl (aU rfl (bB ⟨rfl, rfl, rfl, trivial⟩))) ?_
    rintro k11 t41_1_10 h
    simp only [jB] at h
    refine aE ?_
    refine aC ?_
    refine tr1 rfl (bI (aA rfl) rfl rfl rfl) ?_
    refine aF ?_
    refine aE ?_
    refine bT rfl (fun c12 => ?_) (fun c12 => ?_)
    ·have h := dR c12 h
     refine bR ?_
     refine aE ?_
     refine cD ?_
     refine aE ?_
     refine aC ?_
     refine tr1 rfl (aD (v := .d (.lit (.int .i64 t41_1_10))) (aA rfl) rfl rfl) ?_
     refine tr1 rfl (aJ (v := .d (.lit (.int .i64 t41_1_10))) (aA rfl) rfl rfl) ?_
     refine aF ?_
     refine aE ?_
     obtain ⟨x13, h14, h⟩ := cS h
     obtain ⟨r15, h16, h⟩ := cS h
     obtain ⟨x17, h18, h⟩ := cS h
     refine dM mix 9 [10, 11, 13, 40, 41] [(48, .agg (aK r15)), (49, .d (.lit (.int .i64 t41_1_10))), (52, .d (.lit (.int .i64 x17)))] ?_ ?_
     ·refine ⟨[(44, 0, .d (.lit (.int .i64 t41_1_10))), (45, 1, .d (.sl 1 (r2.2.1.map aN))), (46, 2, .cp [.lit (.int .i64 x13)]), (47, 3, .d (.lit (.int .i64 x13))), (48, 4, .agg (aK r15)), (49, 5, .d (.lit (.int .i64 t41_1_10))), (50, 6, .d (.sl 1 (r2.2.1.map aN))), (51, 7, .cp [.lit (.int .i64 x17)]), (52, 8, .d (.lit (.int .i64 x17)))], ?_, ?_⟩
      · exact ⟨by kernel_rfl, by kernel_rfl, by kernel_rfl, by kernel_rfl, by kernel_rfl, [([], []), ([], []), ([1], []), ([2], []), ([0, 3], []), ([], []), ([], []), ([6], []), ([7], [])], by kernel_rfl, ⟨fun S hS => aH rfl (aT rfl (aD (v := .d (.lit (.int .i64 t41_1_10))) (aA rfl) (aI hS rfl) rfl)),
      fun S hS => aH rfl (aT rfl (aD (v := .d (.sl 1 (r2.2.1.map aN))) (aA rfl) (aI hS rfl) rfl)),
      fun S hS => aH rfl (aT rfl (bQ (aA rfl) (aI hS rfl) rfl bS.of (bU aN h14))),
      fun S hS => aH rfl (aT rfl (bP (aA rfl) (aI hS rfl) bJ)),
      fun S hS => aH rfl (aT rfl (eN (aA rfl) (.func _ _ Try.call45) (ev2 (aI hS rfl) (ev2 (aI hS rfl) evn)) rfl (jE _ _ h16))),
      fun S hS => aH rfl (aT rfl (aD (v := .d (.lit (.int .i64 t41_1_10))) (aA rfl) (aI hS rfl) rfl)),
      fun S hS => aH rfl (aT rfl (aD (v := .d (.sl 1 (r2.2.1.map aN))) (aA rfl) (aI hS rfl) rfl)),
      fun S hS => aH rfl (aT rfl (bQ (aA rfl) (aI hS rfl) rfl bS.of (bU aN h18))),
      fun S hS => aH rfl (aT rfl (bP (aA rfl) (aI hS rfl) bJ)), trivial⟩⟩
      · exact cZ (aU rfl (aU rfl (aU rfl (bB ⟨rfl, rfl, rfl, rfl, rfl, trivial⟩))))
     ·obtain ⟨r19, h20, h⟩ := cS h
      refine tr1 rfl (eN (aA rfl) (.func _ _ Try.call45) rfl rfl (jE _ _ h20)) ?_
      refine tr1 rfl (uE (a := r15) (b := r19) (aA rfl) rfl rfl rfl rfl Try.eqGuardType70 uQ) ?_
      refine aF ?_
      refine bT rfl (fun c21 => ?_) (fun c21 => ?_)
      ·have h := dR c21 h
       refine aE ?_
       refine aE ?_
       obtain ⟨x22, h23, h⟩ := cS h
       refine cL (yF (enc := aX) (k := 10) rfl h23) ?_
       obtain ⟨x24, h25, h⟩ := cS h
       obtain ⟨r26, h27, h⟩ := cS h
       obtain ⟨x28, h29, h⟩ := cS h
       obtain ⟨r30, h31, h⟩ := cS h
       refine dM mix 12 [13] [(65, .d (.lit (.int .i64 ((min r26 r30))))), (66, .d (.lit (.int .i64 t41_1_10)))] ?_ ?_
       ·refine ⟨[(55, 0, .cp [.lit (.int .i64 x22.Tree.Rounds), .sl 1 (x22.Tree.Slots.map aN), .sl 1 (x22.players.map aN), .mp false (x22.won.map fun p : aB × Int => ((fun a : aB => Value.agg ((aK a).map bK).toArray) p.1, aN p.2))]), (56, 1, .d (.sl 1 (r2.2.1.map aN))), (57, 2, .cp [.lit (.int .i64 x24)]), (58, 3, .d (.lit (.int .i64 x24))), (59, 4, .d (.lit (.int .i64 r26))), (60, 5, .cp [.lit (.int .i64 x22.Tree.Rounds), .sl 1 (x22.Tree.Slots.map aN), .sl 1 (x22.players.map aN), .mp false (x22.won.map fun p : aB × Int => ((fun a : aB => Value.agg ((aK a).map bK).toArray) p.1, aN p.2))]), (61, 6, .d (.sl 1 (r2.2.1.map aN))), (62, 7, .cp [.lit (.int .i64 x28)]), (63, 8, .d (.lit (.int .i64 x28))), (64, 9, .d (.lit (.int .i64 r30))), (65, 10, .d (.lit (.int .i64 ((min r26 r30))))), (66, 11, .d (.lit (.int .i64 t41_1_10)))], ?_, ?_⟩
        · exact ⟨by kernel_rfl, by kernel_rfl, by kernel_rfl, by kernel_rfl, by kernel_rfl, [([], []), ([], []), ([1], []), ([2], []), ([0, 3], []), ([], []), ([], []), ([6], []), ([7], []), ([5, 8], []), ([4, 9], []), ([], [])], by kernel_rfl, ⟨fun S hS => aH rfl (aT rfl (aD (v := .cp [.lit (.int .i64 x22.Tree.Rounds), .sl 1 (x22.Tree.Slots.map aN), .sl 1 (x22.players.map aN), .mp false (x22.won.map fun p : aB × Int => ((fun a : aB => Value.agg ((aK a).map bK).toArray) p.1, aN p.2))]) (aA rfl) (aI hS rfl) rfl)),
      fun S hS => aH rfl (aT rfl (aD (v := .d (.sl 1 (r2.2.1.map aN))) (aA rfl) (aI hS rfl) rfl)),
      fun S hS => aH rfl (aT rfl (bQ (aA rfl) (aI hS rfl) rfl bS.of (bU aN h25))),
      fun S hS => aH rfl (aT rfl (bP (aA rfl) (aI hS rfl) bJ)),
      fun S hS => aH rfl (aT rfl (cH (aA rfl) (.func _ _ Try.call46) (ev2 (aI hS rfl) (ev2 (aI hS rfl) evn)) rfl (BVs.refl _ _) (lX _ _ h27) rfl)),
      fun S hS => aH rfl (aT rfl (aD (v := .cp [.lit (.int .i64 x22.Tree.Rounds), .sl 1 (x22.Tree.Slots.map aN), .sl 1 (x22.players.map aN), .mp false (x22.won.map fun p : aB × Int => ((fun a : aB => Value.agg ((aK a).map bK).toArray) p.1, aN p.2))]) (aA rfl) (aI hS rfl) rfl)),
      fun S hS => aH rfl (aT rfl (aD (v := .d (.sl 1 (r2.2.1.map aN))) (aA rfl) (aI hS rfl) rfl)),
      fun S hS => aH rfl (aT rfl (bQ (aA rfl) (aI hS rfl) rfl bS.of (bU aN h29))),
      fun S hS => aH rfl (aT rfl (bP (aA rfl) (aI hS rfl) bJ)),
      fun S hS => aH rfl (aT rfl (cH (aA rfl) (.func _ _ Try.call46) (ev2 (aI hS rfl) (ev2 (aI hS rfl) evn)) rfl (BVs.refl _ _) (lX _ _ h31) rfl)),
      fun S hS => aH rfl (aT rfl (aLb (aA rfl) (aI hS rfl) (aI hS rfl))),
      fun S hS => aH rfl (aT rfl (aD (v := .d (.lit (.int .i64 t41_1_10))) (aA rfl) (aI hS rfl) rfl)), trivial⟩⟩
        · exact cZ (aU rfl (aU rfl (bB ⟨rfl, trivial⟩)))
       ·refine tr1 rfl (bI (aA rfl) rfl rfl rfl) ?_
        refine aF ?_
        refine bT rfl (fun c32 => ?_) (fun c32 => ?_)
        ·have h := dR c32 h
         refine aE ?_
         refine aC ?_
         refine tr1 rfl (aJ (v := .d (.lit (.int .i64 0))) (aA rfl) rfl rfl) ?_
         refine tr1 rfl (aJ (v := .d (.lit (.int .i64 3))) (aA rfl) rfl rfl) ?_
         refine aF ?_
         exact bM ⟨rfl, _, [], [], _, .two (.tmp 8 (v := .d (.lit (.int .i64 0))) rfl) (.tmp 9 (v := .d (.lit (.int .i64 3))) rfl), .refl _, .same _, (0, 3), h, rfl, rfl⟩
        ·have h := dQ c32 h
         refine bR ?_
         refine aE ?_
         refine aC ?_
         refine tr1 rfl (aD (v := .d (.lit (.int .i64 t41_1_10))) (aA rfl) rfl rfl) ?_
         refine tr1 rfl (aJ (v := .d (.lit (.int .i64 t41_1_10))) (aA rfl) rfl rfl) ?_
         refine tr1 rfl (aJ (v := .d (.lit (.int .i64 0))) (aA rfl) rfl rfl) ?_
         refine aF ?_
         exact bM ⟨rfl, _, [], [], _, .two (.tmp 8 (v := .d (.lit (.int .i64 t41_1_10))) rfl) (.tmp 9 (v := .d (.lit (.int .i64 0))) rfl), .refl _, .same _, (t41_1_10, 0), h, rfl, rfl⟩
      ·have h := dQ c21 h
       refine eF ?_
       refine aC ?_
       refine tr1 rfl (bO (aA rfl) rfl rfl rfl) ?_
       refine tr1 rfl (aD (v := .d (.lit (.int .i64 ((w64 (t41_1_10 + 1)))))) (aA rfl) rfl rfl) ?_
       refine aF ?_
       exact ⟨(w64 (t41_1_10 + 1)), h, bF [] rfl rfl (aU rfl (bB ⟨rfl, rfl, rfl, trivial⟩))⟩
    ·have h := dQ c12 h
     refine cX ?_
     refine .inl ⟨rfl, ?_⟩
     simp only [tV] at h
     refine aE ?_
     refine aC ?_
     refine tr1 rfl (aJ (v := .d (.lit (.int .i64 0))) (aA rfl) rfl rfl) ?_
     refine tr1 rfl (aJ (v := .d (.lit (.int .i64 3))) (aA rfl) rfl rfl) ?_
     refine aF ?_
     exact bM ⟨rfl, _, [], [], _, .two (.tmp 8 (v := .d (.lit (.int .i64 0))) rfl) (.tmp 9 (v := .d (.lit (.int .i64 3))) rfl), .refl _, .same _, (0, 3), h, rfl, rfl⟩

theorem yO (t_0 : aO) (l_1 : List aG) (a_2 : Int) (b_3 : Int) {r : Int × Int} (h : fT t_0 l_1 a_2 b_3 = some r) : Fn Try.prog 40 [.agg (aQ t_0), .d (.sl 5 (l_1.map aL)), .d (.lit (.int .i64 a_2)), .d (.lit (.int .i64 b_3))] (.tup [.d (.lit (.int .i64 r.1)), .d (.lit (.int .i64 r.2))]) := by
 unfold fT at h
 refine Fn.of_tr Try.func40 rfl (rs := [.tmp 8, .tmp 9]) Try.results40 Try.ntmps40 (Nat.le_of_ble_eq_true rfl) ?_
 refine aE ?_
 refine aC ?_
 refine bV rfl (eH (v := .agg (aQ t_0)) (aA rfl) rfl rfl rfl) ?_
 rintro _ ⟨b1, rfl⟩
 refine tr1 rfl (aJ (v := .d (.lit (.int .i64 0))) (aA rfl) rfl rfl) ?_
 refine tr1 rfl (aJ (v := .d (.lit (.int .i64 0))) (aA rfl) rfl rfl) ?_
 refine aF ?_
 refine aE ?_
 refine aE ?_
 refine aC ?_
 refine tr1 rfl (bH (aA rfl) rfl (i := 0) rfl cV (es := (aQ t_0)) rfl rfl) ?_
 refine tr1 rfl (aD (v := .d (.sl 5 (l_1.map aL))) (aA rfl) rfl rfl) ?_
 obtain ⟨r2, h3, h⟩ := bind_some h
 refine tr1 rfl (cH (aA rfl) (.func _ _ Try.call29) rfl rfl (BVs.refl _ _) (oM _ _ h3) rfl) ?_
 refine tr1 rfl (aJ (v := .d (.lit (.int .i64 r2))) (aA rfl) rfl rfl) ?_
 refine aF ?_
 refine aE ?_
 refine aC ?_
 refine tr1 rfl (aD (v := .d (.lit (.int .i64 r2))) (aA rfl) rfl rfl) ?_
 refine tr1 rfl (bI (aA rfl) rfl rfl rfl) ?_
 refine aF ?_
 refine bT rfl (fun c4 => ?_) (fun c4 => ?_)
 ·have h := aZ c4 h
  refine aE ?_
  refine aC ?_
  refine tr1 rfl (aD (v := .d (.lit (.int .i64 r2))) (aA rfl) rfl rfl) ?_
  refine tr1 rfl (aJ (v := .d (.lit (.int .i64 0))) (aA rfl) rfl rfl) ?_
  refine tr1 rfl (aJ (v := .d (.lit (.int .i64 r2))) (aA rfl) rfl rfl) ?_
  refine aF ?_
  have h := Option.some.inj h
  subst h
  refine cL (cG (cK (l := [8, 9]) ⟨rfl, rfl, trivial⟩)) ?_
  exact bM ⟨rfl, _, .two _ _, rfl, rfl⟩
 ·have h := aY c4 h
  refine bR ?_
  refine aE ?_
  refine aE ?_
  refine aC ?_
  refine tr1 rfl (aD (v := .d (.lit (.int .i64 a_2))) (aA rfl) rfl rfl) ?_
  obtain ⟨r5, h6, h⟩ := bind_some h
  refine tr1 rfl (cH (aA rfl) (.func _ _ Try.call41) rfl rfl (BVs.refl _ _) (dV _ _ _ h6) rfl) ?_
  refine tr1 rfl (fU (aA rfl) rfl) ?_
  refine tr1 rfl (aD (v := .d (.lit (.bool (!r5)))) (aA rfl) rfl rfl) ?_
  obtain ⟨b7, h8, h⟩ := bind_some h
  refine cF 4 [1, 2, 3, 4] 29 b7 ?_ ?_
  ·refine bN (!r5) (fun c39 => ?_) (fun c39 => ?_)
   ·have h8 := aZ c39 h8
    refine aP rfl rfl (aA rfl) rfl (aA rfl) rfl c39 ?_
    refine aP rfl rfl (aA rfl) rfl (aA rfl) rfl c39 ?_
    refine aP rfl rfl (aA rfl) rfl (aA rfl) rfl c39 ?_
    refine tr1 rfl (bW (v := .d (.lit (.bool true))) (aA rfl) rfl c39 rfl rfl) ?_
    have h8 := Option.some.inj h8
    subst h8
    refine aF (bE rfl ⟨rfl, rfl, rfl, rfl, trivial⟩ rfl)
   ·have h8 := aY c39 h8
    refine aM rfl rfl (aA rfl) rfl c39 (aD (v := .d (.lit (.int .i64 b_3))) (aA rfl) rfl rfl) ?_
    obtain ⟨r40, h41, h8⟩ := bind_some h8
    refine aM rfl rfl (aA rfl) rfl c39 (cH (aA rfl) (.func _ _ Try.call41) rfl rfl (BVs.refl _ _) (dV _ _ _ h41) rfl) ?_
    refine aM rfl rfl (aA rfl) rfl c39 (fU (aA rfl) rfl) ?_
    refine tr1 rfl (bX (v := .d (.lit (.bool (!r40)))) (aA rfl) rfl c39 rfl rfl) ?_
    have h8 := Option.some.inj h8
    subst h8
    refine aF (bE rfl ⟨rfl, rfl, rfl, rfl, trivial⟩ rfl)
  ·refine tr1 rfl (aD (v := .d (.lit (.bool b7))) (aA rfl) rfl rfl) ?_
   obtain ⟨b9, h10, h⟩ := bind_some h
   refine cF 4 [1, 2, 3, 4] 34 b9 ?_ ?_
   ·refine bN (b7) (fun c38 => ?_) (fun c38 => ?_)
    ·have h10 := aZ c38 h10
     refine aP rfl rfl (aA rfl) rfl (aA rfl) rfl c38 ?_
     refine aP rfl rfl (aA rfl) rfl (aA rfl) rfl c38 ?_
     refine aP rfl rfl (aA rfl) rfl (aA rfl) rfl c38 ?_
     refine tr1 rfl (bW (v := .d (.lit (.bool true))) (aA rfl) rfl c38 rfl rfl) ?_
     have h10 := Option.some.inj h10
     subst h10
     refine aF (bE rfl ⟨rfl, rfl, rfl, rfl, trivial⟩ rfl)
    ·have h10 := aY c38 h10
     refine aM rfl rfl (aA rfl) rfl c38 (aD (v := .d (.lit (.int .i64 a_2))) (aA rfl) rfl rfl) ?_
     refine aM rfl rfl (aA rfl) rfl c38 (aD (v := .d (.lit (.int .i64 b_3))) (aA rfl) rfl rfl) ?_
     refine aM rfl rfl (aA rfl) rfl c38 (bI (aA rfl) rfl rfl rfl) ?_
     refine tr1 rfl (bX (v := .d (.lit (.bool ((decide (a_2 = b_3)))))) (aA rfl) rfl c38 rfl rfl) ?_
     have h10 := Option.some.inj h10
     subst h10
     refine aF (bE rfl ⟨rfl, rfl, rfl, rfl, trivial⟩ rfl)
   ·refine aF ?_
    refine bT rfl (fun c11 => ?_) (fun c11 => ?_)
    ·have h := aZ c11 h
     refine aE ?_
     refine aC ?_
     refine tr1 rfl (aJ (v := .d (.lit (.int .i64 0))) (aA rfl) rfl rfl) ?_
     refine tr1 rfl (aJ (v := .d (.lit (.int .i64 1))) (aA rfl) rfl rfl) ?_
     refine aF ?_
     have h := Option.some.inj h
     subst h
     refine cL (cG (cK (l := [8, 9]) ⟨rfl, rfl, trivial⟩)) ?_
     exact bM ⟨rfl, _, .two _ _, rfl, rfl⟩
    ·have h := aY c11 h
     refine bR ?_
     refine aE ?_
     refine aC ?_
     refine tr1 rfl (bH (aA rfl) rfl (i := 0) rfl cV (es := (aQ t_0)) rfl rfl) ?_
     refine tr1 rfl (aD (v := .d (.sl 5 (l_1.map aL))) (aA rfl) rfl rfl) ?_
     obtain ⟨r12, h13, h⟩ := bind_some h
     refine tr1 rfl (eN (aA rfl) (.func _ _ Try.call55) rfl rfl (kS _ _ h13)) ?_
     refine tr1 rfl (aD (v := .tup [.agg (bC r12.1), .d (.lit (.bool r12.2))]) (aA rfl) rfl rfl) ?_
     refine tr1 rfl (bL (aA rfl) rfl rfl) ?_
     refine tr1 rfl (bL (aA rfl) rfl rfl) ?_
     refine bV rfl (dJ (zs := [.sl 1 ((([] : List Int)).map aN), .sl 1 ((([] : List (List Int))).map eL)]) (aA rfl) Try.zeroValue89 rfl rfl) ?_
     rintro _ ⟨b14, rfl⟩
     refine tr1 rfl (cB (i := 1) rfl rfl rfl rfl rfl Try.sizeOf89 rfl (aA rfl) (Nat.le_of_ble_eq_true rfl) (ds' := (bC r12.1)) rfl) ?_
     refine tr1 rfl (aJ (v := .d (.lit (.bool r12.2))) (aA rfl) rfl rfl) ?_
     refine aF ?_
     refine aE ?_
     obtain ⟨r15, h16, h⟩ := bind_some h
     refine dM mix 5 [4, 11] [(43, .d (.lit (.int .i64 r15))), (44, .agg (bC r12.1)), (45, .d (.lit (.int .i64 b_3)))] ?_ ?_
     ·refine ⟨[(41, 0, .agg (bC r12.1)), (42, 1, .d (.lit (.int .i64 a_2))), (43, 2, .d (.lit (.int .i64 r15))), (44, 3, .agg (bC r12.1)), (45, 4, .d (.lit (.int .i64 b_3)))], ?_, ?_⟩
      · exact ⟨by kernel_rfl, by kernel_rfl, by kernel_rfl, by kernel_rfl, by kernel_rfl, [([], []), ([], []), ([0, 1], []), ([], []), ([], [])], by kernel_rfl, ⟨fun S hS => aH rfl (aT rfl (bH (aA rfl) (aI hS rfl) (i := 1) rfl lU (es := (bC r12.1)) rfl rfl)),
      fun S hS => aH rfl (aT rfl (aD (v := .d (.lit (.int .i64 a_2))) (aA rfl) (aI hS rfl) rfl)),
      fun S hS => aH rfl (aT rfl (cH (aA rfl) (.func _ _ Try.call62) (ev2 (aI hS rfl) (ev2 (aI hS rfl) evn)) rfl (BVs.refl _ _) (pH _ _ h16) rfl)),
      fun S hS => aH rfl (aT rfl (bH (aA rfl) (aI hS rfl) (i := 1) rfl lU (es := (bC r12.1)) rfl rfl)),
      fun S hS => aH rfl (aT rfl (aD (v := .d (.lit (.int .i64 b_3))) (aA rfl) (aI hS rfl) rfl)), trivial⟩⟩
      · exact cZ (aU rfl (aU rfl (aU rfl (bB ⟨rfl, rfl, trivial⟩))))
     ·obtain ⟨r17, h18, h⟩ := bind_some h
      refine tr1 rfl (cH (aA rfl) (.func _ _ Try.call62) rfl rfl (BVs.refl _ _) (pH _ _ h18) rfl) ?_
      refine tr1 rfl (aJ (v := .d (.lit (.int .i64 r15))) (aA rfl) rfl rfl) ?_
      refine tr1 rfl (aJ (v := .d (.lit (.int .i64 r17))) (aA rfl) rfl rfl) ?_
      refine aF ?_
      refine aE ?_
      refine aE ?_
      refine aC ?_
      refine tr1 rfl (aD (v := .d (.lit (.int .i64 r15))) (aA rfl) rfl rfl) ?_
      refine tr1 rfl (bI (aA rfl) rfl rfl rfl) ?_
      refine tr1 rfl (aD (v := .d (.lit (.bool ((decide (r15 < 0)))))) (aA rfl) rfl rfl) ?_
      obtain ⟨b19, h20, h⟩ := bind_some h
      refine cF 3 [4, 11, 13, 14] 52 b19 ?_ ?_
      ·refine bN (decide (r15 < 0)) (fun c37 => ?_) (fun c37 => ?_)
       ·have h20 := aZ c37 h20
        refine aP rfl rfl (aA rfl) rfl (aA rfl) rfl c37 ?_
        refine aP rfl rfl (aA rfl) rfl (aA rfl) rfl c37 ?_
        refine tr1 rfl (bW (v := .d (.lit (.bool true))) (aA rfl) rfl c37 rfl rfl) ?_
        have h20 := Option.some.inj h20
        subst h20
        refine aF (bE rfl ⟨rfl, rfl, rfl, rfl, trivial⟩ rfl)
       ·have h20 := aY c37 h20
        refine aM rfl rfl (aA rfl) rfl c37 (aD (v := .d (.lit (.int .i64 r17))) (aA rfl) rfl rfl) ?_
        refine aM rfl rfl (aA rfl) rfl c37 (bI (aA rfl) rfl rfl rfl) ?_
        refine tr1 rfl (bX (v := .d (.lit (.bool ((decide (r17 < 0)))))) (aA rfl) rfl c37 rfl rfl) ?_
        have h20 := Option.some.inj h20
        subst h20
        refine aF (bE rfl ⟨rfl, rfl, rfl, rfl, trivial⟩ rfl)
      ·refine aF ?_
       refine bT rfl (fun c21 => ?_) (fun c21 => ?_)
       ·have h := aZ c21 h
        refine aE ?_
        refine aC ?_
        refine tr1 rfl (aJ (v := .d (.lit (.int .i64 0))) (aA rfl) rfl rfl) ?_
        refine tr1 rfl (aJ (v := .d (.lit (.int .i64 3))) (aA rfl) rfl rfl) ?_
        refine aF ?_
        have h := Option.some.inj h
        subst h
        refine cL (cG (cK (l := [8, 9]) ⟨rfl, rfl, trivial⟩)) ?_
        exact bM ⟨rfl, _, .two _ _, rfl, rfl⟩
       ·have h := aY c21 h
        refine bR ?_
        refine aE ?_
        refine aC ?_
        refine tr1 rfl (aJ (v := .d (.lit (.int .i64 0))) (aA rfl) rfl rfl) ?_
        refine aF ?_
        refine aE ?_
        refine cD ?_
        refine dI [4, 11, 13, 14] (fun (s22 : Int) => [(15, .d (.lit (.int .i64 s22)))]) (fun (s22 : Int) => [.box b1 0 (aQ t_0), .box b14 0 (bC r12.1)]) (fun (k : Nat) (s22 : Int) => eI r15 r17 t_0 r12.1 k s22) (fun _ => rfl) (0) h (bF [0, 1] rfl rfl (aU rfl (bB ⟨rfl, rfl, rfl, rfl, trivial⟩))) ?_
        rintro k23 r_0_22 h
        simp only [eI] at h
        refine aE ?_
        refine aE ?_
        refine aC ?_
        refine tr1 rfl (aD (v := .d (.lit (.int .i64 r15))) (aA rfl) rfl rfl) ?_
        refine tr1 rfl (aD (v := .d (.lit (.int .i64 r_0_22))) (aA rfl) rfl rfl) ?_
        refine tr1 rfl (bO (aA rfl) rfl rfl rfl) ?_
        refine tr1 rfl (oW (aA rfl) rfl Try.runUnderlying3 Try.runUnderlying45) ?_
        obtain ⟨u24, h25, h⟩ := bind_some h
        refine tr1 rfl (pR (aA rfl) rfl rfl (nN h25)) ?_
        refine tr1 rfl (aD (v := .d (.lit (.int .i64 r17))) (aA rfl) rfl rfl) ?_
        refine tr1 rfl (aD (v := .d (.lit (.int .i64 r_0_22))) (aA rfl) rfl rfl) ?_
        refine tr1 rfl (bO (aA rfl) rfl rfl rfl) ?_
        refine tr1 rfl (oW (aA rfl) rfl Try.runUnderlying3 Try.runUnderlying45) ?_
        obtain ⟨u26, h27, h⟩ := bind_some h
        refine tr1 rfl (pR (aA rfl) rfl rfl (nN h27)) ?_
        refine tr1 rfl (bI (aA rfl) rfl rfl rfl) ?_
        refine aF ?_
        refine bT rfl (fun c28 => ?_) (fun c28 => ?_)
        ·have h := aZ c28 h
         refine bR ?_
         refine cD ?_
         refine aC ?_
         refine tr1 rfl (aD (v := .d (.lit (.int .i64 r_0_22))) (aA rfl) rfl rfl) ?_
         refine tr1 rfl (bO (aA rfl) rfl rfl rfl) ?_
         refine tr1 rfl (aJ (v := .d (.lit (.int .i64 ((w64 (r_0_22 + 1)))))) (aA rfl) rfl rfl) ?_
         refine eV ?_
         exact ⟨(w64 (r_0_22 + 1)), h, bF [0, 1] rfl rfl (aU rfl (bB ⟨rfl, rfl, rfl, rfl, trivial⟩))⟩
        ·have h := aY c28 h
         refine cX ?_
         refine .inl ⟨rfl, ?_⟩
         simp only [jZ] at h
         refine aE ?_
         refine aE ?_
         refine aC ?_
         refine tr1 rfl (bH (aA rfl) rfl (i := 0) rfl cV (es := (aQ t_0)) rfl rfl) ?_
         refine tr1 rfl (bH (aA rfl) rfl (i := 1) rfl lU (es := (bC r12.1)) rfl rfl) ?_
         refine tr1 rfl (aD (v := .d (.lit (.int .i64 r15))) (aA rfl) rfl rfl) ?_
         obtain ⟨r29, h30, h⟩ := bind_some h
         refine tr1 rfl (cH (aA rfl) (.func _ _ Try.call60) rfl rfl (BVs.refl _ _) (mN _ _ _ h30) rfl) ?_
         refine tr1 rfl (aD (v := .d (.lit (.int .i64 r_0_22))) (aA rfl) rfl rfl) ?_
         refine tr1 rfl (bI (aA rfl) rfl rfl rfl) ?_
         refine tr1 rfl (aD (v := .d (.lit (.bool ((decide (r29 < r_0_22)))))) (aA rfl) rfl rfl) ?_
         obtain ⟨b31, h32, h⟩ := bind_some h
         refine cF 7 [15] 79 b31 ?_ ?_
         ·refine bN (decide (r29 < r_0_22)) (fun c34 => ?_) (fun c34 => ?_)
          ·have h32 := aZ c34 h32
           refine aP rfl rfl (aA rfl) rfl (aA rfl) rfl c34 ?_
           refine aP rfl rfl (aA rfl) rfl (aA rfl) rfl c34 ?_
           refine aP rfl rfl (aA rfl) rfl (aA rfl) rfl c34 ?_
           refine aP rfl rfl (aA rfl) rfl (aA rfl) rfl c34 ?_
           refine aP rfl rfl (aA rfl) rfl (aA rfl) rfl c34 ?_
           refine aP rfl rfl (aA rfl) rfl (aA rfl) rfl c34 ?_
           refine tr1 rfl (bW (v := .d (.lit (.bool true))) (aA rfl) rfl c34 rfl rfl) ?_
           have h32 := Option.some.inj h32
           subst h32
           refine aF (bE rfl ⟨rfl, trivial⟩ rfl)
          ·have h32 := aY c34 h32
           refine aM rfl rfl (aA rfl) rfl c34 (bH (aA rfl) rfl (i := 0) rfl cV (es := (aQ t_0)) rfl rfl) ?_
           refine aM rfl rfl (aA rfl) rfl c34 (bH (aA rfl) rfl (i := 1) rfl lU (es := (bC r12.1)) rfl rfl) ?_
           refine aM rfl rfl (aA rfl) rfl c34 (aD (v := .d (.lit (.int .i64 r17))) (aA rfl) rfl rfl) ?_
           obtain ⟨r35, h36, h32⟩ := bind_some h32
           refine aM rfl rfl (aA rfl) rfl c34 (cH (aA rfl) (.func _ _ Try.call60) rfl rfl (BVs.refl _ _) (mN _ _ _ h36) rfl) ?_
           refine aM rfl rfl (aA rfl) rfl c34 (aD (v := .d (.lit (.int .i64 r_0_22))) (aA rfl) rfl rfl) ?_
           refine aM rfl rfl (aA rfl) rfl c34 (bI (aA rfl) rfl rfl rfl) ?_
           refine tr1 rfl (bX (v := .d (.lit (.bool ((decide (r35 < r_0_22)))))) (aA rfl) rfl c34 rfl rfl) ?_
           have h32 := Option.some.inj h32
           subst h32
           refine aF (bE rfl ⟨rfl, trivial⟩ rfl)
         ·refine aF ?_
          refine bT rfl (fun c33 => ?_) (fun c33 => ?_)
          ·have h := aZ c33 h
           refine aE ?_
           refine aC ?_
           refine tr1 rfl (aJ (v := .d (.lit (.int .i64 0))) (aA rfl) rfl rfl) ?_
           refine tr1 rfl (aJ (v := .d (.lit (.int .i64 3))) (aA rfl) rfl rfl) ?_
           refine aF ?_
           have h := Option.some.inj h
           subst h
           refine cL (cG (cK (l := [8, 9]) ⟨rfl, rfl, trivial⟩)) ?_
           exact bM ⟨rfl, _, .two _ _, rfl, rfl⟩
          ·have h := aY c33 h
           refine bR ?_
           refine aE ?_
           refine aC ?_
           refine tr1 rfl (aD (v := .d (.lit (.int .i64 r_0_22))) (aA rfl) rfl rfl) ?_
           refine tr1 rfl (aJ (v := .d (.lit (.int .i64 r_0_22))) (aA rfl) rfl rfl) ?_
           refine tr1 rfl (aJ (v := .d (.lit (.int .i64 0))) (aA rfl) rfl rfl) ?_
           refine aF ?_
           have h := Option.some.inj h
           subst h
           refine cL (cG (cK (l := [8, 9]) ⟨rfl, rfl, trivial⟩)) ?_
           exact bM ⟨rfl, _, .two _ _, rfl, rfl⟩

theorem zF (a0 : aO) (a1 : List aG) (a2 : Int) (a3 : Int) {r : Int × Int} (h : pU a0 a1 a2 a3 = some r) : Fn Try.prog 20 [.agg (aQ a0), .d (.sl 5 (a1.map aL)), .d (.lit (.int .i64 a2)), .d (.lit (.int .i64 a3))] ((fun x : Int × Int => .tup [.d (.lit (.int .i64 x.1)), .d (.lit (.int .i64 x.2))]) r) := rM (enc := fun x : Int × Int => .tup [.d (.lit (.int .i64 x.1)), .d (.lit (.int .i64 x.2))]) (zE a0 a1 a2 a3 (wX a0 a1 a2 a3 h (fun x => x = r) rfl))

theorem aBm (a0 : aO) (a1 : List aG) (a2 : Int) (a3 : Int) {r : Int × Int} (h : rK a0 a1 a2 a3 = some r) : Fn Try.prog 36 [.agg (aQ a0), .d (.sl 5 (a1.map aL)), .d (.lit (.int .i64 a2)), .d (.lit (.int .i64 a3))] ((fun x : Int × Int => .tup [.d (.lit (.int .i64 x.1)), .d (.lit (.int .i64 x.2))]) r) := rM (enc := fun x : Int × Int => .tup [.d (.lit (.int .i64 x.1)), .d (.lit (.int .i64 x.2))]) (aBl a0 a1 a2 a3 (zD a0 a1 a2 a3 h (fun x => x = r) rfl))

theorem tE (t_0 : aO) (l_1 : List aG) (x_2 : lT) {r : Bool} (h : jV t_0 l_1 x_2 = some r) : Fn Try.prog 11 [.agg (aQ t_0), .d (.sl 5 (l_1.map aL)), .agg (oS x_2)] (.d (.lit (.bool r))) := by
 unfold jV at h
 refine Fn.of_tr Try.func11 rfl (rs := [.tmp 6]) Try.results11 Try.ntmps11 (Nat.le_of_ble_eq_true rfl) ?_
 refine aE ?_
 refine aC ?_
 refine bV rfl (eH (v := .agg (aQ t_0)) (aA rfl) rfl rfl rfl) ?_
 rintro _ ⟨b1, rfl⟩
 refine bV rfl (eH (v := .agg (oS x_2)) (aA rfl) rfl rfl rfl) ?_
 rintro _ ⟨b2, rfl⟩
 refine tr1 rfl (aJ (v := .d (.lit (.bool false))) (aA rfl) rfl rfl) ?_
 refine aF ?_
 refine aE ?_
 refine aE ?_
 refine aC ?_
 refine tr1 rfl (bH (aA rfl) rfl (i := 0) rfl cV (es := (aQ t_0)) rfl rfl) ?_
 refine tr1 rfl (aD (v := .d (.sl 5 (l_1.map aL))) (aA rfl) rfl rfl) ?_
 obtain ⟨r3, h4, h⟩ := bind_some h
 refine tr1 rfl (cH (aA rfl) (.func _ _ Try.call27) rfl rfl (BVs.refl _ _) (zK _ _ h4) rfl) ?_
 refine aF ?_
 refine bT rfl (fun c5 => ?_) (fun c5 => ?_)
 ·have h := aZ c5 h
  refine aE ?_
  refine aC ?_
  obtain ⟨r6, h7, h⟩ := bind_some h
  refine tr1 rfl (cH (aA rfl) (.func _ _ Try.call14) rfl rfl (BVs.refl _ _) (sB h7) rfl) ?_
  refine tr1 rfl (aJ (v := .d (.lit (.bool r6))) (aA rfl) rfl rfl) ?_
  refine aF ?_
  have h := Option.some.inj h
  subst h
  refine cL (cG (cK (l := [6]) ⟨rfl, trivial⟩)) ?_
  exact bM ⟨rfl, _, .one _, rfl, rfl⟩
 ·have h := aY c5 h
  refine bR ?_
  refine aE ?_
  refine aC ?_
  refine tr1 rfl (bH (aA rfl) rfl (i := 0) rfl cV (es := (aQ t_0)) rfl rfl) ?_
  obtain ⟨r8, h9, h⟩ := bind_some h
  refine tr1 rfl (eN (aA rfl) (.func _ _ Try.call28) rfl rfl (yN _ h9)) ?_
  refine tr1 rfl (aEn (aA rfl) gT rfl rfl (rows := (([] : List aG)).map aL) rfl (dG (f := aL) fun _ => rfl) rfl (by decide)) ?_
  refine tr1 rfl (aD (v := .d (.sl 5 (l_1.map aL))) (aA rfl) rfl rfl) ?_
  obtain ⟨x10, h11, h⟩ := bind_some h
  refine tr1 rfl (aJa (.d (.weak _ _)) (aCo (nn := true) (f := aL) (xs := ([] : List aG)) (ys := l_1) (aA rfl) gT rfl rfl (fun _ => rfl) h11 rfl)) ?_
  refine bV rfl (dJ (zs := [.lit (.int .i64 0), .sl 1 ((([] : List Int)).map aN)]) (aA rfl) Try.zeroValue24 rfl rfl) ?_
  rintro _ ⟨b12, rfl⟩
  refine tr1 rfl (cB (i := 2) rfl rfl rfl rfl rfl Try.sizeOf24 rfl (aA rfl) (Nat.le_of_ble_eq_true rfl) (ds' := (aQ r8)) rfl) ?_
  refine tr1 rfl (aJ (v := .d (.sl 5 (x10.map aL))) (aA rfl) rfl rfl) ?_
  refine aF ?_
  refine aE ?_
  refine aC ?_
  refine tr1 rfl (bH (aA rfl) rfl (i := 2) rfl cV (es := (aQ r8)) rfl rfl) ?_
  refine tr1 rfl (aD (v := .d (.sl 5 (x10.map aL))) (aA rfl) rfl rfl) ?_
  refine tr1 rfl (aV (aA rfl) rfl vJ) ?_
  refine tr1 rfl (aW (aA rfl) rfl (i := 1) rfl rfl bJ) ?_
  refine tr1 rfl (aV (aA rfl) rfl vK) ?_
  refine tr1 rfl (aW (aA rfl) rfl (i := 1) rfl rfl bJ) ?_
  obtain ⟨r13, h14, h⟩ := bind_some h
  refine tr1 rfl (cH (aA rfl) (.func _ _ Try.call20) rfl rfl (BVs.refl _ _) (zF _ _ _ _ h14) rfl) ?_
  refine tr1 rfl (aD (v := .tup [.d (.lit (.int .i64 r13.1)), .d (.lit (.int .i64 r13.2))]) (aA rfl) rfl rfl) ?_
  refine tr1 rfl (bL (aA rfl) rfl rfl) ?_
  refine tr1 rfl (bL (aA rfl) rfl rfl) ?_
  refine tr1 rfl (aJ (v := .d (.lit (.int .i64 r13.1))) (aA rfl) rfl rfl) ?_
  refine tr1 rfl (aJ (v := .d (.lit (.int .i64 r13.2))) (aA rfl) rfl rfl) ?_
  refine aF ?_
  refine aE ?_
  refine aC ?_
  refine tr1 rfl (bH (aA rfl) rfl (i := 0) rfl cV (es := (aQ t_0)) rfl rfl) ?_
  refine tr1 rfl (aD (v := .d (.sl 5 (l_1.map aL))) (aA rfl) rfl rfl) ?_
  refine tr1 rfl (aV (aA rfl) rfl vJ) ?_
  refine tr1 rfl (aW (aA rfl) rfl (i := 1) rfl rfl bJ) ?_
  refine tr1 rfl (aV (aA rfl) rfl vK) ?_
  refine tr1 rfl (aW (aA rfl) rfl (i := 1) rfl rfl bJ) ?_
  obtain ⟨r15, h16, h⟩ := bind_some h
  refine tr1 rfl (cH (aA rfl) (.func _ _ Try.call37) rfl rfl (BVs.refl _ _) (wP _ _ _ _ h16) rfl) ?_
  refine tr1 rfl (aD (v := .tup [.d (.lit (.int .i64 r15.1)), .d (.lit (.int .i64 r15.2))]) (aA rfl) rfl rfl) ?_
  refine tr1 rfl (bL (aA rfl) rfl rfl) ?_
  refine tr1 rfl (bL (aA rfl) rfl rfl) ?_
  refine tr1 rfl (aJ (v := .d (.lit (.int .i64 r15.1))) (aA rfl) rfl rfl) ?_
  refine tr1 rfl (aJ (v := .d (.lit (.int .i64 r15.2))) (aA rfl) rfl rfl) ?_
  refine aF ?_
  refine aE ?_
  refine aC ?_
  refine tr1 rfl (bH (aA rfl) rfl (i := 2) rfl cV (es := (aQ r8)) rfl rfl) ?_
  refine tr1 rfl (aD (v := .d (.sl 5 (x10.map aL))) (aA rfl) rfl rfl) ?_
  refine tr1 rfl (aV (aA rfl) rfl vJ) ?_
  refine tr1 rfl (aW (aA rfl) rfl (i := 1) rfl rfl bJ) ?_
  refine tr1 rfl (aV (aA rfl) rfl vK) ?_
  refine tr1 rfl (aW (aA rfl) rfl (i := 1) rfl rfl bJ) ?_
  obtain ⟨r17, h18, h⟩ := bind_some h
  refine tr1 rfl (eN (aA rfl) (.func _ _ Try.call15) rfl rfl (wK _ _ _ _ h18)) ?_
  refine tr1 rfl (aD (v := .tup [.d (.sl 1 (r17.1.map aN)), .d (.lit (.int .i64 r17.2))]) (aA rfl) rfl rfl) ?_
  refine tr1 rfl (bL (aA rfl) rfl rfl) ?_
  refine tr1 rfl (bL (aA rfl) rfl rfl) ?_
  refine tr1 rfl (aJ (v := .d (.sl 1 (r17.1.map aN))) (aA rfl) rfl rfl) ?_
  refine tr1 rfl (aJ (v := .d (.lit (.int .i64 r17.2))) (aA rfl) rfl rfl) ?_
  refine aF ?_
  refine aE ?_
  refine aC ?_
  refine tr1 rfl (bH (aA rfl) rfl (i := 0) rfl cV (es := (aQ t_0)) rfl rfl) ?_
  refine tr1 rfl (aD (v := .d (.sl 5 (l_1.map aL))) (aA rfl) rfl rfl) ?_
  refine tr1 rfl (aV (aA rfl) rfl vJ) ?_
  refine tr1 rfl (aW (aA rfl) rfl (i := 1) rfl rfl bJ) ?_
  refine tr1 rfl (aV (aA rfl) rfl vK) ?_
  refine tr1 rfl (aW (aA rfl) rfl (i := 1) rfl rfl bJ) ?_
  obtain ⟨r19, h20, h⟩ := bind_some h
  refine tr1 rfl (eN (aA rfl) (.func _ _ Try.call38) rfl rfl (zL _ _ _ _ h20)) ?_
  refine tr1 rfl (aD (v := .tup [.d (.sl 1 (r19.1.map aN)), .d (.lit (.int .i64 r19.2))]) (aA rfl) rfl rfl) ?_
  refine tr1 rfl (bL (aA rfl) rfl rfl) ?_
  refine tr1 rfl (bL (aA rfl) rfl rfl) ?_
  refine tr1 rfl (aJ (v := .d (.sl 1 (r19.1.map aN))) (aA rfl) rfl rfl) ?_
  refine tr1 rfl (aJ (v := .d (.lit (.int .i64 r19.2))) (aA rfl) rfl rfl) ?_
  refine aF ?_
  refine aE ?_
  refine aE ?_
  refine aC ?_
  refine tr1 rfl (aD (v := .d (.lit (.int .i64 r13.1))) (aA rfl) rfl rfl) ?_
  refine tr1 rfl (aD (v := .d (.lit (.int .i64 r15.1))) (aA rfl) rfl rfl) ?_
  refine tr1 rfl (bI (aA rfl) rfl rfl rfl) ?_
  refine tr1 rfl (aD (v := .d (.lit (.bool ((!decide (r13.1 = r15.1)))))) (aA rfl) rfl rfl) ?_
  obtain ⟨b21, h22, h⟩ := bind_some h
  refine cF 4 [1, 3, 5, 7, 8, 13, 14, 15, 16] 81 b21 ?_ ?_
  ·refine bN (!decide (r13.1 = r15.1)) (fun c56 => ?_) (fun c56 => ?_)
   ·have h22 := aZ c56 h22
    refine aP rfl rfl (aA rfl) rfl (aA rfl) rfl c56 ?_
    refine aP rfl rfl (aA rfl) rfl (aA rfl) rfl c56 ?_
    refine aP rfl rfl (aA rfl) rfl (aA rfl) rfl c56 ?_
    refine tr1 rfl (bW (v := .d (.lit (.bool true))) (aA rfl) rfl c56 rfl rfl) ?_
    have h22 := Option.some.inj h22
    subst h22
    refine aF (bE rfl ⟨rfl, rfl, rfl, rfl, rfl, rfl, rfl, rfl, rfl, trivial⟩ rfl)
   ·have h22 := aY c56 h22
    refine aM rfl rfl (aA rfl) rfl c56 (aD (v := .d (.lit (.int .i64 r13.2))) (aA rfl) rfl rfl) ?_
    refine aM rfl rfl (aA rfl) rfl c56 (aD (v := .d (.lit (.int .i64 r15.2))) (aA rfl) rfl rfl) ?_
    refine aM rfl rfl (aA rfl) rfl c56 (bI (aA rfl) rfl rfl rfl) ?_
    refine tr1 rfl (bX (v := .d (.lit (.bool ((!decide (r13.2 = r15.2)))))) (aA rfl) rfl c56 rfl rfl) ?_
    have h22 := Option.some.inj h22
    subst h22
    refine aF (bE rfl ⟨rfl, rfl, rfl, rfl, rfl, rfl, rfl, rfl, rfl, trivial⟩ rfl)
  ·refine tr1 rfl (aD (v := .d (.lit (.bool b21))) (aA rfl) rfl rfl) ?_
   obtain ⟨b23, h24, h⟩ := bind_some h
   refine cF 5 [1, 3, 5, 7, 8, 14, 16] 87 b23 ?_ ?_
   ·refine bN (b21) (fun c53 => ?_) (fun c53 => ?_)
    ·have h24 := aZ c53 h24
     refine aP rfl rfl (aA rfl) rfl (aA rfl) rfl c53 ?_
     refine aP rfl rfl (aA rfl) rfl (aA rfl) rfl c53 ?_
     refine aP rfl rfl (aA rfl) rfl (aA rfl) rfl c53 ?_
     refine aP rfl rfl (aA rfl) rfl (aA rfl) rfl c53 ?_
     refine tr1 rfl (bW (v := .d (.lit (.bool true))) (aA rfl) rfl c53 rfl rfl) ?_
     have h24 := Option.some.inj h24
     subst h24
     refine aF (bE rfl ⟨rfl, rfl, rfl, rfl, rfl, rfl, rfl, trivial⟩ rfl)
    ·have h24 := aY c53 h24
     refine aM rfl rfl (aA rfl) rfl c53 (aD (v := .d (.sl 1 (r17.1.map aN))) (aA rfl) rfl rfl) ?_
     refine aM rfl rfl (aA rfl) rfl c53 (aD (v := .d (.sl 1 (r19.1.map aN))) (aA rfl) rfl rfl) ?_
     obtain ⟨r54, h55, h24⟩ := bind_some h24
     refine aM rfl rfl (aA rfl) rfl c53 (cH (aA rfl) (.func _ _ Try.call23) rfl rfl (BVs.refl _ _) (qG _ _ h55) rfl) ?_
     refine aM rfl rfl (aA rfl) rfl c53 (fU (aA rfl) rfl) ?_
     refine tr1 rfl (bX (v := .d (.lit (.bool (!r54)))) (aA rfl) rfl c53 rfl rfl) ?_
     have h24 := Option.some.inj h24
     subst h24
     refine aF (bE rfl ⟨rfl, rfl, rfl, rfl, rfl, rfl, rfl, trivial⟩ rfl)
   ·refine tr1 rfl (aD (v := .d (.lit (.bool b23))) (aA rfl) rfl rfl) ?_
    obtain ⟨b25, h26, h⟩ := bind_some h
    refine cF 4 [1, 3, 5, 7, 8] 92 b25 ?_ ?_
    ·refine bN (b23) (fun c52 => ?_) (fun c52 => ?_)
     ·have h26 := aZ c52 h26
      refine aP rfl rfl (aA rfl) rfl (aA rfl) rfl c52 ?_
      refine aP rfl rfl (aA rfl) rfl (aA rfl) rfl c52 ?_
      refine aP rfl rfl (aA rfl) rfl (aA rfl) rfl c52 ?_
      refine tr1 rfl (bW (v := .d (.lit (.bool true))) (aA rfl) rfl c52 rfl rfl) ?_
      have h26 := Option.some.inj h26
      subst h26
      refine aF (bE rfl ⟨rfl, rfl, rfl, rfl, rfl, trivial⟩ rfl)
     ·have h26 := aY c52 h26
      refine aM rfl rfl (aA rfl) rfl c52 (aD (v := .d (.lit (.int .i64 r17.2))) (aA rfl) rfl rfl) ?_
      refine aM rfl rfl (aA rfl) rfl c52 (aD (v := .d (.lit (.int .i64 r19.2))) (aA rfl) rfl rfl) ?_
      refine aM rfl rfl (aA rfl) rfl c52 (bI (aA rfl) rfl rfl rfl) ?_
      refine tr1 rfl (bX (v := .d (.lit (.bool ((!decide (r17.2 = r19.2)))))) (aA rfl) rfl c52 rfl rfl) ?_
      have h26 := Option.some.inj h26
      subst h26
      refine aF (bE rfl ⟨rfl, rfl, rfl, rfl, rfl, trivial⟩ rfl)
    ·refine aF ?_
     refine bT rfl (fun c27 => ?_) (fun c27 => ?_)
     ·have h := aZ c27 h
      refine aE ?_
      refine aC ?_
      refine tr1 rfl (aJ (v := .d (.lit (.bool false))) (aA rfl) rfl rfl) ?_
      refine aF ?_
      have h := Option.some.inj h
      subst h
      refine cL (cG (cK (l := [6]) ⟨rfl, trivial⟩)) ?_
      exact bM ⟨rfl, _, .one _, rfl, rfl⟩
     ·have h := aY c27 h
      refine bR ?_
      refine aE ?_
      refine aC ?_
      refine tr1 rfl (bH (aA rfl) rfl (i := 2) rfl cV (es := (aQ r8)) rfl rfl) ?_
      refine tr1 rfl (aD (v := .d (.sl 5 (x10.map aL))) (aA rfl) rfl rfl) ?_
      refine tr1 rfl (aV (aA rfl) rfl vL) ?_
      refine tr1 rfl (aW (aA rfl) rfl (i := 1) rfl rfl bJ) ?_
      obtain ⟨r28, h29, h⟩ := bind_some h
      refine tr1 rfl (eN (aA rfl) (.func _ _ Try.call17) rfl rfl (sP _ _ _ h29)) ?_
      refine tr1 rfl (aD (v := .tup [.agg (cQ r28.1), .d (.lit (.int .i64 r28.2))]) (aA rfl) rfl rfl) ?_
      refine tr1 rfl (bL (aA rfl) rfl rfl) ?_
      refine tr1 rfl (bL (aA rfl) rfl rfl) ?_
      refine bV rfl (dJ (zs := [.lit (.int .i64 0), .lit (.int .i64 0)]) (aA rfl) Try.zeroValue39 rfl rfl) ?_
      rintro _ ⟨b30, rfl⟩
      refine tr1 rfl (cB (i := 3) rfl rfl rfl rfl rfl Try.sizeOf39 rfl (aA rfl) (Nat.le_of_ble_eq_true rfl) (ds' := (cQ r28.1)) rfl) ?_
      refine tr1 rfl (aJ (v := .d (.lit (.int .i64 r28.2))) (aA rfl) rfl rfl) ?_
      refine aF ?_
      refine aE ?_
      refine aC ?_
      refine tr1 rfl (bH (aA rfl) rfl (i := 0) rfl cV (es := (aQ t_0)) rfl rfl) ?_
      refine tr1 rfl (aD (v := .d (.sl 5 (l_1.map aL))) (aA rfl) rfl rfl) ?_
      refine tr1 rfl (aV (aA rfl) rfl vL) ?_
      refine tr1 rfl (aW (aA rfl) rfl (i := 1) rfl rfl bJ) ?_
      obtain ⟨r31, h32, h⟩ := bind_some h
      refine tr1 rfl (eN (aA rfl) (.func _ _ Try.call39) rfl rfl (vI _ _ _ h32)) ?_
      refine tr1 rfl (aD (v := .tup [.agg (cQ r31.1), .d (.lit (.int .i64 r31.2))]) (aA rfl) rfl rfl) ?_
      refine tr1 rfl (bL (aA rfl) rfl rfl) ?_
      refine tr1 rfl (bL (aA rfl) rfl rfl) ?_
      refine bV rfl (dJ (zs := [.lit (.int .i64 0), .lit (.int .i64 0)]) (aA rfl) Try.zeroValue39 rfl rfl) ?_
      rintro _ ⟨b33, rfl⟩
      refine tr1 rfl (cB (i := 4) rfl rfl rfl rfl rfl Try.sizeOf39 rfl (aA rfl) (Nat.le_of_ble_eq_true rfl) (ds' := (cQ r31.1)) rfl) ?_
      refine tr1 rfl (aJ (v := .d (.lit (.int .i64 r31.2))) (aA rfl) rfl rfl) ?_
      refine aF ?_
      refine aE ?_
      refine aC ?_
      refine tr1 rfl (bH (aA rfl) rfl (i := 2) rfl cV (es := (aQ r8)) rfl rfl) ?_
      refine tr1 rfl (aD (v := .d (.sl 5 (x10.map aL))) (aA rfl) rfl rfl) ?_
      refine tr1 rfl (aV (aA rfl) rfl vL) ?_
      refine tr1 rfl (aW (aA rfl) rfl (i := 1) rfl rfl bJ) ?_
      refine tr1 rfl (aV (aA rfl) rfl aDt) ?_
      refine tr1 rfl (aW (aA rfl) rfl (i := 1) rfl rfl bJ) ?_
      obtain ⟨r34, h35, h⟩ := bind_some h
      refine tr1 rfl (cH (aA rfl) (.func _ _ Try.call36) rfl rfl (BVs.refl _ _) (aBm _ _ _ _ h35) rfl) ?_
      refine tr1 rfl (aD (v := .tup [.d (.lit (.int .i64 r34.1)), .d (.lit (.int .i64 r34.2))]) (aA rfl) rfl rfl) ?_
      refine tr1 rfl (bL (aA rfl) rfl rfl) ?_
      refine tr1 rfl (bL (aA rfl) rfl rfl) ?_
      refine tr1 rfl (aJ (v := .d (.lit (.int .i64 r34.1))) (aA rfl) rfl rfl) ?_
      refine tr1 rfl (aJ (v := .d (.lit (.int .i64 r34.2))) (aA rfl) rfl rfl) ?_
      refine aF ?_
      refine aE ?_
      refine aC ?_
      refine tr1 rfl (bH (aA rfl) rfl (i := 0) rfl cV (es := (aQ t_0)) rfl rfl) ?_
      refine tr1 rfl (aD (v := .d (.sl 5 (l_1.map aL))) (aA rfl) rfl rfl) ?_
      refine tr1 rfl (aV (aA rfl) rfl vL) ?_
      refine tr1 rfl (aW (aA rfl) rfl (i := 1) rfl rfl bJ) ?_
      refine tr1 rfl (aV (aA rfl) rfl aDt) ?_
      refine tr1 rfl (aW (aA rfl) rfl (i := 1) rfl rfl bJ) ?_
      obtain ⟨r36, h37, h⟩ := bind_some h
      refine tr1 rfl (cH (aA rfl) (.func _ _ Try.call40) rfl rfl (BVs.refl _ _) (yO _ _ _ _ h37) rfl) ?_
      refine tr1 rfl (aD (v := .tup [.d (.lit (.int .i64 r36.1)), .d (.lit (.int .i64 r36.2))]) (aA rfl) rfl rfl) ?_
      refine tr1 rfl (bL (aA rfl) rfl rfl) ?_
      refine tr1 rfl (bL (aA rfl) rfl rfl) ?_
      refine tr1 rfl (aJ (v := .d (.lit (.int .i64 r36.1))) (aA rfl) rfl rfl) ?_
      refine tr1 rfl (aJ (v := .d (.lit (.int .i64 r36.2))) (aA rfl) rfl rfl) ?_
      refine aF ?_
      refine aE ?_
      refine aC ?_
      refine tr1 rfl (bH (aA rfl) rfl (i := 3) rfl pJ (es := (cQ r28.1)) rfl rfl) ?_
      refine tr1 rfl (bH (aA rfl) rfl (i := 4) rfl pJ (es := (cQ r31.1)) rfl rfl) ?_
      refine tr1 rfl (uE (a := r28.1) (b := r31.1) (aA rfl) rfl rfl rfl rfl Try.eqGuardType39 aIg) ?_
      refine tr1 rfl (aD (v := .d (.lit (.bool ((decide (r28.1 = r31.1)))))) (aA rfl) rfl rfl) ?_
      obtain ⟨b38, h39, h⟩ := bind_some h
      refine cF 4 [21, 22, 23, 24] 136 b38 ?_ ?_
      ·refine bN (decide (r28.1 = r31.1)) (fun c51 => ?_) (fun c51 => ?_)
       ·have h39 := aZ c51 h39
        refine aM rfl rfl (aA rfl) rfl c51 (aD (v := .d (.lit (.int .i64 r28.2))) (aA rfl) rfl rfl) ?_
        refine aM rfl rfl (aA rfl) rfl c51 (aD (v := .d (.lit (.int .i64 r31.2))) (aA rfl) rfl rfl) ?_
        refine aM rfl rfl (aA rfl) rfl c51 (bI (aA rfl) rfl rfl rfl) ?_
        refine tr1 rfl (bW (v := .d (.lit (.bool ((decide (r28.2 = r31.2)))))) (aA rfl) rfl c51 rfl rfl) ?_
        have h39 := Option.some.inj h39
        subst h39
        refine aF (bE rfl ⟨rfl, rfl, rfl, rfl, trivial⟩ rfl)
       ·have h39 := aY c51 h39
        refine aP rfl rfl (aA rfl) rfl (aA rfl) rfl c51 ?_
        refine aP rfl rfl (aA rfl) rfl (aA rfl) rfl c51 ?_
        refine aP rfl rfl (aA rfl) rfl (aA rfl) rfl c51 ?_
        refine tr1 rfl (bX (v := .d (.lit (.bool false))) (aA rfl) rfl c51 rfl rfl) ?_
        have h39 := Option.some.inj h39
        subst h39
        refine aF (bE rfl ⟨rfl, rfl, rfl, rfl, trivial⟩ rfl)
      ·refine tr1 rfl (aD (v := .d (.lit (.bool b38))) (aA rfl) rfl rfl) ?_
       obtain ⟨b40, h41, h⟩ := bind_some h
       refine cF 4 [22, 24] 141 b40 ?_ ?_
       ·refine bN (b38) (fun c50 => ?_) (fun c50 => ?_)
        ·have h41 := aZ c50 h41
         refine aM rfl rfl (aA rfl) rfl c50 (aD (v := .d (.lit (.int .i64 r34.1))) (aA rfl) rfl rfl) ?_
         refine aM rfl rfl (aA rfl) rfl c50 (aD (v := .d (.lit (.int .i64 r36.1))) (aA rfl) rfl rfl) ?_
         refine aM rfl rfl (aA rfl) rfl c50 (bI (aA rfl) rfl rfl rfl) ?_
         refine tr1 rfl (bW (v := .d (.lit (.bool ((decide (r34.1 = r36.1)))))) (aA rfl) rfl c50 rfl rfl) ?_
         have h41 := Option.some.inj h41
         subst h41
         refine aF (bE rfl ⟨rfl, rfl, trivial⟩ rfl)
        ·have h41 := aY c50 h41
         refine aP rfl rfl (aA rfl) rfl (aA rfl) rfl c50 ?_
         refine aP rfl rfl (aA rfl) rfl (aA rfl) rfl c50 ?_
         refine aP rfl rfl (aA rfl) rfl (aA rfl) rfl c50 ?_
         refine tr1 rfl (bX (v := .d (.lit (.bool false))) (aA rfl) rfl c50 rfl rfl) ?_
         have h41 := Option.some.inj h41
         subst h41
         refine aF (bE rfl ⟨rfl, rfl, trivial⟩ rfl)
       ·refine tr1 rfl (aD (v := .d (.lit (.bool b40))) (aA rfl) rfl rfl) ?_
        obtain ⟨b42, h43, h⟩ := bind_some h
        refine cF 4 [] 146 b42 ?_ ?_
        ·refine bN (b40) (fun c49 => ?_) (fun c49 => ?_)
         ·have h43 := aZ c49 h43
          refine aM rfl rfl (aA rfl) rfl c49 (aD (v := .d (.lit (.int .i64 r34.2))) (aA rfl) rfl rfl) ?_
          refine aM rfl rfl (aA rfl) rfl c49 (aD (v := .d (.lit (.int .i64 r36.2))) (aA rfl) rfl rfl) ?_
          refine aM rfl rfl (aA rfl) rfl c49 (bI (aA rfl) rfl rfl rfl) ?_
          refine tr1 rfl (bW (v := .d (.lit (.bool ((decide (r34.2 = r36.2)))))) (aA rfl) rfl c49 rfl rfl) ?_
          have h43 := Option.some.inj h43
          subst h43
          refine aF (bE rfl trivial rfl)
         ·have h43 := aY c49 h43
          refine aP rfl rfl (aA rfl) rfl (aA rfl) rfl c49 ?_
          refine aP rfl rfl (aA rfl) rfl (aA rfl) rfl c49 ?_
          refine aP rfl rfl (aA rfl) rfl (aA rfl) rfl c49 ?_
          refine tr1 rfl (bX (v := .d (.lit (.bool false))) (aA rfl) rfl c49 rfl rfl) ?_
          have h43 := Option.some.inj h43
          subst h43
          refine aF (bE rfl trivial rfl)
        ·refine tr1 rfl (aD (v := .d (.lit (.bool b42))) (aA rfl) rfl rfl) ?_
         obtain ⟨b44, h45, h⟩ := bind_some h
         refine cF 2 [] 149 b44 ?_ ?_
         ·refine bN (b42) (fun c46 => ?_) (fun c46 => ?_)
          ·have h45 := aZ c46 h45
           obtain ⟨r47, h48, h45⟩ := bind_some h45
           refine aM rfl rfl (aA rfl) rfl c46 (cH (aA rfl) (.func _ _ Try.call14) rfl rfl (BVs.refl _ _) (sB h48) rfl) ?_
           refine tr1 rfl (bW (v := .d (.lit (.bool r47))) (aA rfl) rfl c46 rfl rfl) ?_
           have h45 := Option.some.inj h45
           subst h45
           refine aF (bE rfl trivial rfl)
          ·have h45 := aY c46 h45
           refine aP rfl rfl (aA rfl) rfl (aA rfl) rfl c46 ?_
           refine tr1 rfl (bX (v := .d (.lit (.bool false))) (aA rfl) rfl c46 rfl rfl) ?_
           have h45 := Option.some.inj h45
           subst h45
           refine aF (bE rfl trivial rfl)
         ·refine tr1 rfl (aJ (v := .d (.lit (.bool b44))) (aA rfl) rfl rfl) ?_
          refine aF ?_
          have h := Option.some.inj h
          subst h
          refine cL (cG (cK (l := [6]) ⟨rfl, trivial⟩)) ?_
          exact bM ⟨rfl, _, .one _, rfl, rfl⟩

end Go.Am
