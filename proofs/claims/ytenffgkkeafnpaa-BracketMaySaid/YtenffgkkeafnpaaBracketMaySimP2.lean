/- The functions compute what the shallow ones say: printed by program. -/
import Derived.Test.YtenffgkkeafnpaaBracketMaySimP1
namespace Go.Am
open Go.Proofs
set_option maxRecDepth 100000
set_option maxHeartbeats 4000000

theorem uL (t_0 : aO) (l_1 : List aD) {r : (List Int) × Bool} (h : jP t_0 l_1 = some r) : Fn Try.prog 18 [.agg (aR t_0), .d (.sl 5 (l_1.map aK))] (.tup [.d (.sl 1 (r.1.map aP)), .d (.lit (.bool r.2))]) := by
 unfold jP at h
 refine Fn.of_tr Try.func18 rfl (rs := [.tmp 4, .tmp 5]) Try.results18 Try.ntmps18 (Nat.le_of_ble_eq_true rfl) ?_
 refine aG ?_
 refine aC ?_
 refine bZ rfl (gF (v := .agg (aR t_0)) (aA rfl) rfl rfl rfl) ?_
 rintro _ ⟨b1, rfl⟩
 refine tr1 rfl (tF 1 (aA rfl)) ?_
 refine tr1 rfl (aM (v := .d (.lit (.bool false))) (aA rfl) rfl rfl) ?_
 refine aF ?_
 refine aG ?_
 refine aC ?_
 refine tr1 rfl (aE (v := .d (.sl 5 (l_1.map aK))) (aA rfl) rfl rfl) ?_
 obtain ⟨r2, h3, h⟩ := bind_some h
 refine tr1 rfl (iT (aA rfl) (.func _ _ Try.call51) rfl rfl (rQ _ h3)) ?_
 refine tr1 rfl (aM (v := .d (.sl 5 (r2.map aK))) (aA rfl) rfl rfl) ?_
 refine aF ?_
 refine aG ?_
 refine aC ?_
 refine bZ rfl (wN (aA rfl) bW rfl rfl (rows := (([] : List Int)).map aP) rfl (dM (f := aP) fun _ => rfl) rfl (by decide)) ?_
 rintro _ ⟨v4, rfl⟩
 refine tr1 rfl (aU (aA rfl) rfl dK) ?_
 refine tr1 rfl (aW (aA rfl) rfl (i := 0) rfl rfl dC) ?_
 obtain ⟨x5, h6, h⟩ := bind_some h
 refine bZ rfl (fM (i := 1) (aA rfl) bW rfl rfl rfl (fun _ => rfl) h6 rfl) ?_
 rintro _ ⟨v7, rfl⟩
 refine tr1 rfl (aM (v := .d (.lit v7)) (aA rfl) rfl rfl) ?_
 refine aF ?_
 refine aG ?_
 refine aC ?_
 refine tr1 rfl (kN 3 1 (.inl rfl) (aA rfl)) ?_
 refine aF ?_
 refine aG ?_
 refine aC ?_
 refine tr1 rfl (aM (v := .d (.lit (.int .i64 0))) (aA rfl) rfl rfl) ?_
 refine aF ?_
 refine aG ?_
 refine aG ?_
 refine aC ?_
 refine tr1 rfl (aM (v := .d (.lit (.int .i64 0))) (aA rfl) rfl rfl) ?_
 refine aF ?_
 refine cF ?_
 refine dP [2, 6] (fun (s9 : Int × Int × (List Int) × (List Int) × Value × Value) => [(7, .d (.lit s9.2.2.2.2.2)), (8, .d (.lit s9.2.2.2.2.1)), (9, .d (.lit (.int .i64 s9.1))), (10, .d (.lit (.int .i64 s9.2.1)))]) (fun (s9 : Int × Int × (List Int) × (List Int) × Value × Value) => [.box b1 0 (aR t_0), .arr s9.2.2.2.2.1 3 1 (s9.2.2.1.map aP), .arr s9.2.2.2.2.2 3 1 (s9.2.2.2.1.map aP)]) (fun (k : Nat) (s9 : Int × Int × (List Int) × (List Int) × Value × Value) => dI r2 t_0 k s9.1 s9.2.1 s9.2.2.1 s9.2.2.2.1) (fun _ => rfl) (0, 0, ([] : List Int), x5, (.slice none 0 0), v7) h (bD [0, 2, 1] rfl rfl (aV rfl (aV rfl (aV rfl (aV rfl (bC ⟨rfl, rfl, trivial⟩)))))) ?_
 rintro k12 ⟨used_0_9, i_0_9, out_0_9, o18_0_9, w10, w11⟩ h
 simp only [dI] at h
 refine aG ?_
 refine aG ?_
 refine aC ?_
 refine tr1 rfl (aE (v := .d (.lit (.int .i64 i_0_9))) (aA rfl) rfl rfl) ?_
 refine tr1 rfl (aU (aA rfl) rfl dK) ?_
 refine tr1 rfl (aW (aA rfl) rfl (i := 0) rfl rfl dC) ?_
 refine tr1 rfl (dX (aA rfl) rfl bW.of) ?_
 refine tr1 rfl (bJ (aA rfl) rfl rfl rfl) ?_
 refine aF ?_
 refine bU rfl (fun c13 => ?_) (fun c13 => ?_)
 ·have h := bA c13 h
  refine bT ?_
  refine aG ?_
  refine cF ?_
  refine aG ?_
  refine aC ?_
  refine tr1 rfl (aU (aA rfl) rfl dK) ?_
  refine tr1 rfl (aW (aA rfl) rfl (i := 0) rfl rfl dC) ?_
  refine tr1 rfl (aE (v := .d (.lit (.int .i64 i_0_9))) (aA rfl) rfl rfl) ?_
  obtain ⟨x14, h15, h⟩ := bind_some h
  refine tr1 rfl (bP (aA rfl) rfl rfl bW.of (cA aP h15)) ?_
  refine tr1 rfl (bO (aA rfl) rfl bH) ?_
  refine tr1 rfl (aM (v := .d (.lit (.int .i64 x14))) (aA rfl) rfl rfl) ?_
  refine aF ?_
  refine aG ?_
  refine aG ?_
  refine aC ?_
  refine tr1 rfl (aM (v := .d (.lit (.bool true))) (aA rfl) rfl rfl) ?_
  refine aF ?_
  refine cF ?_
  refine dP [2, 6, 8, 10] (fun (s16 : Int × Int × Bool × (List Int) × Value) => [(7, .d (.lit s16.2.2.2.2)), (9, .d (.lit (.int .i64 s16.1))), (11, .d (.lit (.int .i64 s16.2.1))), (12, .d (.lit (.bool s16.2.2.1)))]) (fun (s16 : Int × Int × Bool × (List Int) × Value) => [.box b1 0 (aR t_0), .arr w10 3 1 (out_0_9.map aP), .arr s16.2.2.2.2 3 1 (s16.2.2.2.1.map aP)]) (fun (k : Nat) (s16 : Int × Int × Bool × (List Int) × Value) => eM (dI r2 t_0 k12) r2 i_0_9 t_0 out_0_9 k s16.1 s16.2.1 s16.2.2.1 s16.2.2.2.1) (fun _ => rfl) (used_0_9, x14, true, o18_0_9, w11) h (bD [0, 1, 2] rfl rfl (aV rfl (aV rfl (aV rfl (aV rfl (bC ⟨rfl, rfl, rfl, rfl, trivial⟩)))))) ?_
  rintro k18 ⟨used_2_16, now_2_16, again_2_16, o18_2_16, w17⟩ h
  simp only [eM] at h
  refine aG ?_
  refine aG ?_
  refine aC ?_
  refine tr1 rfl (aE (v := .d (.lit (.bool again_2_16))) (aA rfl) rfl rfl) ?_
  refine aF ?_
  refine bU rfl (fun c19 => ?_) (fun c19 => ?_)
  ·have h := bA c19 h
   refine bT ?_
   refine cF ?_
   refine aG ?_
   refine aC ?_
   refine tr1 rfl (aM (v := .d (.lit (.bool false))) (aA rfl) rfl rfl) ?_
   refine aF ?_
   refine aG ?_
   refine aC ?_
   refine tr1 rfl (kN 3 1 (.inl rfl) (aA rfl)) ?_
   refine aF ?_
   refine aG ?_
   refine aG ?_
   refine aC ?_
   refine tr1 rfl (aM (v := .d (.lit (.int .i64 0))) (aA rfl) rfl rfl) ?_
   refine aF ?_
   refine cF ?_
   refine dP [2, 6, 7, 8, 9, 10, 11, 12] (fun (s21 : Int × (List Int) × Value) => [(13, .d (.lit s21.2.2)), (14, .d (.lit (.int .i64 s21.1)))]) (fun (s21 : Int × (List Int) × Value) => [.box b1 0 (aR t_0), .arr w10 3 1 (out_0_9.map aP), .arr s21.2.2 3 1 (s21.2.1.map aP), .arr w17 3 1 (o18_2_16.map aP)]) (fun (k : Nat) (s21 : Int × (List Int) × Value) => dV (dI r2 t_0 k12) (eM (dI r2 t_0 k12) r2 i_0_9 t_0 out_0_9 k18) r2 used_2_16 i_0_9 now_2_16 false t_0 out_0_9 o18_2_16 k s21.1 s21.2.1) (fun _ => rfl) (0, ([] : List Int), (.slice none 0 0)) h (bD [0, 1, 3, 2] rfl rfl (aV rfl (aV rfl (bC ⟨rfl, rfl, rfl, rfl, rfl, rfl, rfl, rfl, trivial⟩)))) ?_
   rintro k23 ⟨k_4_21, nextv_4_21, w22⟩ h
   simp only [dV] at h
   refine aG ?_
   refine aG ?_
   refine aC ?_
   refine tr1 rfl (aE (v := .d (.lit (.int .i64 k_4_21))) (aA rfl) rfl rfl) ?_
   refine tr1 rfl (aE (v := .d (.sl 5 (r2.map aK))) (aA rfl) rfl rfl) ?_
   refine tr1 rfl (dX (aA rfl) rfl eA.of) ?_
   refine tr1 rfl (bJ (aA rfl) rfl rfl rfl) ?_
   refine aF ?_
   refine bU rfl (fun c24 => ?_) (fun c24 => ?_)
   ·have h := bA c24 h
    refine bT ?_
    refine aG ?_
    refine cF ?_
    refine aG ?_
    refine aC ?_
    refine tr1 rfl (aE (v := .d (.sl 5 (r2.map aK))) (aA rfl) rfl rfl) ?_
    refine tr1 rfl (aE (v := .d (.lit (.int .i64 k_4_21))) (aA rfl) rfl rfl) ?_
    obtain ⟨x25, h26, h⟩ := bind_some h
    refine tr1 rfl (bP (aA rfl) rfl rfl eA.of (cA aK h26)) ?_
    refine tr1 rfl (cN (aA rfl) rfl kE (es := [.lit (.int .i64 x25.Kind)]) rfl) ?_
    refine tr1 rfl (bO (aA rfl) rfl bH) ?_
    refine tr1 rfl (bJ (aA rfl) rfl rfl rfl) ?_
    refine tr1 rfl (aE (v := .d (.lit (.bool ((decide (x25.Kind = 5)))))) (aA rfl) rfl rfl) ?_
    obtain ⟨b27, h28, h⟩ := bind_some h
    refine cC 8 [2, 6, 7, 8, 9, 10, 11, 12, 13, 14] 55 b27 ?_ ?_
    ·refine bG (decide (x25.Kind = 5)) (fun c40 => ?_) (fun c40 => ?_)
     ·have h28 := bA c40 h28
      refine aL rfl rfl (aA rfl) rfl c40 (aE (v := .d (.sl 5 (r2.map aK))) (aA rfl) rfl rfl) ?_
      refine aL rfl rfl (aA rfl) rfl c40 (aE (v := .d (.lit (.int .i64 k_4_21))) (aA rfl) rfl rfl) ?_
      obtain ⟨x41, h42, h28⟩ := bind_some h28
      refine aL rfl rfl (aA rfl) rfl c40 (bP (aA rfl) rfl rfl eA.of (cA aK h42)) ?_
      refine aL rfl rfl (aA rfl) rfl c40 (cN (aA rfl) rfl gS (es := [.lit (.int .i64 x41.Place)]) rfl) ?_
      refine aL rfl rfl (aA rfl) rfl c40 (bO (aA rfl) rfl bH) ?_
      refine aL rfl rfl (aA rfl) rfl c40 (aE (v := .d (.lit (.int .i64 i_0_9))) (aA rfl) rfl rfl) ?_
      refine aL rfl rfl (aA rfl) rfl c40 (bJ (aA rfl) rfl rfl rfl) ?_
      refine tr1 rfl (bM (v := .d (.lit (.bool ((decide (x41.Place = i_0_9)))))) (aA rfl) rfl c40 rfl rfl) ?_
      have h28 := Option.some.inj h28
      subst h28
      refine aF (bB rfl ⟨rfl, rfl, rfl, rfl, rfl, rfl, rfl, rfl, rfl, rfl, trivial⟩ rfl)
     ·have h28 := aZ c40 h28
      refine aN rfl rfl (aA rfl) rfl (aA rfl) rfl c40 ?_
      refine aN rfl rfl (aA rfl) rfl (aA rfl) rfl c40 ?_
      refine aN rfl rfl (aA rfl) rfl (aA rfl) rfl c40 ?_
      refine aN rfl rfl (aA rfl) rfl (aA rfl) rfl c40 ?_
      refine aN rfl rfl (aA rfl) rfl (aA rfl) rfl c40 ?_
      refine aN rfl rfl (aA rfl) rfl (aA rfl) rfl c40 ?_
      refine aN rfl rfl (aA rfl) rfl (aA rfl) rfl c40 ?_
      refine tr1 rfl (bL (v := .d (.lit (.bool false))) (aA rfl) rfl c40 rfl rfl) ?_
      have h28 := Option.some.inj h28
      subst h28
      refine aF (bB rfl ⟨rfl, rfl, rfl, rfl, rfl, rfl, rfl, rfl, rfl, rfl, trivial⟩ rfl)
    ·refine tr1 rfl (aE (v := .d (.lit (.bool b27))) (aA rfl) rfl rfl) ?_
     obtain ⟨b29, h30, h⟩ := bind_some h
     refine cC 8 [2, 6, 7, 8, 9, 10, 11, 12, 13, 14] 64 b29 ?_ ?_
     ·refine bG (b27) (fun c37 => ?_) (fun c37 => ?_)
      ·have h30 := bA c37 h30
       refine aL rfl rfl (aA rfl) rfl c37 (aE (v := .d (.sl 5 (r2.map aK))) (aA rfl) rfl rfl) ?_
       refine aL rfl rfl (aA rfl) rfl c37 (aE (v := .d (.lit (.int .i64 k_4_21))) (aA rfl) rfl rfl) ?_
       obtain ⟨x38, h39, h30⟩ := bind_some h30
       refine aL rfl rfl (aA rfl) rfl c37 (bP (aA rfl) rfl rfl eA.of (cA aK h39)) ?_
       refine aL rfl rfl (aA rfl) rfl c37 (cN (aA rfl) rfl qJ (es := [.lit (.int .i64 x38.Old)]) rfl) ?_
       refine aL rfl rfl (aA rfl) rfl c37 (bO (aA rfl) rfl bH) ?_
       refine aL rfl rfl (aA rfl) rfl c37 (aE (v := .d (.lit (.int .i64 now_2_16))) (aA rfl) rfl rfl) ?_
       refine aL rfl rfl (aA rfl) rfl c37 (bJ (aA rfl) rfl rfl rfl) ?_
       refine tr1 rfl (bM (v := .d (.lit (.bool ((decide (x38.Old = now_2_16)))))) (aA rfl) rfl c37 rfl rfl) ?_
       have h30 := Option.some.inj h30
       subst h30
       refine aF (bB rfl ⟨rfl, rfl, rfl, rfl, rfl, rfl, rfl, rfl, rfl, rfl, trivial⟩ rfl)
      ·have h30 := aZ c37 h30
       refine aN rfl rfl (aA rfl) rfl (aA rfl) rfl c37 ?_
       refine aN rfl rfl (aA rfl) rfl (aA rfl) rfl c37 ?_
       refine aN rfl rfl (aA rfl) rfl (aA rfl) rfl c37 ?_
       refine aN rfl rfl (aA rfl) rfl (aA rfl) rfl c37 ?_
       refine aN rfl rfl (aA rfl) rfl (aA rfl) rfl c37 ?_
       refine aN rfl rfl (aA rfl) rfl (aA rfl) rfl c37 ?_
       refine aN rfl rfl (aA rfl) rfl (aA rfl) rfl c37 ?_
       refine tr1 rfl (bL (v := .d (.lit (.bool false))) (aA rfl) rfl c37 rfl rfl) ?_
       have h30 := Option.some.inj h30
       subst h30
       refine aF (bB rfl ⟨rfl, rfl, rfl, rfl, rfl, rfl, rfl, rfl, rfl, rfl, trivial⟩ rfl)
     ·refine aF ?_
      refine bU rfl (fun c31 => ?_) (fun c31 => ?_)
      ·have h := bA c31 h
       refine aC ?_
       refine tr1 rfl (aE (v := .d (.lit w22)) (aA rfl) rfl rfl) ?_
       refine tr1 rfl (aE (v := .d (.sl 5 (r2.map aK))) (aA rfl) rfl rfl) ?_
       refine tr1 rfl (aE (v := .d (.lit (.int .i64 k_4_21))) (aA rfl) rfl rfl) ?_
       obtain ⟨x32, h33, h⟩ := bind_some h
       refine tr1 rfl (bP (aA rfl) rfl rfl eA.of (cA aK h33)) ?_
       refine tr1 rfl (cN (aA rfl) rfl lJ (es := [.lit (.int .i64 x32.Player)]) rfl) ?_
       refine tr1 rfl (bO (aA rfl) rfl bH) ?_
       refine tr1 rfl (fZ (aA rfl) bW rfl rfl (rows := ([x32.Player]).map aP) rfl (dM (f := aP) fun _ => rfl) rfl (by decide)) ?_
       obtain ⟨x34, h35, h⟩ := bind_some h
       refine bZ rfl (fM (i := 2) (aA rfl) bW rfl rfl rfl (fun _ => rfl) h35 rfl) ?_
       rintro _ ⟨v36, rfl⟩
       refine tr1 rfl (aM (v := .d (.lit v36)) (aA rfl) rfl rfl) ?_
       refine gJ ?_
       refine aC ?_
       refine tr1 rfl (aE (v := .d (.lit (.int .i64 k_4_21))) (aA rfl) rfl rfl) ?_
       refine tr1 rfl (bK (aA rfl) rfl rfl rfl) ?_
       refine tr1 rfl (aM (v := .d (.lit (.int .i64 ((w64 (k_4_21 + 1)))))) (aA rfl) rfl rfl) ?_
       refine aF ?_
       exact ⟨(w64 (k_4_21 + 1), x34, v36), h, bD [0, 1, 2, 3] rfl rfl (aV rfl (aV rfl (bC ⟨rfl, rfl, rfl, rfl, rfl, rfl, rfl, rfl, trivial⟩)))⟩
      ·have h := aZ c31 h
       refine eH ?_
       refine aC ?_
       refine tr1 rfl (aE (v := .d (.lit (.int .i64 k_4_21))) (aA rfl) rfl rfl) ?_
       refine tr1 rfl (bK (aA rfl) rfl rfl rfl) ?_
       refine tr1 rfl (aM (v := .d (.lit (.int .i64 ((w64 (k_4_21 + 1)))))) (aA rfl) rfl rfl) ?_
       refine aF ?_
       exact ⟨(w64 (k_4_21 + 1), nextv_4_21, w22), h, bD [0, 1, 2, 3] rfl rfl (aV rfl (aV rfl (bC ⟨rfl, rfl, rfl, rfl, rfl, rfl, rfl, rfl, trivial⟩)))⟩
   ·have h := aZ c24 h
    refine dE ?_
    refine .inl ⟨rfl, ?_⟩
    simp only [iC] at h
    refine aG ?_
    refine aG ?_
    refine aC ?_
    refine tr1 rfl (aE (v := .d (.lit w22)) (aA rfl) rfl rfl) ?_
    refine tr1 rfl (oA (m := 2) (aA rfl) rfl rfl bW.of) ?_
    refine tr1 rfl (bJ (aA rfl) rfl rfl rfl) ?_
    refine tr1 rfl (aE (v := .d (.lit (.bool ((decide (1 < (nextv_4_21.length : Int))))))) (aA rfl) rfl rfl) ?_
    obtain ⟨b43, h44, h⟩ := bind_some h
    refine cC 11 [2, 6, 7, 8, 9, 10, 11, 12, 13] 87 b43 ?_ ?_
    ·refine bG (decide (1 < (nextv_4_21.length : Int))) (fun c52 => ?_) (fun c52 => ?_)
     ·have h44 := bA c52 h44
      refine aN rfl rfl (aA rfl) rfl (aA rfl) rfl c52 ?_
      refine aN rfl rfl (aA rfl) rfl (aA rfl) rfl c52 ?_
      refine aN rfl rfl (aA rfl) rfl (aA rfl) rfl c52 ?_
      refine aN rfl rfl (aA rfl) rfl (aA rfl) rfl c52 ?_
      refine cE rfl rfl (aA rfl) rfl (aA rfl) rfl ?_
      refine cE rfl rfl (aA rfl) rfl (aA rfl) rfl ?_
      refine cE rfl rfl (aA rfl) rfl (aA rfl) rfl ?_
      refine cE rfl rfl (aA rfl) rfl (aA rfl) rfl ?_
      refine cE rfl rfl (aA rfl) rfl (aA rfl) rfl ?_
      refine aN rfl rfl (aA rfl) rfl (aA rfl) rfl c52 ?_
      refine tr1 rfl (bM (v := .d (.lit (.bool true))) (aA rfl) rfl c52 rfl rfl) ?_
      have h44 := Option.some.inj h44
      subst h44
      refine aF (bB rfl ⟨rfl, rfl, rfl, rfl, rfl, rfl, rfl, rfl, rfl, trivial⟩ rfl)
     ·have h44 := aZ c52 h44
      refine aL rfl rfl (aA rfl) rfl c52 (aE (v := .d (.lit w22)) (aA rfl) rfl rfl) ?_
      refine aL rfl rfl (aA rfl) rfl c52 (oA (m := 2) (aA rfl) rfl rfl bW.of) ?_
      refine aL rfl rfl (aA rfl) rfl c52 (bJ (aA rfl) rfl rfl rfl) ?_
      refine aL rfl rfl (aA rfl) rfl c52 (aE (v := .d (.lit (.bool ((decide ((nextv_4_21.length : Int) = 1)))))) (aA rfl) rfl rfl) ?_
      obtain ⟨b53, h54, h44⟩ := bind_some h44
      refine cC 6 [2, 6, 7, 8, 9, 10, 11, 12, 13, 76, 77, 78, 79, 80] 86 b53 ?_ ?_
      ·refine bG (decide ((nextv_4_21.length : Int) = 1)) (fun c55 => ?_) (fun c55 => ?_)
       ·have h54 := bA c55 h54
        refine aL rfl rfl (aA rfl) rfl c55 (aE (v := .d (.lit w17)) (aA rfl) rfl rfl) ?_
        refine aL rfl rfl (aA rfl) rfl c55 (aE (v := .d (.lit w22)) (aA rfl) rfl rfl) ?_
        obtain ⟨x56, h57, h54⟩ := bind_some h54
        refine aL rfl rfl (aA rfl) rfl c55 (iJ (m := 2) (aA rfl) rfl rfl rfl bW.of (cA aP h57)) ?_
        refine aL rfl rfl (aA rfl) rfl c55 (lZ (aA rfl) rfl (m := 2) rfl (rF aP h57) rfl bH) ?_
        obtain ⟨r58, h59, h54⟩ := bind_some h54
        refine aL rfl rfl (aA rfl) rfl c55 (cR (aA rfl) (.func _ _ Try.call52) rfl rfl (.cons (.d (nQ 3 rfl (dM (f := aP) fun _ => rfl))) (.cons (.same _) .nil)) (yV _ _ h59) rfl) ?_
        refine aL rfl rfl (aA rfl) rfl c52 (bM (v := .d (.lit (.bool r58))) (aA rfl) rfl c55 rfl rfl) ?_
        have h54 := Option.some.inj h54
        subst h54
        refine aF (bB rfl ⟨rfl, rfl, rfl, rfl, rfl, rfl, rfl, rfl, rfl, rfl, rfl, rfl, rfl, rfl, trivial⟩ rfl)
       ·have h54 := aZ c55 h54
        refine aN rfl rfl (aA rfl) rfl (aA rfl) rfl c55 ?_
        refine aN rfl rfl (aA rfl) rfl (aA rfl) rfl c55 ?_
        refine aN rfl rfl (aA rfl) rfl (aA rfl) rfl c55 ?_
        refine aN rfl rfl (aA rfl) rfl (aA rfl) rfl c55 ?_
        refine aN rfl rfl (aA rfl) rfl (aA rfl) rfl c55 ?_
        refine aL rfl rfl (aA rfl) rfl c52 (bL (v := .d (.lit (.bool false))) (aA rfl) rfl c55 rfl rfl) ?_
        have h54 := Option.some.inj h54
        subst h54
        refine aF (bB rfl ⟨rfl, rfl, rfl, rfl, rfl, rfl, rfl, rfl, rfl, rfl, rfl, rfl, rfl, rfl, trivial⟩ rfl)
      ·refine tr1 rfl (bL (v := .d (.lit (.bool b53))) (aA rfl) rfl c52 rfl rfl) ?_
       have h44 := Option.some.inj h44
       subst h44
       refine aF (bB rfl ⟨rfl, rfl, rfl, rfl, rfl, rfl, rfl, rfl, rfl, trivial⟩ rfl)
    ·refine aF ?_
     refine bU rfl (fun c45 => ?_) (fun c45 => ?_)
     ·have h := bA c45 h
      refine aG ?_
      refine aC ?_
      refine tr1 rfl (tF 1 (aA rfl)) ?_
      refine tr1 rfl (aM (v := .d (.lit (.bool false))) (aA rfl) rfl rfl) ?_
      refine aF ?_
      have h := Option.some.inj h
      subst h
      refine cS (cP (cT (l := [4, 5]) ⟨rfl, rfl, trivial⟩)) ?_
      exact bQ ⟨rfl, _, .two _ _, rfl, rfl⟩
     ·have h := aZ c45 h
      refine bT ?_
      refine aG ?_
      refine aC ?_
      refine tr1 rfl (aE (v := .d (.lit w22)) (aA rfl) rfl rfl) ?_
      refine tr1 rfl (oA (m := 2) (aA rfl) rfl rfl bW.of) ?_
      refine tr1 rfl (bJ (aA rfl) rfl rfl rfl) ?_
      refine aF ?_
      refine bU rfl (fun c46 => ?_) (fun c46 => ?_)
      ·have h := bA c46 h
       refine aG ?_
       refine aC ?_
       refine tr1 rfl (aE (v := .d (.lit w22)) (aA rfl) rfl rfl) ?_
       obtain ⟨x47, h48, h⟩ := bind_some h
       refine tr1 rfl (iJ (m := 2) (aA rfl) rfl rfl rfl bW.of (cA aP h48)) ?_
       refine tr1 rfl (lZ (aA rfl) rfl (m := 2) rfl (rF aP h48) rfl bH) ?_
       refine tr1 rfl (aM (v := .d (.lit (.int .i64 x47))) (aA rfl) rfl rfl) ?_
       refine aF ?_
       refine aG ?_
       refine aC ?_
       refine tr1 rfl (aE (v := .d (.lit w17)) (aA rfl) rfl rfl) ?_
       refine tr1 rfl (aE (v := .d (.lit (.int .i64 x47))) (aA rfl) rfl rfl) ?_
       refine tr1 rfl (fZ (aA rfl) bW rfl rfl (rows := ([x47]).map aP) rfl (dM (f := aP) fun _ => rfl) rfl (by decide)) ?_
       obtain ⟨x49, h50, h⟩ := bind_some h
       refine bZ rfl (fM (i := 3) (aA rfl) bW rfl rfl rfl (fun _ => rfl) h50 rfl) ?_
       rintro _ ⟨v51, rfl⟩
       refine tr1 rfl (aM (v := .d (.lit v51)) (aA rfl) rfl rfl) ?_
       refine aF ?_
       refine aG ?_
       refine aC ?_
       refine tr1 rfl (aE (v := .d (.lit (.int .i64 used_2_16))) (aA rfl) rfl rfl) ?_
       refine tr1 rfl (bK (aA rfl) rfl rfl rfl) ?_
       refine tr1 rfl (aM (v := .d (.lit (.int .i64 ((w64 (used_2_16 + 1)))))) (aA rfl) rfl rfl) ?_
       refine aF ?_
       refine aC ?_
       refine tr1 rfl (aM (v := .d (.lit (.bool true))) (aA rfl) rfl rfl) ?_
       refine gJ ?_
       simp only [gI] at h
       exact ⟨(w64 (used_2_16 + 1), x47, true, x49, v51), h, bD [0, 1, 3] rfl rfl (aV rfl (aV rfl (aV rfl (aV rfl (bC ⟨rfl, rfl, rfl, rfl, trivial⟩)))))⟩
      ·have h := aZ c46 h
       refine eH ?_
       simp only [gI] at h
       exact ⟨(used_2_16, now_2_16, false, o18_2_16, w17), h, bD [0, 1, 3] rfl rfl (aV rfl (aV rfl (aV rfl (aV rfl (bC ⟨rfl, rfl, rfl, rfl, trivial⟩)))))⟩
  ·have h := aZ c19 h
   refine dE ?_
   refine .inl ⟨rfl, ?_⟩
   simp only [jZ] at h
   refine aC ?_
   refine tr1 rfl (aE (v := .d (.lit w10)) (aA rfl) rfl rfl) ?_
   refine tr1 rfl (aE (v := .d (.lit (.int .i64 now_2_16))) (aA rfl) rfl rfl) ?_
   refine tr1 rfl (fZ (aA rfl) bW rfl rfl (rows := ([now_2_16]).map aP) rfl (dM (f := aP) fun _ => rfl) rfl (by decide)) ?_
   obtain ⟨x60, h61, h⟩ := bind_some h
   refine bZ rfl (fM (i := 1) (aA rfl) bW rfl rfl rfl (fun _ => rfl) h61 rfl) ?_
   rintro _ ⟨v62, rfl⟩
   refine tr1 rfl (aM (v := .d (.lit v62)) (aA rfl) rfl rfl) ?_
   refine gJ ?_
   simp only [lU] at h
   refine aC ?_
   refine tr1 rfl (aE (v := .d (.lit (.int .i64 i_0_9))) (aA rfl) rfl rfl) ?_
   refine tr1 rfl (bK (aA rfl) rfl rfl rfl) ?_
   refine tr1 rfl (aM (v := .d (.lit (.int .i64 ((w64 (i_0_9 + 1)))))) (aA rfl) rfl rfl) ?_
   refine aF ?_
   exact ⟨(used_2_16, w64 (i_0_9 + 1), x60, o18_2_16, v62, w17), h, bD [0, 1, 2] rfl rfl (aV rfl (aV rfl (aV rfl (aV rfl (bC ⟨rfl, rfl, trivial⟩)))))⟩
 ·have h := aZ c13 h
  refine dE ?_
  refine .inl ⟨rfl, ?_⟩
  simp only [lT] at h
  refine aG ?_
  refine aG ?_
  refine aC ?_
  refine tr1 rfl (aM (v := .d (.lit (.int .i64 0))) (aA rfl) rfl rfl) ?_
  refine aF ?_
  refine cF ?_
  refine dP [6, 8] (fun (s63 : Int × Int) => [(9, .d (.lit (.int .i64 s63.1))), (15, .d (.lit (.int .i64 s63.2)))]) (fun (s63 : Int × Int) => [.arr w10 3 1 (out_0_9.map aP)]) (fun (k : Nat) (s63 : Int × Int) => dW r2 out_0_9 k s63.1 s63.2) (fun _ => rfl) (used_0_9, 0) h (bD [1] rfl rfl (aV rfl (aV rfl (bC ⟨rfl, rfl, trivial⟩)))) ?_
  rintro k64 ⟨used_6_63, k_6_63⟩ h
  simp only [dW] at h
  refine aG ?_
  refine aG ?_
  refine aC ?_
  refine tr1 rfl (aE (v := .d (.lit (.int .i64 k_6_63))) (aA rfl) rfl rfl) ?_
  refine tr1 rfl (aE (v := .d (.sl 5 (r2.map aK))) (aA rfl) rfl rfl) ?_
  refine tr1 rfl (dX (aA rfl) rfl eA.of) ?_
  refine tr1 rfl (bJ (aA rfl) rfl rfl rfl) ?_
  refine aF ?_
  refine bU rfl (fun c65 => ?_) (fun c65 => ?_)
  ·have h := bA c65 h
   refine bT ?_
   refine aG ?_
   refine cF ?_
   refine aG ?_
   refine aC ?_
   refine tr1 rfl (aE (v := .d (.sl 5 (r2.map aK))) (aA rfl) rfl rfl) ?_
   refine tr1 rfl (aE (v := .d (.lit (.int .i64 k_6_63))) (aA rfl) rfl rfl) ?_
   obtain ⟨x66, h67, h⟩ := bind_some h
   refine tr1 rfl (bP (aA rfl) rfl rfl eA.of (cA aK h67)) ?_
   refine tr1 rfl (cN (aA rfl) rfl kE (es := [.lit (.int .i64 x66.Kind)]) rfl) ?_
   refine tr1 rfl (bO (aA rfl) rfl bH) ?_
   refine tr1 rfl (bJ (aA rfl) rfl rfl rfl) ?_
   refine aF ?_
   refine bU rfl (fun c68 => ?_) (fun c68 => ?_)
   ·have h := bA c68 h
    refine aC ?_
    refine tr1 rfl (aE (v := .d (.lit (.int .i64 used_6_63))) (aA rfl) rfl rfl) ?_
    refine tr1 rfl (bK (aA rfl) rfl rfl rfl) ?_
    refine tr1 rfl (aM (v := .d (.lit (.int .i64 ((w64 (used_6_63 - 1)))))) (aA rfl) rfl rfl) ?_
    refine gJ ?_
    refine aC ?_
    refine tr1 rfl (aE (v := .d (.lit (.int .i64 k_6_63))) (aA rfl) rfl rfl) ?_
    refine tr1 rfl (bK (aA rfl) rfl rfl rfl) ?_
    refine tr1 rfl (aM (v := .d (.lit (.int .i64 ((w64 (k_6_63 + 1)))))) (aA rfl) rfl rfl) ?_
    refine aF ?_
    exact ⟨(w64 (used_6_63 - 1), w64 (k_6_63 + 1)), h, bD [0] rfl rfl (aV rfl (aV rfl (bC ⟨rfl, rfl, trivial⟩)))⟩
   ·have h := aZ c68 h
    refine eH ?_
    refine aC ?_
    refine tr1 rfl (aE (v := .d (.lit (.int .i64 k_6_63))) (aA rfl) rfl rfl) ?_
    refine tr1 rfl (bK (aA rfl) rfl rfl rfl) ?_
    refine tr1 rfl (aM (v := .d (.lit (.int .i64 ((w64 (k_6_63 + 1)))))) (aA rfl) rfl rfl) ?_
    refine aF ?_
    exact ⟨(used_6_63, w64 (k_6_63 + 1)), h, bD [0] rfl rfl (aV rfl (aV rfl (bC ⟨rfl, rfl, trivial⟩)))⟩
  ·have h := aZ c65 h
   refine dE ?_
   refine .inl ⟨rfl, ?_⟩
   simp only [lV] at h
   refine aG ?_
   refine aC ?_
   refine tr1 rfl (aE (v := .d (.lit w10)) (aA rfl) rfl rfl) ?_
   refine tr1 rfl (aE (v := .d (.lit (.int .i64 used_6_63))) (aA rfl) rfl rfl) ?_
   refine tr1 rfl (bJ (aA rfl) rfl rfl rfl) ?_
   refine tr1 rfl (aM (v := .d (.lit w10)) (aA rfl) rfl rfl) ?_
   refine tr1 rfl (aM (v := .d (.lit (.bool ((decide (used_6_63 = 0)))))) (aA rfl) rfl rfl) ?_
   refine aF ?_
   have h := Option.some.inj h
   subst h
   refine cS (cP (zZ (k := 5) (v := .d (.lit (.bool ((decide (used_6_63 = 0)))))) (.same _) (zZ (k := 4) (v := .d (.sl 1 (out_0_9.map aP))) (.d (nQ 0 rfl (dM (f := aP) fun _ => rfl))) (aEd)))) ?_
   exact bQ ⟨rfl, _, .two _ _, rfl, rfl⟩

theorem xH (t_0 : aO) (l_1 : List aD) {r : aQ × Bool} (h : cY t_0 l_1 = some r) : Fn Try.prog 55 [.agg (aR t_0), .d (.sl 5 (l_1.map aK))] (.tup [.agg (cG r.1), .d (.lit (.bool r.2))]) := by
 unfold cY at h
 refine rK Try.func55 rfl (rs := [.cell 4 89, .tmp 5]) Try.results55 Try.ntmps55 (Nat.le_of_ble_eq_true rfl) ?_
 refine aG ?_
 refine aC ?_
 refine bZ rfl (gF (v := .agg (aR t_0)) (aA rfl) rfl rfl rfl) ?_
 rintro _ ⟨b1, rfl⟩
 refine bZ rfl (dZ (zs := [.sl 1 ((([] : List Int)).map aP), .sl 1 ((([] : List (List Int))).map kR)]) (aA rfl) Try.zeroValue89 rfl rfl) ?_
 rintro _ ⟨b2, rfl⟩
 refine tr1 rfl (aM (v := .d (.lit (.bool false))) (aA rfl) rfl rfl) ?_
 refine aF ?_
 refine aG ?_
 refine aC ?_
 refine tr1 rfl (bR (aA rfl) rfl (i := 0) rfl eB (es := (aR t_0)) rfl rfl) ?_
 refine tr1 rfl (aE (v := .d (.sl 5 (l_1.map aK))) (aA rfl) rfl rfl) ?_
 obtain ⟨r3, h4, h⟩ := bind_some h
 refine tr1 rfl (iT (aA rfl) (.func _ _ Try.call18) rfl rfl (uL _ _ h4)) ?_
 refine tr1 rfl (aE (v := .tup [.d (.sl 1 (r3.1.map aP)), .d (.lit (.bool r3.2))]) (aA rfl) rfl rfl) ?_
 refine tr1 rfl (bX (aA rfl) rfl rfl) ?_
 refine tr1 rfl (bX (aA rfl) rfl rfl) ?_
 refine tr1 rfl (aM (v := .d (.sl 1 (r3.1.map aP))) (aA rfl) rfl rfl) ?_
 refine tr1 rfl (aM (v := .d (.lit (.bool r3.2))) (aA rfl) rfl rfl) ?_
 refine aF ?_
 refine aG ?_
 refine aG ?_
 refine aC ?_
 refine tr1 rfl (aE (v := .d (.lit (.bool r3.2))) (aA rfl) rfl rfl) ?_
 refine tr1 rfl (fS (aA rfl) rfl) ?_
 refine aF ?_
 refine bU rfl (fun c5 => ?_) (fun c5 => ?_)
 ·have h := bA c5 h
  refine aG ?_
  refine aC ?_
  refine tr1 rfl (eP (aA rfl) wS (zs := [.sl 1 ((([] : List Int)).map aP), .sl 1 ((([] : List (List Int))).map kR)]) rfl rfl rfl rfl (es := [.sl 1 ((([] : List Int)).map aP), .sl 1 ((([] : List (List Int))).map kR)]) rfl) ?_
  refine tr1 rfl (cJ (i := 1) rfl rfl rfl rfl rfl Try.sizeOf89 rfl (aA rfl) (Nat.le_of_ble_eq_true rfl) (ds' := (cG (aQ.mk ([] : List Int) ([] : List (List Int))))) rfl) ?_
  refine tr1 rfl (aM (v := .d (.lit (.bool false))) (aA rfl) rfl rfl) ?_
  refine aF ?_
  have h := Option.some.inj h
  subst h
  exact bQ ⟨rfl, _, [.box b1 0 (aR t_0), .box b2 0 (cG (aQ.mk ([] : List Int) ([] : List (List Int))))], .two (.cell 4 89 rfl (i := 1) rfl tR (es := (cG (aQ.mk ([] : List Int) ([] : List (List Int))))) rfl rfl) (.tmp 5 (v := .d (.lit (.bool false))) rfl), .refl _, .same _⟩
 ·have h := aZ c5 h
  refine bT ?_
  refine aG ?_
  refine aC ?_
  refine tr1 rfl (aE (v := .d (.sl 1 (r3.1.map aP))) (aA rfl) rfl rfl) ?_
  refine tr1 rfl (eP (aA rfl) wS (zs := [.sl 1 ((([] : List Int)).map aP), .lit (.slice none 0 0)]) rfl rfl rfl rfl (es := [.sl 1 (r3.1.map aP), .lit (.slice none 0 0)]) rfl) ?_
  refine bZ rfl (dZ (zs := [.sl 1 ((([] : List Int)).map aP), .lit (.slice none 0 0)]) (aA rfl) Try.zeroValue89 rfl rfl) ?_
  rintro _ ⟨b6, rfl⟩
  refine kC (yW 22 1) ?_
  refine kC (aFa 3 1) ?_
  refine tr1 rfl (cJ (i := 2) rfl rfl rfl rfl rfl Try.sizeOf89 rfl (aA rfl) (Nat.le_of_ble_eq_true rfl) (ds' := [.sl 1 (r3.1.map aP), .lit (.slice none 0 0)]) rfl) ?_
  refine aF ?_
  refine aG ?_
  refine aG ?_
  refine aC ?_
  refine tr1 rfl (aM (v := .d (.lit (.int .i64 0))) (aA rfl) rfl rfl) ?_
  refine aF ?_
  refine cF ?_
  refine dP [1, 2, 4, 6, 8] (fun (s7 : Int × (List (List Int)) × (List Int) × (List Value) × Value) => [(9, .d (.lit (.int .i64 s7.1)))]) (fun (s7 : Int × (List (List Int)) × (List Int) × (List Value) × Value) => [.box b1 0 (aR t_0), .box b2 0 (cG (aQ.mk ([] : List Int) ([] : List (List Int)))), .fam 3 1 s7.2.2.2.1 (s7.2.1.map fun r => r.map aP), .arr s7.2.2.2.2 22 1 (s7.2.2.2.1.map fun v => [.lit v]), .box b6 0 [.sl 1 (s7.2.2.1.map aP), .lit s7.2.2.2.2]]) (fun (k : Nat) (s7 : Int × (List (List Int)) × (List Int) × (List Value) × Value) => eV l_1 r3.1 t_0 (aQ.mk ([] : List Int) ([] : List (List Int))) k s7.1 s7.2.1 s7.2.2.1) (fun _ => rfl) (0, ([] : List (List Int)), r3.1, [], (.slice none 0 0)) h (bD [0, 1, 4, 3, 2] rfl rfl (aV rfl (bC ⟨rfl, rfl, rfl, rfl, rfl, trivial⟩))) ?_
  rintro k10 ⟨r_0_7, d_0_7, d_0_7_2, vs8, w9⟩ h
  simp only [eV] at h
  refine aG ?_
  refine aG ?_
  refine aC ?_
  refine tr1 rfl (aE (v := .d (.lit (.int .i64 r_0_7))) (aA rfl) rfl rfl) ?_
  refine tr1 rfl (aU (aA rfl) rfl hC) ?_
  refine tr1 rfl (aW (aA rfl) rfl (i := 0) rfl rfl bH) ?_
  refine tr1 rfl (bJ (aA rfl) rfl rfl rfl) ?_
  refine aF ?_
  refine bU rfl (fun c11 => ?_) (fun c11 => ?_)
  ·have h := bA c11 h
   refine bT ?_
   refine aG ?_
   refine cF ?_
   refine aG ?_
   refine aC ?_
   refine tr1 rfl (kN 3 1 (.inl rfl) (aA rfl)) ?_
   refine aF ?_
   refine aG ?_
   refine aG ?_
   refine aC ?_
   refine tr1 rfl (aM (v := .d (.lit (.int .i64 0))) (aA rfl) rfl rfl) ?_
   refine aF ?_
   refine cF ?_
   refine dP [1, 2, 4, 6, 8, 9] (fun (s13 : Int × (List Int) × Value) => [(10, .d (.lit s13.2.2)), (11, .d (.lit (.int .i64 s13.1)))]) (fun (s13 : Int × (List Int) × Value) => [.box b1 0 (aR t_0), .box b2 0 (cG (aQ.mk ([] : List Int) ([] : List (List Int)))), .fam 3 1 vs8 (d_0_7.map fun r => r.map aP), .arr w9 22 1 (vs8.map fun v => [.lit v]), .box b6 0 [.sl 1 (d_0_7_2.map aP), .lit w9], .arr s13.2.2 3 1 (s13.2.1.map aP)]) (fun (k : Nat) (s13 : Int × (List Int) × Value) => dN (eV l_1 r3.1 t_0 (aQ.mk ([] : List Int) ([] : List (List Int))) k10) l_1 r3.1 r_0_7 t_0 (aQ.mk ([] : List Int) ([] : List (List Int))) d_0_7 d_0_7_2 k s13.1 s13.2.1) (fun _ => rfl) (0, ([] : List Int), (.slice none 0 0)) h (bD [0, 1, 2, 3, 4, 5] rfl rfl (aV rfl (aV rfl (bC ⟨rfl, rfl, rfl, rfl, rfl, rfl, trivial⟩)))) ?_
   rintro k15 ⟨p_2_13, row_2_13, w14⟩ h
   simp only [dN] at h
   refine aG ?_
   refine aG ?_
   refine aC ?_
   refine tr1 rfl (aE (v := .d (.lit (.int .i64 p_2_13))) (aA rfl) rfl rfl) ?_
   refine tr1 rfl (bR (aA rfl) rfl (i := 0) rfl eB (es := (aR t_0)) rfl rfl) ?_
   refine tr1 rfl (aE (v := .d (.lit (.int .i64 r_0_7))) (aA rfl) rfl rfl) ?_
   obtain ⟨r16, h17, h⟩ := bind_some h
   refine tr1 rfl (cR (aA rfl) (.func _ _ Try.call42) rfl rfl (BVs.refl _ _) (pY _ _ h17) rfl) ?_
   refine tr1 rfl (bJ (aA rfl) rfl rfl rfl) ?_
   refine aF ?_
   refine bU rfl (fun c18 => ?_) (fun c18 => ?_)
   ·have h := bA c18 h
    refine bT ?_
    refine aG ?_
    refine cF ?_
    refine aG ?_
    refine aC ?_
    refine tr1 rfl (aM (v := .d (.lit (.int .i64 (-2)))) (aA rfl) rfl rfl) ?_
    refine aF ?_
    refine aG ?_
    refine aG ?_
    refine aC ?_
    refine tr1 rfl (aE (v := .d (.lit (.int .i64 r_0_7))) (aA rfl) rfl rfl) ?_
    refine tr1 rfl (bJ (aA rfl) rfl rfl rfl) ?_
    refine tr1 rfl (aE (v := .d (.lit (.bool ((decide (r_0_7 = 0)))))) (aA rfl) rfl rfl) ?_
    obtain ⟨b19, h20, h⟩ := bind_some h
    refine cC 7 [1, 2, 4, 6, 8, 9, 10, 11, 12] 55 b19 ?_ ?_
    ·refine bG (decide (r_0_7 = 0)) (fun c52 => ?_) (fun c52 => ?_)
     ·have h20 := bA c52 h20
      refine aL rfl rfl (aA rfl) rfl c52 (aE (v := .d (.sl 1 (r3.1.map aP))) (aA rfl) rfl rfl) ?_
      refine aL rfl rfl (aA rfl) rfl c52 (aE (v := .d (.lit (.int .i64 p_2_13))) (aA rfl) rfl rfl) ?_
      refine aL rfl rfl (aA rfl) rfl c52 (bK (aA rfl) rfl rfl rfl) ?_
      obtain ⟨x53, h54, h20⟩ := bind_some h20
      refine aL rfl rfl (aA rfl) rfl c52 (bP (aA rfl) rfl rfl bW.of (cA aP h54)) ?_
      refine aL rfl rfl (aA rfl) rfl c52 (bO (aA rfl) rfl bH) ?_
      refine aL rfl rfl (aA rfl) rfl c52 (bJ (aA rfl) rfl rfl rfl) ?_
      refine tr1 rfl (bM (v := .d (.lit (.bool ((decide (x53 = (-1))))))) (aA rfl) rfl c52 rfl rfl) ?_
      have h20 := Option.some.inj h20
      subst h20
      refine aF (bB rfl ⟨rfl, rfl, rfl, rfl, rfl, rfl, rfl, rfl, rfl, trivial⟩ rfl)
     ·have h20 := aZ c52 h20
      refine aN rfl rfl (aA rfl) rfl (aA rfl) rfl c52 ?_
      refine aN rfl rfl (aA rfl) rfl (aA rfl) rfl c52 ?_
      refine aN rfl rfl (aA rfl) rfl (aA rfl) rfl c52 ?_
      refine aN rfl rfl (aA rfl) rfl (aA rfl) rfl c52 ?_
      refine aN rfl rfl (aA rfl) rfl (aA rfl) rfl c52 ?_
      refine aN rfl rfl (aA rfl) rfl (aA rfl) rfl c52 ?_
      refine tr1 rfl (bL (v := .d (.lit (.bool false))) (aA rfl) rfl c52 rfl rfl) ?_
      have h20 := Option.some.inj h20
      subst h20
      refine aF (bB rfl ⟨rfl, rfl, rfl, rfl, rfl, rfl, rfl, rfl, rfl, trivial⟩ rfl)
    ·refine aF ?_
     refine bU rfl (fun c21 => ?_) (fun c21 => ?_)
     ·have h := bA c21 h
      refine aC ?_
      refine tr1 rfl (aE (v := .d (.sl 1 (r3.1.map aP))) (aA rfl) rfl rfl) ?_
      refine tr1 rfl (aE (v := .d (.lit (.int .i64 p_2_13))) (aA rfl) rfl rfl) ?_
      refine tr1 rfl (bK (aA rfl) rfl rfl rfl) ?_
      refine tr1 rfl (bK (aA rfl) rfl rfl rfl) ?_
      obtain ⟨x22, h23, h⟩ := bind_some h
      refine tr1 rfl (bP (aA rfl) rfl rfl bW.of (cA aP h23)) ?_
      refine tr1 rfl (bO (aA rfl) rfl bH) ?_
      refine tr1 rfl (aM (v := .d (.lit (.int .i64 x22))) (aA rfl) rfl rfl) ?_
      refine aF ?_
      refine aG ?_
      refine aG ?_
      refine aC ?_
      refine tr1 rfl (aE (v := .d (.lit (.int .i64 r_0_7))) (aA rfl) rfl rfl) ?_
      refine tr1 rfl (bJ (aA rfl) rfl rfl rfl) ?_
      refine tr1 rfl (aE (v := .d (.lit (.bool ((decide (r_0_7 = 0)))))) (aA rfl) rfl rfl) ?_
      obtain ⟨b24, h25, h⟩ := bind_some h
      refine cC 8 [1, 2, 4, 6, 8, 9, 10, 11, 12] 72 b24 ?_ ?_
      ·refine bG (decide (r_0_7 = 0)) (fun c35 => ?_) (fun c35 => ?_)
       ·have h25 := bA c35 h25
        refine aL rfl rfl (aA rfl) rfl c35 (aE (v := .d (.sl 1 (r3.1.map aP))) (aA rfl) rfl rfl) ?_
        refine aL rfl rfl (aA rfl) rfl c35 (aE (v := .d (.lit (.int .i64 p_2_13))) (aA rfl) rfl rfl) ?_
        refine aL rfl rfl (aA rfl) rfl c35 (bK (aA rfl) rfl rfl rfl) ?_
        refine aL rfl rfl (aA rfl) rfl c35 (bK (aA rfl) rfl rfl rfl) ?_
        obtain ⟨x36, h37, h25⟩ := bind_some h25
        refine aL rfl rfl (aA rfl) rfl c35 (bP (aA rfl) rfl rfl bW.of (cA aP h37)) ?_
        refine aL rfl rfl (aA rfl) rfl c35 (bO (aA rfl) rfl bH) ?_
        refine aL rfl rfl (aA rfl) rfl c35 (bJ (aA rfl) rfl rfl rfl) ?_
        refine tr1 rfl (bM (v := .d (.lit (.bool ((decide (x36 = (-1))))))) (aA rfl) rfl c35 rfl rfl) ?_
        have h25 := Option.some.inj h25
        subst h25
        refine aF (bB rfl ⟨rfl, rfl, rfl, rfl, rfl, rfl, rfl, rfl, rfl, trivial⟩ rfl)
       ·have h25 := aZ c35 h25
        refine aN rfl rfl (aA rfl) rfl (aA rfl) rfl c35 ?_
        refine aN rfl rfl (aA rfl) rfl (aA rfl) rfl c35 ?_
        refine aN rfl rfl (aA rfl) rfl (aA rfl) rfl c35 ?_
        refine aN rfl rfl (aA rfl) rfl (aA rfl) rfl c35 ?_
        refine aN rfl rfl (aA rfl) rfl (aA rfl) rfl c35 ?_
        refine aN rfl rfl (aA rfl) rfl (aA rfl) rfl c35 ?_
        refine aN rfl rfl (aA rfl) rfl (aA rfl) rfl c35 ?_
        refine tr1 rfl (bL (v := .d (.lit (.bool false))) (aA rfl) rfl c35 rfl rfl) ?_
        have h25 := Option.some.inj h25
        subst h25
        refine aF (bB rfl ⟨rfl, rfl, rfl, rfl, rfl, rfl, rfl, rfl, rfl, trivial⟩ rfl)
      ·refine aF ?_
       refine bU rfl (fun c26 => ?_) (fun c26 => ?_)
       ·have h := bA c26 h
        refine aC ?_
        refine tr1 rfl (aE (v := .d (.sl 1 (r3.1.map aP))) (aA rfl) rfl rfl) ?_
        refine tr1 rfl (aE (v := .d (.lit (.int .i64 p_2_13))) (aA rfl) rfl rfl) ?_
        refine tr1 rfl (bK (aA rfl) rfl rfl rfl) ?_
        obtain ⟨x27, h28, h⟩ := bind_some h
        refine tr1 rfl (bP (aA rfl) rfl rfl bW.of (cA aP h28)) ?_
        refine tr1 rfl (bO (aA rfl) rfl bH) ?_
        refine tr1 rfl (aM (v := .d (.lit (.int .i64 x27))) (aA rfl) rfl rfl) ?_
        refine aF ?_
        refine aC ?_
        refine tr1 rfl (aE (v := .d (.lit w14)) (aA rfl) rfl rfl) ?_
        refine tr1 rfl (aE (v := .d (.lit (.int .i64 x27))) (aA rfl) rfl rfl) ?_
        refine tr1 rfl (fZ (aA rfl) bW rfl rfl (rows := ([x27]).map aP) rfl (dM (f := aP) fun _ => rfl) rfl (by decide)) ?_
        obtain ⟨x29, h30, h⟩ := bind_some h
        refine bZ rfl (fM (i := 5) (aA rfl) bW rfl rfl rfl (fun _ => rfl) h30 rfl) ?_
        rintro _ ⟨v31, rfl⟩
        refine tr1 rfl (aM (v := .d (.lit v31)) (aA rfl) rfl rfl) ?_
        refine gJ ?_
        refine aC ?_
        refine tr1 rfl (aE (v := .d (.lit (.int .i64 p_2_13))) (aA rfl) rfl rfl) ?_
        refine tr1 rfl (bK (aA rfl) rfl rfl rfl) ?_
        refine tr1 rfl (aM (v := .d (.lit (.int .i64 ((w64 (p_2_13 + 1)))))) (aA rfl) rfl rfl) ?_
        refine aF ?_
        exact ⟨(w64 (p_2_13 + 1), x29, v31), h, bD [0, 1, 2, 3, 4, 5] rfl rfl (aV rfl (aV rfl (bC ⟨rfl, rfl, rfl, rfl, rfl, rfl, trivial⟩)))⟩
       ·have h := aZ c26 h
        refine bT ?_
        refine aC ?_
        refine tr1 rfl (aE (v := .d (.lit w14)) (aA rfl) rfl rfl) ?_
        refine tr1 rfl (aE (v := .d (.lit (.int .i64 x22))) (aA rfl) rfl rfl) ?_
        refine tr1 rfl (fZ (aA rfl) bW rfl rfl (rows := ([x22]).map aP) rfl (dM (f := aP) fun _ => rfl) rfl (by decide)) ?_
        obtain ⟨x32, h33, h⟩ := bind_some h
        refine bZ rfl (fM (i := 5) (aA rfl) bW rfl rfl rfl (fun _ => rfl) h33 rfl) ?_
        rintro _ ⟨v34, rfl⟩
        refine tr1 rfl (aM (v := .d (.lit v34)) (aA rfl) rfl rfl) ?_
        refine gJ ?_
        refine aC ?_
        refine tr1 rfl (aE (v := .d (.lit (.int .i64 p_2_13))) (aA rfl) rfl rfl) ?_
        refine tr1 rfl (bK (aA rfl) rfl rfl rfl) ?_
        refine tr1 rfl (aM (v := .d (.lit (.int .i64 ((w64 (p_2_13 + 1)))))) (aA rfl) rfl rfl) ?_
        refine aF ?_
        exact ⟨(w64 (p_2_13 + 1), x32, v34), h, bD [0, 1, 2, 3, 4, 5] rfl rfl (aV rfl (aV rfl (bC ⟨rfl, rfl, rfl, rfl, rfl, rfl, trivial⟩)))⟩
     ·have h := aZ c21 h
      refine bT ?_
      refine aG ?_
      refine aG ?_
      refine aC ?_
      refine tr1 rfl (aE (v := .d (.lit (.int .i64 r_0_7))) (aA rfl) rfl rfl) ?_
      refine tr1 rfl (bJ (aA rfl) rfl rfl rfl) ?_
      refine tr1 rfl (aE (v := .d (.lit (.bool ((decide (r_0_7 = 0)))))) (aA rfl) rfl rfl) ?_
      obtain ⟨b38, h39, h⟩ := bind_some h
      refine cC 8 [1, 2, 4, 6, 8, 9, 10, 11, 12] 72 b38 ?_ ?_
      ·refine bG (decide (r_0_7 = 0)) (fun c49 => ?_) (fun c49 => ?_)
       ·have h39 := bA c49 h39
        refine aL rfl rfl (aA rfl) rfl c49 (aE (v := .d (.sl 1 (r3.1.map aP))) (aA rfl) rfl rfl) ?_
        refine aL rfl rfl (aA rfl) rfl c49 (aE (v := .d (.lit (.int .i64 p_2_13))) (aA rfl) rfl rfl) ?_
        refine aL rfl rfl (aA rfl) rfl c49 (bK (aA rfl) rfl rfl rfl) ?_
        refine aL rfl rfl (aA rfl) rfl c49 (bK (aA rfl) rfl rfl rfl) ?_
        obtain ⟨x50, h51, h39⟩ := bind_some h39
        refine aL rfl rfl (aA rfl) rfl c49 (bP (aA rfl) rfl rfl bW.of (cA aP h51)) ?_
        refine aL rfl rfl (aA rfl) rfl c49 (bO (aA rfl) rfl bH) ?_
        refine aL rfl rfl (aA rfl) rfl c49 (bJ (aA rfl) rfl rfl rfl) ?_
        refine tr1 rfl (bM (v := .d (.lit (.bool ((decide (x50 = (-1))))))) (aA rfl) rfl c49 rfl rfl) ?_
        have h39 := Option.some.inj h39
        subst h39
        refine aF (bB rfl ⟨rfl, rfl, rfl, rfl, rfl, rfl, rfl, rfl, rfl, trivial⟩ rfl)
       ·have h39 := aZ c49 h39
        refine aN rfl rfl (aA rfl) rfl (aA rfl) rfl c49 ?_
        refine aN rfl rfl (aA rfl) rfl (aA rfl) rfl c49 ?_
        refine aN rfl rfl (aA rfl) rfl (aA rfl) rfl c49 ?_
        refine aN rfl rfl (aA rfl) rfl (aA rfl) rfl c49 ?_
        refine aN rfl rfl (aA rfl) rfl (aA rfl) rfl c49 ?_
        refine aN rfl rfl (aA rfl) rfl (aA rfl) rfl c49 ?_
        refine aN rfl rfl (aA rfl) rfl (aA rfl) rfl c49 ?_
        refine tr1 rfl (bL (v := .d (.lit (.bool false))) (aA rfl) rfl c49 rfl rfl) ?_
        have h39 := Option.some.inj h39
        subst h39
        refine aF (bB rfl ⟨rfl, rfl, rfl, rfl, rfl, rfl, rfl, rfl, rfl, trivial⟩ rfl)
      ·refine aF ?_
       refine bU rfl (fun c40 => ?_) (fun c40 => ?_)
       ·have h := bA c40 h
        refine aC ?_
        refine tr1 rfl (aE (v := .d (.sl 1 (r3.1.map aP))) (aA rfl) rfl rfl) ?_
        refine tr1 rfl (aE (v := .d (.lit (.int .i64 p_2_13))) (aA rfl) rfl rfl) ?_
        refine tr1 rfl (bK (aA rfl) rfl rfl rfl) ?_
        obtain ⟨x41, h42, h⟩ := bind_some h
        refine tr1 rfl (bP (aA rfl) rfl rfl bW.of (cA aP h42)) ?_
        refine tr1 rfl (bO (aA rfl) rfl bH) ?_
        refine tr1 rfl (aM (v := .d (.lit (.int .i64 x41))) (aA rfl) rfl rfl) ?_
        refine aF ?_
        refine aC ?_
        refine tr1 rfl (aE (v := .d (.lit w14)) (aA rfl) rfl rfl) ?_
        refine tr1 rfl (aE (v := .d (.lit (.int .i64 x41))) (aA rfl) rfl rfl) ?_
        refine tr1 rfl (fZ (aA rfl) bW rfl rfl (rows := ([x41]).map aP) rfl (dM (f := aP) fun _ => rfl) rfl (by decide)) ?_
        obtain ⟨x43, h44, h⟩ := bind_some h
        refine bZ rfl (fM (i := 5) (aA rfl) bW rfl rfl rfl (fun _ => rfl) h44 rfl) ?_
        rintro _ ⟨v45, rfl⟩
        refine tr1 rfl (aM (v := .d (.lit v45)) (aA rfl) rfl rfl) ?_
        refine gJ ?_
        refine aC ?_
        refine tr1 rfl (aE (v := .d (.lit (.int .i64 p_2_13))) (aA rfl) rfl rfl) ?_
        refine tr1 rfl (bK (aA rfl) rfl rfl rfl) ?_
        refine tr1 rfl (aM (v := .d (.lit (.int .i64 ((w64 (p_2_13 + 1)))))) (aA rfl) rfl rfl) ?_
        refine aF ?_
        exact ⟨(w64 (p_2_13 + 1), x43, v45), h, bD [0, 1, 2, 3, 4, 5] rfl rfl (aV rfl (aV rfl (bC ⟨rfl, rfl, rfl, rfl, rfl, rfl, trivial⟩)))⟩
       ·have h := aZ c40 h
        refine bT ?_
        refine aC ?_
        refine tr1 rfl (aE (v := .d (.lit w14)) (aA rfl) rfl rfl) ?_
        refine tr1 rfl (aE (v := .d (.lit (.int .i64 (-2)))) (aA rfl) rfl rfl) ?_
        refine tr1 rfl (fZ (aA rfl) bW rfl rfl (rows := ([(-2)]).map aP) rfl (dM (f := aP) fun _ => rfl) rfl (by decide)) ?_
        obtain ⟨x46, h47, h⟩ := bind_some h
        refine bZ rfl (fM (i := 5) (aA rfl) bW rfl rfl rfl (fun _ => rfl) h47 rfl) ?_
        rintro _ ⟨v48, rfl⟩
        refine tr1 rfl (aM (v := .d (.lit v48)) (aA rfl) rfl rfl) ?_
        refine gJ ?_
        refine aC ?_
        refine tr1 rfl (aE (v := .d (.lit (.int .i64 p_2_13))) (aA rfl) rfl rfl) ?_
        refine tr1 rfl (bK (aA rfl) rfl rfl rfl) ?_
        refine tr1 rfl (aM (v := .d (.lit (.int .i64 ((w64 (p_2_13 + 1)))))) (aA rfl) rfl rfl) ?_
        refine aF ?_
        exact ⟨(w64 (p_2_13 + 1), x46, v48), h, bD [0, 1, 2, 3, 4, 5] rfl rfl (aV rfl (aV rfl (bC ⟨rfl, rfl, rfl, rfl, rfl, rfl, trivial⟩)))⟩
   ·have h := aZ c18 h
    refine dE ?_
    refine .inl ⟨rfl, ?_⟩
    simp only [iG] at h
    refine aC ?_
    refine tr1 rfl (aU (aA rfl) rfl qL) ?_
    refine tr1 rfl (aW (aA rfl) rfl (i := 4) rfl rfl wK) ?_
    refine tr1 rfl (aE (v := .d (.lit w14)) (aA rfl) rfl rfl) ?_
    refine tr1 rfl (fZ (aA rfl) wZ rfl rfl (rows := [[.lit w14]]) rfl (fun r hr => by cases hr with | head => rfl | tail _ h => cases h) rfl (by decide)) ?_
    obtain ⟨x55, h56, h⟩ := bind_some h
    refine bZ rfl (aCy (m := 3) (f := 2) (aA rfl) wZ rfl rfl rfl rfl h56 rfl) ?_
    rintro _ ⟨v57, rfl⟩
    refine kC (aDo (i := 2) [.box b1 0 (aR t_0), .box b2 0 (cG (aQ.mk ([] : List Int) ([] : List (List Int)))), .fam 3 1 vs8 (d_0_7.map fun r => r.map aP), .arr v57 22 1 ((vs8 ++ [w14]).map fun v => [.lit v]), .box b6 0 [.sl 1 (d_0_7_2.map aP), .lit w9]] [.box b1 0 (aR t_0), .box b2 0 (cG (aQ.mk ([] : List Int) ([] : List (List Int)))), .fam 3 1 (vs8 ++ [w14]) (x55.map fun r => r.map aP), .arr v57 22 1 ((vs8 ++ [w14]).map fun v => [.lit v]), .box b6 0 [.sl 1 (d_0_7_2.map aP), .lit w9]] rfl rfl h56 rfl) ?_
    refine tr1 rfl (aU (aA rfl) rfl qL) ?_
    refine tr1 rfl (cJ (i := 4) rfl rfl rfl rfl rfl Try.sizeOf53 rfl (aA rfl) (Nat.le_of_ble_eq_true rfl) (ds' := [.sl 1 (d_0_7_2.map aP), .lit v57]) rfl) ?_
    refine gJ ?_
    simp only [nM] at h
    refine aC ?_
    refine tr1 rfl (aE (v := .d (.lit (.int .i64 r_0_7))) (aA rfl) rfl rfl) ?_
    refine tr1 rfl (bK (aA rfl) rfl rfl rfl) ?_
    refine tr1 rfl (aM (v := .d (.lit (.int .i64 ((w64 (r_0_7 + 1)))))) (aA rfl) rfl rfl) ?_
    refine aF ?_
    exact ⟨(w64 (r_0_7 + 1), x55, d_0_7_2, (vs8 ++ [w14]), v57), h, bD [0, 1, 2, 3, 4] rfl rfl (aV rfl (bC ⟨rfl, rfl, rfl, rfl, rfl, trivial⟩))⟩
  ·have h := aZ c11 h
   refine dE ?_
   refine .inl ⟨rfl, ?_⟩
   simp only [iF] at h
   refine aG ?_
   refine aC ?_
   refine tr1 rfl (aE (v := .d (.sl 5 (l_1.map aK))) (aA rfl) rfl rfl) ?_
   obtain ⟨r58, h59, h⟩ := bind_some h
   refine tr1 rfl (iT (aA rfl) (.func _ _ Try.call51) rfl rfl (rQ _ h59)) ?_
   refine tr1 rfl (aM (v := .d (.sl 5 (r58.map aK))) (aA rfl) rfl rfl) ?_
   refine aF ?_
   refine aG ?_
   refine aG ?_
   refine aC ?_
   refine tr1 rfl (aM (v := .d (.lit (.int .i64 0))) (aA rfl) rfl rfl) ?_
   refine aF ?_
   refine cF ?_
   refine dP [4, 6, 8, 13] (fun (s60 : Int × aQ × (List (List Int)) × (List Value)) => [(14, .d (.lit (.int .i64 s60.1)))]) (fun (s60 : Int × aQ × (List (List Int)) × (List Value)) => [.box b2 0 (cG s60.2.1), .fam 3 1 s60.2.2.2 (s60.2.2.1.map fun r => r.map aP), .arr w9 22 1 (s60.2.2.2.map fun v => [.lit v]), .box b6 0 [.sl 1 (d_0_7_2.map aP), .lit w9]]) (fun (k : Nat) (s60 : Int × aQ × (List (List Int)) × (List Value)) => cW r3.1 r58 d_0_7_2 k s60.1 s60.2.1 s60.2.2.1) (fun _ => rfl) (0, (aQ.mk ([] : List Int) ([] : List (List Int))), d_0_7, vs8) h (bD [1, 2, 3, 4] rfl rfl (aV rfl (bC ⟨rfl, rfl, rfl, rfl, trivial⟩))) ?_
   rintro k62 ⟨i_4_60, o4_4_60, d_4_60, vs61⟩ h
   simp only [cW] at h
   refine aG ?_
   refine aG ?_
   refine aC ?_
   refine tr1 rfl (aE (v := .d (.lit (.int .i64 i_4_60))) (aA rfl) rfl rfl) ?_
   refine tr1 rfl (aE (v := .d (.sl 5 (r58.map aK))) (aA rfl) rfl rfl) ?_
   refine tr1 rfl (dX (aA rfl) rfl eA.of) ?_
   refine tr1 rfl (bJ (aA rfl) rfl rfl rfl) ?_
   refine aF ?_
   refine bU rfl (fun c63 => ?_) (fun c63 => ?_)
   ·have h := bA c63 h
    refine bT ?_
    refine aG ?_
    refine cF ?_
    refine aG ?_
    refine aC ?_
    refine tr1 rfl (aE (v := .d (.sl 5 (r58.map aK))) (aA rfl) rfl rfl) ?_
    refine tr1 rfl (aE (v := .d (.lit (.int .i64 i_4_60))) (aA rfl) rfl rfl) ?_
    obtain ⟨x64, h65, h⟩ := bind_some h
    refine tr1 rfl (bP (aA rfl) rfl rfl eA.of (cA aK h65)) ?_
    refine tr1 rfl (jN (aA rfl) rfl iZ (es := (aK x64)) rfl rfl) ?_
    refine bZ rfl (dZ (zs := [.lit (.int .i64 0), .lit (.int .i64 0), .lit (.int .i64 0), .lit (.int .i64 0), .lit (.int .i64 0)]) (aA rfl) Try.zeroValue32 rfl rfl) ?_
    rintro _ ⟨b66, rfl⟩
    refine tr1 rfl (cJ (i := 4) rfl rfl rfl rfl rfl Try.sizeOf32 rfl (aA rfl) (Nat.le_of_ble_eq_true rfl) (ds' := (aK x64)) rfl) ?_
    refine aF ?_
    refine aG ?_
    refine aG ?_
    refine aC ?_
    refine tr1 rfl (aU (aA rfl) rfl kE) ?_
    refine tr1 rfl (aW (aA rfl) rfl (i := 4) rfl rfl bH) ?_
    refine tr1 rfl (bJ (aA rfl) rfl rfl rfl) ?_
    refine aF ?_
    refine bU rfl (fun c67 => ?_) (fun c67 => ?_)
    ·have h := bA c67 h
     refine dE ?_
     refine .inl ⟨rfl, ?_⟩
     simp only [iH] at h
     refine aC ?_
     refine tr1 rfl (aE (v := .d (.lit (.int .i64 i_4_60))) (aA rfl) rfl rfl) ?_
     refine tr1 rfl (bK (aA rfl) rfl rfl rfl) ?_
     refine tr1 rfl (aM (v := .d (.lit (.int .i64 ((w64 (i_4_60 + 1)))))) (aA rfl) rfl rfl) ?_
     refine aF ?_
     exact ⟨(w64 (i_4_60 + 1), o4_4_60, d_4_60, vs61), h, bD [0, 1, 2, 3] rfl rfl (aV rfl (bC ⟨rfl, rfl, rfl, rfl, trivial⟩))⟩
    ·have h := aZ c67 h
     refine bT ?_
     refine aG ?_
     refine aG ?_
     refine aC ?_
     refine tr1 rfl (aM (v := .d (.lit (.int .i64 0))) (aA rfl) rfl rfl) ?_
     refine aF ?_
     refine cF ?_
     refine dP [4, 6, 8, 13, 14, 15] (fun (s68 : Int × aQ) => [(16, .d (.lit (.int .i64 s68.1)))]) (fun (s68 : Int × aQ) => [.box b2 0 (cG s68.2), .fam 3 1 vs61 (d_4_60.map fun r => r.map aP), .arr w9 22 1 (vs61.map fun v => [.lit v]), .box b6 0 [.sl 1 (d_0_7_2.map aP), .lit w9], .box b66 0 (aK x64)]) (fun (k : Nat) (s68 : Int × aQ) => fJ (cW r3.1 r58 d_0_7_2 k62) r3.1 r58 i_4_60 d_4_60 d_0_7_2 x64 k s68.1 s68.2) (fun _ => rfl) (0, o4_4_60) h (bD [0, 1, 2, 3, 4] rfl rfl (aV rfl (bC ⟨rfl, rfl, rfl, rfl, rfl, rfl, trivial⟩))) ?_
     rintro k69 ⟨k_6_68, o4_6_68⟩ h
     simp only [fJ] at h
     refine aG ?_
     refine aG ?_
     refine aC ?_
     refine tr1 rfl (aE (v := .d (.lit (.int .i64 k_6_68))) (aA rfl) rfl rfl) ?_
     refine tr1 rfl (aE (v := .d (.lit (.int .i64 i_4_60))) (aA rfl) rfl rfl) ?_
     refine tr1 rfl (bJ (aA rfl) rfl rfl rfl) ?_
     refine aF ?_
     refine bU rfl (fun c70 => ?_) (fun c70 => ?_)
     ·have h := bA c70 h
      refine bT ?_
      refine aG ?_
      refine cF ?_
      refine aG ?_
      refine aC ?_
      refine tr1 rfl (aE (v := .d (.sl 5 (r58.map aK))) (aA rfl) rfl rfl) ?_
      refine tr1 rfl (aE (v := .d (.lit (.int .i64 k_6_68))) (aA rfl) rfl rfl) ?_
      obtain ⟨x71, h72, h⟩ := bind_some h
      refine tr1 rfl (bP (aA rfl) rfl rfl eA.of (cA aK h72)) ?_
      refine tr1 rfl (jN (aA rfl) rfl iZ (es := (aK x71)) rfl rfl) ?_
      refine bZ rfl (dZ (zs := [.lit (.int .i64 0), .lit (.int .i64 0), .lit (.int .i64 0), .lit (.int .i64 0), .lit (.int .i64 0)]) (aA rfl) Try.zeroValue32 rfl rfl) ?_
      rintro _ ⟨b73, rfl⟩
      refine tr1 rfl (cJ (i := 5) rfl rfl rfl rfl rfl Try.sizeOf32 rfl (aA rfl) (Nat.le_of_ble_eq_true rfl) (ds' := (aK x71)) rfl) ?_
      refine aF ?_
      refine aG ?_
      refine aC ?_
      refine tr1 rfl (aU (aA rfl) rfl kE) ?_
      refine tr1 rfl (aW (aA rfl) rfl (i := 5) rfl rfl bH) ?_
      refine tr1 rfl (bJ (aA rfl) rfl rfl rfl) ?_
      refine tr1 rfl (aE (v := .d (.lit (.bool ((!decide (x71.Kind = 5)))))) (aA rfl) rfl rfl) ?_
      obtain ⟨b74, h75, h⟩ := bind_some h
      refine cC 6 [4, 6, 8, 13, 14, 15, 16, 17] 121 b74 ?_ ?_
      ·refine bG (!decide (x71.Kind = 5)) (fun c80 => ?_) (fun c80 => ?_)
       ·have h75 := bA c80 h75
        refine aL rfl rfl (aA rfl) rfl c80 (aU (aA rfl) rfl jI) ?_
        refine aL rfl rfl (aA rfl) rfl c80 (aW (aA rfl) rfl (i := 5) rfl rfl bH) ?_
        refine aL rfl rfl (aA rfl) rfl c80 (aU (aA rfl) rfl jI) ?_
        refine aL rfl rfl (aA rfl) rfl c80 (aW (aA rfl) rfl (i := 4) rfl rfl bH) ?_
        refine aL rfl rfl (aA rfl) rfl c80 (bJ (aA rfl) rfl rfl rfl) ?_
        refine tr1 rfl (bM (v := .d (.lit (.bool ((decide (x71.Round = x64.Round)))))) (aA rfl) rfl c80 rfl rfl) ?_
        have h75 := Option.some.inj h75
        subst h75
        refine aF (bB rfl ⟨rfl, rfl, rfl, rfl, rfl, rfl, rfl, rfl, trivial⟩ rfl)
       ·have h75 := aZ c80 h75
        refine aN rfl rfl (aA rfl) rfl (aA rfl) rfl c80 ?_
        refine aN rfl rfl (aA rfl) rfl (aA rfl) rfl c80 ?_
        refine aN rfl rfl (aA rfl) rfl (aA rfl) rfl c80 ?_
        refine aN rfl rfl (aA rfl) rfl (aA rfl) rfl c80 ?_
        refine aN rfl rfl (aA rfl) rfl (aA rfl) rfl c80 ?_
        refine tr1 rfl (bL (v := .d (.lit (.bool false))) (aA rfl) rfl c80 rfl rfl) ?_
        have h75 := Option.some.inj h75
        subst h75
        refine aF (bB rfl ⟨rfl, rfl, rfl, rfl, rfl, rfl, rfl, rfl, trivial⟩ rfl)
      ·refine tr1 rfl (aE (v := .d (.lit (.bool b74))) (aA rfl) rfl rfl) ?_
       obtain ⟨b76, h77, h⟩ := bind_some h
       refine cC 6 [4, 6, 8, 13, 14, 15, 16] 128 b76 ?_ ?_
       ·refine bG (b74) (fun c79 => ?_) (fun c79 => ?_)
        ·have h77 := bA c79 h77
         refine aL rfl rfl (aA rfl) rfl c79 (aU (aA rfl) rfl gS) ?_
         refine aL rfl rfl (aA rfl) rfl c79 (aW (aA rfl) rfl (i := 5) rfl rfl bH) ?_
         refine aL rfl rfl (aA rfl) rfl c79 (aU (aA rfl) rfl gS) ?_
         refine aL rfl rfl (aA rfl) rfl c79 (aW (aA rfl) rfl (i := 4) rfl rfl bH) ?_
         refine aL rfl rfl (aA rfl) rfl c79 (bJ (aA rfl) rfl rfl rfl) ?_
         refine tr1 rfl (bM (v := .d (.lit (.bool ((decide (x71.Place = x64.Place)))))) (aA rfl) rfl c79 rfl rfl) ?_
         have h77 := Option.some.inj h77
         subst h77
         refine aF (bB rfl ⟨rfl, rfl, rfl, rfl, rfl, rfl, rfl, trivial⟩ rfl)
        ·have h77 := aZ c79 h77
         refine aN rfl rfl (aA rfl) rfl (aA rfl) rfl c79 ?_
         refine aN rfl rfl (aA rfl) rfl (aA rfl) rfl c79 ?_
         refine aN rfl rfl (aA rfl) rfl (aA rfl) rfl c79 ?_
         refine aN rfl rfl (aA rfl) rfl (aA rfl) rfl c79 ?_
         refine aN rfl rfl (aA rfl) rfl (aA rfl) rfl c79 ?_
         refine tr1 rfl (bL (v := .d (.lit (.bool false))) (aA rfl) rfl c79 rfl rfl) ?_
         have h77 := Option.some.inj h77
         subst h77
         refine aF (bB rfl ⟨rfl, rfl, rfl, rfl, rfl, rfl, rfl, trivial⟩ rfl)
       ·refine aF ?_
        refine bU rfl (fun c78 => ?_) (fun c78 => ?_)
        ·have h := bA c78 h
         refine aG ?_
         refine aC ?_
         refine tr1 rfl (eP (aA rfl) wS (zs := [.sl 1 ((([] : List Int)).map aP), .sl 1 ((([] : List (List Int))).map kR)]) rfl rfl rfl rfl (es := [.sl 1 ((([] : List Int)).map aP), .sl 1 ((([] : List (List Int))).map kR)]) rfl) ?_
         refine tr1 rfl (cJ (i := 0) rfl rfl rfl rfl rfl Try.sizeOf89 rfl (aA rfl) (Nat.le_of_ble_eq_true rfl) (ds' := (cG (aQ.mk ([] : List Int) ([] : List (List Int))))) rfl) ?_
         refine tr1 rfl (aM (v := .d (.lit (.bool false))) (aA rfl) rfl rfl) ?_
         refine aF ?_
         have h := Option.some.inj h
         subst h
         exact bQ ⟨rfl, _, [.box b2 0 (cG (aQ.mk ([] : List Int) ([] : List (List Int)))), .fam 3 1 vs61 (d_4_60.map fun r => r.map aP), .arr w9 22 1 (vs61.map fun v => [.lit v]), .box b6 0 [.sl 1 (d_0_7_2.map aP), .lit w9], .box b66 0 (aK x64), .box b73 0 (aK x71)], .two (.cell 4 89 rfl (i := 0) rfl tR (es := (cG (aQ.mk ([] : List Int) ([] : List (List Int))))) rfl rfl) (.tmp 5 (v := .d (.lit (.bool false))) rfl), .refl _, .same _⟩
        ·have h := aZ c78 h
         refine eH ?_
         refine aC ?_
         refine tr1 rfl (aE (v := .d (.lit (.int .i64 k_6_68))) (aA rfl) rfl rfl) ?_
         refine tr1 rfl (bK (aA rfl) rfl rfl rfl) ?_
         refine tr1 rfl (aM (v := .d (.lit (.int .i64 ((w64 (k_6_68 + 1)))))) (aA rfl) rfl rfl) ?_
         refine aF ?_
         exact ⟨(w64 (k_6_68 + 1), o4_6_68), h, bD [0, 1, 2, 3, 4] rfl rfl (aV rfl (bC ⟨rfl, rfl, rfl, rfl, rfl, rfl, trivial⟩))⟩
     ·have h := aZ c70 h
      refine dE ?_
      refine .inl ⟨rfl, ?_⟩
      simp only [lD] at h
      refine aG ?_
      refine aC ?_
      refine tr1 rfl (aM (v := .d (.lit (.int .i64 (-1)))) (aA rfl) rfl rfl) ?_
      refine aF ?_
      refine aG ?_
      refine aG ?_
      refine aC ?_
      refine tr1 rfl (aM (v := .d (.lit (.int .i64 0))) (aA rfl) rfl rfl) ?_
      refine aF ?_
      refine cF ?_
      refine dP [4, 6, 8, 13, 14, 15] (fun (s81 : Int × Int) => [(18, .d (.lit (.int .i64 s81.1))), (19, .d (.lit (.int .i64 s81.2)))]) (fun (s81 : Int × Int) => [.box b2 0 (cG o4_6_68), .fam 3 1 vs61 (d_4_60.map fun r => r.map aP), .arr w9 22 1 (vs61.map fun v => [.lit v]), .box b6 0 [.sl 1 (d_0_7_2.map aP), .lit w9], .box b66 0 (aK x64)]) (fun (k : Nat) (s81 : Int × Int) => dJ (cW r3.1 r58 d_0_7_2 k62) r3.1 r58 i_4_60 o4_6_68 d_4_60 d_0_7_2 x64 k s81.1 s81.2) (fun _ => rfl) ((-1), 0) h (bD [0, 1, 2, 3, 4] rfl rfl (aV rfl (aV rfl (bC ⟨rfl, rfl, rfl, rfl, rfl, rfl, trivial⟩)))) ?_
      rintro k82 ⟨atv_8_81, s_8_81⟩ h
      simp only [dJ] at h
      refine aG ?_
      refine aG ?_
      refine aC ?_
      refine tr1 rfl (aE (v := .d (.lit (.int .i64 s_8_81))) (aA rfl) rfl rfl) ?_
      refine tr1 rfl (aE (v := .d (.sl 1 (r3.1.map aP))) (aA rfl) rfl rfl) ?_
      refine tr1 rfl (dX (aA rfl) rfl bW.of) ?_
      refine tr1 rfl (bJ (aA rfl) rfl rfl rfl) ?_
      refine aF ?_
      refine bU rfl (fun c83 => ?_) (fun c83 => ?_)
      ·have h := bA c83 h
       refine bT ?_
       refine aG ?_
       refine cF ?_
       refine aG ?_
       obtain ⟨x84, h85, h⟩ := bind_some h
       refine dU mix 6 [4, 6, 8, 13, 14, 15, 18, 19] [(139, .d (.lit (.int .i64 x84))), (141, .d (.lit (.int .i64 x64.Player)))] ?_ ?_
       ·refine ⟨[(136, 0, .d (.sl 1 (r3.1.map aP))), (137, 1, .d (.lit (.int .i64 s_8_81))), (138, 2, .cp [.lit (.int .i64 x84)]), (139, 3, .d (.lit (.int .i64 x84))), (140, 4, .bp b66 0 3), (141, 5, .d (.lit (.int .i64 x64.Player)))], ?_, ?_⟩
        · exact ⟨by kernel_rfl, by kernel_rfl, by kernel_rfl, by kernel_rfl, by kernel_rfl, [([], []), ([], []), ([0, 1], []), ([2], []), ([], []), ([4], [])], by kernel_rfl, ⟨fun S hS => aH rfl (aS rfl (aE (v := .d (.sl 1 (r3.1.map aP))) (aA rfl) (aI hS rfl) rfl)),
      fun S hS => aH rfl (aS rfl (aE (v := .d (.lit (.int .i64 s_8_81))) (aA rfl) (aI hS rfl) rfl)),
      fun S hS => aH rfl (aS rfl (bP (aA rfl) (aI hS rfl) (aI hS rfl) bW.of (cA aP h85))),
      fun S hS => aH rfl (aS rfl (bO (aA rfl) (aI hS rfl) bH)),
      fun S hS => aH rfl (aS rfl (aU (aA rfl) (aI hS rfl) lJ)),
      fun S hS => aH rfl (aS rfl (aW (aA rfl) (aI hS rfl) (i := 4) rfl rfl bH)), trivial⟩⟩
        · exact dA (aV rfl (aV rfl (bC ⟨rfl, rfl, rfl, rfl, rfl, rfl, rfl, rfl, trivial⟩)))
       ·refine tr1 rfl (bJ (aA rfl) rfl rfl rfl) ?_
        refine aF ?_
        refine bU rfl (fun c86 => ?_) (fun c86 => ?_)
        ·have h := bA c86 h
         refine aC ?_
         refine tr1 rfl (aE (v := .d (.lit (.int .i64 s_8_81))) (aA rfl) rfl rfl) ?_
         refine tr1 rfl (aM (v := .d (.lit (.int .i64 s_8_81))) (aA rfl) rfl rfl) ?_
         refine gJ ?_
         refine aC ?_
         refine tr1 rfl (aE (v := .d (.lit (.int .i64 s_8_81))) (aA rfl) rfl rfl) ?_
         refine tr1 rfl (bK (aA rfl) rfl rfl rfl) ?_
         refine tr1 rfl (aM (v := .d (.lit (.int .i64 ((w64 (s_8_81 + 1)))))) (aA rfl) rfl rfl) ?_
         refine aF ?_
         exact ⟨(s_8_81, w64 (s_8_81 + 1)), h, bD [0, 1, 2, 3, 4] rfl rfl (aV rfl (aV rfl (bC ⟨rfl, rfl, rfl, rfl, rfl, rfl, trivial⟩)))⟩
        ·have h := aZ c86 h
         refine eH ?_
         refine aC ?_
         refine tr1 rfl (aE (v := .d (.lit (.int .i64 s_8_81))) (aA rfl) rfl rfl) ?_
         refine tr1 rfl (bK (aA rfl) rfl rfl rfl) ?_
         refine tr1 rfl (aM (v := .d (.lit (.int .i64 ((w64 (s_8_81 + 1)))))) (aA rfl) rfl rfl) ?_
         refine aF ?_
         exact ⟨(atv_8_81, w64 (s_8_81 + 1)), h, bD [0, 1, 2, 3, 4] rfl rfl (aV rfl (aV rfl (bC ⟨rfl, rfl, rfl, rfl, rfl, rfl, trivial⟩)))⟩
      ·have h := aZ c83 h
       refine dE ?_
       refine .inl ⟨rfl, ?_⟩
       simp only [fI] at h
       refine aG ?_
       refine aG ?_
       refine aC ?_
       refine tr1 rfl (aE (v := .d (.lit (.int .i64 atv_8_81))) (aA rfl) rfl rfl) ?_
       refine tr1 rfl (bJ (aA rfl) rfl rfl rfl) ?_
       refine tr1 rfl (aE (v := .d (.lit (.bool ((decide (atv_8_81 < 0)))))) (aA rfl) rfl rfl) ?_
       obtain ⟨b87, h88, h⟩ := bind_some h
       refine cC 10 [4, 6, 8, 13, 14, 15, 18] 156 b87 ?_ ?_
       ·refine bG (decide (atv_8_81 < 0)) (fun c112 => ?_) (fun c112 => ?_)
        ·have h88 := bA c112 h88
         refine aN rfl rfl (aA rfl) rfl (aA rfl) rfl c112 ?_
         refine aN rfl rfl (aA rfl) rfl (aA rfl) rfl c112 ?_
         refine aN rfl rfl (aA rfl) rfl (aA rfl) rfl c112 ?_
         refine aN rfl rfl (aA rfl) rfl (aA rfl) rfl c112 ?_
         refine aN rfl rfl (aA rfl) rfl (aA rfl) rfl c112 ?_
         refine aN rfl rfl (aA rfl) rfl (aA rfl) rfl c112 ?_
         refine aN rfl rfl (aA rfl) rfl (aA rfl) rfl c112 ?_
         refine aN rfl rfl (aA rfl) rfl (aA rfl) rfl c112 ?_
         refine aN rfl rfl (aA rfl) rfl (aA rfl) rfl c112 ?_
         refine tr1 rfl (bM (v := .d (.lit (.bool true))) (aA rfl) rfl c112 rfl rfl) ?_
         have h88 := Option.some.inj h88
         subst h88
         refine aF (bB rfl ⟨rfl, rfl, rfl, rfl, rfl, rfl, rfl, trivial⟩ rfl)
        ·have h88 := aZ c112 h88
         refine aL rfl rfl (aA rfl) rfl c112 (aE (v := .d (.lit (.int .i64 atv_8_81))) (aA rfl) rfl rfl) ?_
         refine aL rfl rfl (aA rfl) rfl c112 (aU (aA rfl) rfl jI) ?_
         refine aL rfl rfl (aA rfl) rfl c112 (aW (aA rfl) rfl (i := 4) rfl rfl bH) ?_
         refine aL rfl rfl (aA rfl) rfl c112 (bK (aA rfl) rfl rfl rfl) ?_
         refine aL rfl rfl (aA rfl) rfl c112 (zQ (aA rfl) rfl Try.runUnderlying3 Try.runUnderlying45) ?_
         obtain ⟨u113, h114, h88⟩ := bind_some h88
         refine aL rfl rfl (aA rfl) rfl c112 (zS (aA rfl) rfl rfl (sW h114)) ?_
         refine aL rfl rfl (aA rfl) rfl c112 (aU (aA rfl) rfl gS) ?_
         refine aL rfl rfl (aA rfl) rfl c112 (aW (aA rfl) rfl (i := 4) rfl rfl bH) ?_
         refine aL rfl rfl (aA rfl) rfl c112 (bJ (aA rfl) rfl rfl rfl) ?_
         refine tr1 rfl (bL (v := .d (.lit (.bool ((!decide ((atv_8_81.fdiv (2 ^ (min (IntKind.u64.wrap (w64 (x64.Round + 1))).toNat 64))) = x64.Place)))))) (aA rfl) rfl c112 rfl rfl) ?_
         have h88 := Option.some.inj h88
         subst h88
         refine aF (bB rfl ⟨rfl, rfl, rfl, rfl, rfl, rfl, rfl, trivial⟩ rfl)
       ·refine aF ?_
        refine bU rfl (fun c89 => ?_) (fun c89 => ?_)
        ·have h := bA c89 h
         refine aG ?_
         refine aC ?_
         refine tr1 rfl (eP (aA rfl) wS (zs := [.sl 1 ((([] : List Int)).map aP), .sl 1 ((([] : List (List Int))).map kR)]) rfl rfl rfl rfl (es := [.sl 1 ((([] : List Int)).map aP), .sl 1 ((([] : List (List Int))).map kR)]) rfl) ?_
         refine tr1 rfl (cJ (i := 0) rfl rfl rfl rfl rfl Try.sizeOf89 rfl (aA rfl) (Nat.le_of_ble_eq_true rfl) (ds' := (cG (aQ.mk ([] : List Int) ([] : List (List Int))))) rfl) ?_
         refine tr1 rfl (aM (v := .d (.lit (.bool false))) (aA rfl) rfl rfl) ?_
         refine aF ?_
         have h := Option.some.inj h
         subst h
         exact bQ ⟨rfl, _, [.box b2 0 (cG (aQ.mk ([] : List Int) ([] : List (List Int)))), .fam 3 1 vs61 (d_4_60.map fun r => r.map aP), .arr w9 22 1 (vs61.map fun v => [.lit v]), .box b6 0 [.sl 1 (d_0_7_2.map aP), .lit w9], .box b66 0 (aK x64)], .two (.cell 4 89 rfl (i := 0) rfl tR (es := (cG (aQ.mk ([] : List Int) ([] : List (List Int))))) rfl rfl) (.tmp 5 (v := .d (.lit (.bool false))) rfl), .refl _, .same _⟩
        ·have h := aZ c89 h
         refine bT ?_
         refine aG ?_
         refine aC ?_
         refine tr1 rfl (aM (v := .d (.lit (.int .i64 0))) (aA rfl) rfl rfl) ?_
         refine aF ?_
         refine xB ?_
         refine dP [4, 6, 8, 13, 14, 15, 18] (fun (s90 : Int × aQ × (List (List Int)) × (List Value)) => [(20, .d (.lit (.int .i64 s90.1)))]) (fun (s90 : Int × aQ × (List (List Int)) × (List Value)) => [.box b2 0 (cG s90.2.1), .fam 3 1 s90.2.2.2 (s90.2.2.1.map fun r => r.map aP), .arr w9 22 1 (s90.2.2.2.map fun v => [.lit v]), .box b6 0 [.sl 1 (d_0_7_2.map aP), .lit w9], .box b66 0 (aK x64)]) (fun (k : Nat) (s90 : Int × aQ × (List (List Int)) × (List Value)) => fC (cW r3.1 r58 d_0_7_2 k62) r3.1 r58 i_4_60 atv_8_81 d_0_7_2 x64 k s90.1 s90.2.1 s90.2.2.1) (fun _ => rfl) (0, o4_6_68, d_4_60, vs61) h (bD [0, 1, 2, 3, 4] rfl rfl (aV rfl (bC ⟨rfl, rfl, rfl, rfl, rfl, rfl, rfl, trivial⟩))) ?_
         rintro k92 ⟨r_10_90, o4_10_90, d_10_90, vs91⟩ h
         simp only [fC] at h
         refine aG ?_
         refine aG ?_
         refine aC ?_
         refine tr1 rfl (aE (v := .d (.lit (.int .i64 r_10_90))) (aA rfl) rfl rfl) ?_
         refine tr1 rfl (aU (aA rfl) rfl jI) ?_
         refine tr1 rfl (aW (aA rfl) rfl (i := 4) rfl rfl bH) ?_
         refine tr1 rfl (bJ (aA rfl) rfl rfl rfl) ?_
         refine aF ?_
         refine bU rfl (fun c93 => ?_) (fun c93 => ?_)
         ·have h := bA c93 h
          refine bT ?_
          refine aG ?_
          refine cF ?_
          refine aG ?_
          refine aC ?_
          refine tr1 rfl (aE (v := .d (.lit (.int .i64 atv_8_81))) (aA rfl) rfl rfl) ?_
          refine tr1 rfl (aE (v := .d (.lit (.int .i64 r_10_90))) (aA rfl) rfl rfl) ?_
          refine tr1 rfl (bK (aA rfl) rfl rfl rfl) ?_
          refine tr1 rfl (zQ (aA rfl) rfl Try.runUnderlying3 Try.runUnderlying45) ?_
          obtain ⟨u94, h95, h⟩ := bind_some h
          refine tr1 rfl (zS (aA rfl) rfl rfl (sW h95)) ?_
          refine tr1 rfl (aM (v := .d (.lit (.int .i64 ((atv_8_81.fdiv (2 ^ (min (IntKind.u64.wrap (w64 (r_10_90 + 1))).toNat 64))))))) (aA rfl) rfl rfl) ?_
          refine aF ?_
          refine aG ?_
          refine aG ?_
          obtain ⟨x96, h97, h⟩ := bind_some h
          obtain ⟨x98, h99, h⟩ := bind_some h
          obtain ⟨b100, h101, h⟩ := bind_some h
          refine dU mix 22 [4, 6, 8, 13, 14, 15, 18, 20, 21] [(190, .d (.lit (.bool b100)))] ?_ ?_
          ·refine bG (!decide (x98 = (-2))) (fun c102 => ?_) (fun c102 => ?_)
           ·have h101 := bA c102 h101
            obtain ⟨x103, h104, h101⟩ := bind_some h101
            obtain ⟨x105, h106, h101⟩ := bind_some h101
            have h101 := Option.some.inj h101
            subst h101
            refine ⟨[(169, 0, .bp b6 0 1), (170, 1, .d (.lit w9)), (171, 2, .d (.lit (.int .i64 r_10_90))), (172, 3, .ep w9 1 r_10_90.toNat 0), (173, 4, .d (.lit (oQ vs91 r_10_90))), (174, 5, .d (.lit (.int .i64 ((atv_8_81.fdiv (2 ^ (min (IntKind.u64.wrap (w64 (r_10_90 + 1))).toNat 64))))))), (175, 6, .ep (oQ vs91 r_10_90) 1 (atv_8_81.fdiv (2 ^ (min (IntKind.u64.wrap (w64 (r_10_90 + 1))).toNat 64))).toNat 0), (176, 7, .d (.lit (.int .i64 x98))), (177, 8, .d (.lit (.bool ((!decide (x98 = (-2))))))), (178, 9, .d (.lit (.bool ((!decide (x98 = (-2))))))), (179, 10, .bp b6 0 1), (180, 11, .d (.lit w9)), (181, 12, .d (.lit (.int .i64 r_10_90))), (182, 13, .ep w9 1 r_10_90.toNat 0), (183, 14, .d (.lit (oQ vs91 r_10_90))), (184, 15, .d (.lit (.int .i64 ((atv_8_81.fdiv (2 ^ (min (IntKind.u64.wrap (w64 (r_10_90 + 1))).toNat 64))))))), (185, 16, .ep (oQ vs91 r_10_90) 1 (atv_8_81.fdiv (2 ^ (min (IntKind.u64.wrap (w64 (r_10_90 + 1))).toNat 64))).toNat 0), (186, 17, .d (.lit (.int .i64 x105))), (187, 18, .bp b66 0 3), (188, 19, .d (.lit (.int .i64 x64.Player))), (189, 20, .d (.lit (.bool ((!decide (x105 = x64.Player)))))), (190, 21, .d (.lit (.bool ((!decide (x105 = x64.Player))))))], ?_, ?_⟩
            · exact ⟨by kernel_rfl, by kernel_rfl, by kernel_rfl, by kernel_rfl, by kernel_rfl, [([], []), ([0], []), ([], []), ([1, 2], []), ([3], []), ([], []), ([4, 5], []), ([6], []), ([7], []), ([8], []), ([9], []), ([9, 10], []), ([9], []), ([9, 11, 12], []), ([9, 13], []), ([9], []), ([9, 14, 15], []), ([9, 16], []), ([9], []), ([9, 18], []), ([9, 17, 19], []), ([9, 20], [])], by kernel_rfl, ⟨fun S hS => aH rfl (aS rfl (aU (aA rfl) (aI hS rfl) qL)),
      fun S hS => aH rfl (aS rfl (aW (aA rfl) (aI hS rfl) (i := 3) rfl rfl wK)),
      fun S hS => aH rfl (aS rfl (aE (v := .d (.lit (.int .i64 r_10_90))) (aA rfl) (aI hS rfl) rfl)),
      fun S hS => aH rfl (aS rfl (pR (m := 2) (f := 1) (aA rfl) (aI hS rfl) rfl rfl (aI hS rfl) wZ.of h97)),
      fun S hS => aH rfl (aS rfl (qS (m := 2) (f := 1) (aA rfl) (aI hS rfl) rfl rfl h97 dC)),
      fun S hS => aH rfl (aS rfl (aE (v := .d (.lit (.int .i64 ((atv_8_81.fdiv (2 ^ (min (IntKind.u64.wrap (w64 (r_10_90 + 1))).toNat 64))))))) (aA rfl) (aI hS rfl) rfl)),
      fun S hS => aH rfl (aS rfl (qR (f := 1) (g := aP) (aA rfl) (aI hS rfl) rfl h97 (aI hS rfl) bW.of h99)),
      fun S hS => aH rfl (aS rfl (vC (f := 1) (g := aP) (aA rfl) (aI hS rfl) rfl h97 h99 rfl bH)),
      fun S hS => aH rfl (aS rfl (bJ (aA rfl) (aI hS rfl) rfl rfl)),
      fun S hS => aH rfl (aS rfl (aE (v := .d (.lit (.bool ((!decide (x98 = (-2))))))) (aA rfl) (aI hS rfl) rfl)),
      fun S hS => aH rfl (bF rfl rfl (aA rfl) (aT hS rfl) c102 (aU (aA rfl) (aI hS rfl) qL)),
      fun S hS => aH rfl (bF rfl rfl (aA rfl) (aT hS rfl) c102 (aW (aA rfl) (aI hS rfl) (i := 3) rfl rfl wK)),
      fun S hS => aH rfl (bF rfl rfl (aA rfl) (aT hS rfl) c102 (aE (v := .d (.lit (.int .i64 r_10_90))) (aA rfl) (aI hS rfl) rfl)),
      fun S hS => aH rfl (bF rfl rfl (aA rfl) (aT hS rfl) c102 (pR (m := 2) (f := 1) (aA rfl) (aI hS rfl) rfl rfl (aI hS rfl) wZ.of h104)),
      fun S hS => aH rfl (bF rfl rfl (aA rfl) (aT hS rfl) c102 (qS (m := 2) (f := 1) (aA rfl) (aI hS rfl) rfl rfl h104 dC)),
      fun S hS => aH rfl (bF rfl rfl (aA rfl) (aT hS rfl) c102 (aE (v := .d (.lit (.int .i64 ((atv_8_81.fdiv (2 ^ (min (IntKind.u64.wrap (w64 (r_10_90 + 1))).toNat 64))))))) (aA rfl) (aI hS rfl) rfl)),
      fun S hS => aH rfl (bF rfl rfl (aA rfl) (aT hS rfl) c102 (qR (f := 1) (g := aP) (aA rfl) (aI hS rfl) rfl h104 (aI hS rfl) bW.of h106)),
      fun S hS => aH rfl (bF rfl rfl (aA rfl) (aT hS rfl) c102 (vC (f := 1) (g := aP) (aA rfl) (aI hS rfl) rfl h104 h106 rfl bH)),
      fun S hS => aH rfl (bF rfl rfl (aA rfl) (aT hS rfl) c102 (aU (aA rfl) (aI hS rfl) lJ)),
      fun S hS => aH rfl (bF rfl rfl (aA rfl) (aT hS rfl) c102 (aW (aA rfl) (aI hS rfl) (i := 4) rfl rfl bH)),
      fun S hS => aH rfl (bF rfl rfl (aA rfl) (aT hS rfl) c102 (bJ (aA rfl) (aI hS rfl) (aI hS rfl) rfl)),
      fun S hS => aH rfl (aS rfl (bM (v := .d (.lit (.bool ((!decide (x105 = x64.Player)))))) (aA rfl) (aI hS rfl) c102 (aI hS rfl) rfl)), trivial⟩⟩
            · exact dA (aV rfl (bC ⟨rfl, rfl, rfl, rfl, rfl, rfl, rfl, rfl, rfl, trivial⟩))
           ·have h101 := aZ c102 h101
            have h101 := Option.some.inj h101
            subst h101
            refine ⟨[(169, 0, .bp b6 0 1), (170, 1, .d (.lit w9)), (171, 2, .d (.lit (.int .i64 r_10_90))), (172, 3, .ep w9 1 r_10_90.toNat 0), (173, 4, .d (.lit (oQ vs91 r_10_90))), (174, 5, .d (.lit (.int .i64 ((atv_8_81.fdiv (2 ^ (min (IntKind.u64.wrap (w64 (r_10_90 + 1))).toNat 64))))))), (175, 6, .ep (oQ vs91 r_10_90) 1 (atv_8_81.fdiv (2 ^ (min (IntKind.u64.wrap (w64 (r_10_90 + 1))).toNat 64))).toNat 0), (176, 7, .d (.lit (.int .i64 x98))), (177, 8, .d (.lit (.bool ((!decide (x98 = (-2))))))), (178, 9, .d (.lit (.bool ((!decide (x98 = (-2))))))), (179, 10, .tup []), (180, 11, .tup []), (181, 12, .tup []), (182, 13, .tup []), (183, 14, .tup []), (184, 15, .tup []), (185, 16, .tup []), (186, 17, .tup []), (187, 18, .tup []), (188, 19, .tup []), (189, 20, .tup []), (190, 21, .d (.lit (.bool false)))], ?_, ?_⟩
            · exact ⟨by kernel_rfl, by kernel_rfl, by kernel_rfl, by kernel_rfl, by kernel_rfl, [([], []), ([0], []), ([], []), ([1, 2], []), ([3], []), ([], []), ([4, 5], []), ([6], []), ([7], []), ([8], []), ([9], []), ([9, 10], []), ([9], []), ([9, 11, 12], []), ([9, 13], []), ([9], []), ([9, 14, 15], []), ([9, 16], []), ([9], []), ([9, 18], []), ([9, 17, 19], []), ([9, 20], [])], by kernel_rfl, ⟨fun S hS => aH rfl (aS rfl (aU (aA rfl) (aI hS rfl) qL)),
      fun S hS => aH rfl (aS rfl (aW (aA rfl) (aI hS rfl) (i := 3) rfl rfl wK)),
      fun S hS => aH rfl (aS rfl (aE (v := .d (.lit (.int .i64 r_10_90))) (aA rfl) (aI hS rfl) rfl)),
      fun S hS => aH rfl (aS rfl (pR (m := 2) (f := 1) (aA rfl) (aI hS rfl) rfl rfl (aI hS rfl) wZ.of h97)),
      fun S hS => aH rfl (aS rfl (qS (m := 2) (f := 1) (aA rfl) (aI hS rfl) rfl rfl h97 dC)),
      fun S hS => aH rfl (aS rfl (aE (v := .d (.lit (.int .i64 ((atv_8_81.fdiv (2 ^ (min (IntKind.u64.wrap (w64 (r_10_90 + 1))).toNat 64))))))) (aA rfl) (aI hS rfl) rfl)),
      fun S hS => aH rfl (aS rfl (qR (f := 1) (g := aP) (aA rfl) (aI hS rfl) rfl h97 (aI hS rfl) bW.of h99)),
      fun S hS => aH rfl (aS rfl (vC (f := 1) (g := aP) (aA rfl) (aI hS rfl) rfl h97 h99 rfl bH)),
      fun S hS => aH rfl (aS rfl (bJ (aA rfl) (aI hS rfl) rfl rfl)),
      fun S hS => aH rfl (aS rfl (aE (v := .d (.lit (.bool ((!decide (x98 = (-2))))))) (aA rfl) (aI hS rfl) rfl)),
      fun S hS => aH rfl (bE rfl rfl (aA rfl) rfl (aA rfl) (aT hS rfl) c102),
      fun S hS => aH rfl (bE rfl rfl (aA rfl) rfl (aA rfl) (aT hS rfl) c102),
      fun S hS => aH rfl (bE rfl rfl (aA rfl) rfl (aA rfl) (aT hS rfl) c102),
      fun S hS => aH rfl (bE rfl rfl (aA rfl) rfl (aA rfl) (aT hS rfl) c102),
      fun S hS => aH rfl (bE rfl rfl (aA rfl) rfl (aA rfl) (aT hS rfl) c102),
      fun S hS => aH rfl (bE rfl rfl (aA rfl) rfl (aA rfl) (aT hS rfl) c102),
      fun S hS => aH rfl (bE rfl rfl (aA rfl) rfl (aA rfl) (aT hS rfl) c102),
      fun S hS => aH rfl (bE rfl rfl (aA rfl) rfl (aA rfl) (aT hS rfl) c102),
      fun S hS => aH rfl (bE rfl rfl (aA rfl) rfl (aA rfl) (aT hS rfl) c102),
      fun S hS => aH rfl (bE rfl rfl (aA rfl) rfl (aA rfl) (aT hS rfl) c102),
      fun S hS => aH rfl (bE rfl rfl (aA rfl) rfl (aA rfl) (aT hS rfl) c102),
      fun S hS => aH rfl (aS rfl (bL (v := .d (.lit (.bool false))) (aA rfl) (aI hS rfl) c102 rfl rfl)), trivial⟩⟩
            · exact dA (aV rfl (bC ⟨rfl, rfl, rfl, rfl, rfl, rfl, rfl, rfl, rfl, trivial⟩))
          ·refine aF ?_
           refine bU rfl (fun c107 => ?_) (fun c107 => ?_)
           ·have h := bA c107 h
            refine aG ?_
            refine aC ?_
            refine tr1 rfl (eP (aA rfl) wS (zs := [.sl 1 ((([] : List Int)).map aP), .sl 1 ((([] : List (List Int))).map kR)]) rfl rfl rfl rfl (es := [.sl 1 ((([] : List Int)).map aP), .sl 1 ((([] : List (List Int))).map kR)]) rfl) ?_
            refine tr1 rfl (cJ (i := 0) rfl rfl rfl rfl rfl Try.sizeOf89 rfl (aA rfl) (Nat.le_of_ble_eq_true rfl) (ds' := (cG (aQ.mk ([] : List Int) ([] : List (List Int))))) rfl) ?_
            refine tr1 rfl (aM (v := .d (.lit (.bool false))) (aA rfl) rfl rfl) ?_
            refine aF ?_
            have h := Option.some.inj h
            subst h
            exact bQ ⟨rfl, _, [.box b2 0 (cG (aQ.mk ([] : List Int) ([] : List (List Int)))), .fam 3 1 vs91 (d_10_90.map fun r => r.map aP), .arr w9 22 1 (vs91.map fun v => [.lit v]), .box b6 0 [.sl 1 (d_0_7_2.map aP), .lit w9], .box b66 0 (aK x64)], .two (.cell 4 89 rfl (i := 0) rfl tR (es := (cG (aQ.mk ([] : List Int) ([] : List (List Int))))) rfl rfl) (.tmp 5 (v := .d (.lit (.bool false))) rfl), .refl _, .same _⟩
           ·have h := aZ c107 h
            refine bT ?_
            obtain ⟨x108, h109, h⟩ := bind_some h
            refine dU mix 8 [4, 6, 8, 13, 14, 15, 18, 20] [(196, .d (.lit (oQ vs91 r_10_90))), (197, .d (.lit (.int .i64 ((atv_8_81.fdiv (2 ^ (min (IntKind.u64.wrap (w64 (r_10_90 + 1))).toNat 64))))))), (199, .d (.lit (.int .i64 x64.Player)))] ?_ ?_
            ·refine ⟨[(192, 0, .bp b6 0 1), (193, 1, .d (.lit w9)), (194, 2, .d (.lit (.int .i64 r_10_90))), (195, 3, .ep w9 1 r_10_90.toNat 0), (196, 4, .d (.lit (oQ vs91 r_10_90))), (197, 5, .d (.lit (.int .i64 ((atv_8_81.fdiv (2 ^ (min (IntKind.u64.wrap (w64 (r_10_90 + 1))).toNat 64))))))), (198, 6, .bp b66 0 3), (199, 7, .d (.lit (.int .i64 x64.Player)))], ?_, ?_⟩
             · exact ⟨by kernel_rfl, by kernel_rfl, by kernel_rfl, by kernel_rfl, by kernel_rfl, [([], []), ([0], []), ([], []), ([1, 2], []), ([3], []), ([], []), ([], []), ([6], [])], by kernel_rfl, ⟨fun S hS => aH rfl (aS rfl (aU (aA rfl) (aI hS rfl) qL)),
      fun S hS => aH rfl (aS rfl (aW (aA rfl) (aI hS rfl) (i := 3) rfl rfl wK)),
      fun S hS => aH rfl (aS rfl (aE (v := .d (.lit (.int .i64 r_10_90))) (aA rfl) (aI hS rfl) rfl)),
      fun S hS => aH rfl (aS rfl (pR (m := 2) (f := 1) (aA rfl) (aI hS rfl) rfl rfl (aI hS rfl) wZ.of h109)),
      fun S hS => aH rfl (aS rfl (qS (m := 2) (f := 1) (aA rfl) (aI hS rfl) rfl rfl h109 dC)),
      fun S hS => aH rfl (aS rfl (aE (v := .d (.lit (.int .i64 ((atv_8_81.fdiv (2 ^ (min (IntKind.u64.wrap (w64 (r_10_90 + 1))).toNat 64))))))) (aA rfl) (aI hS rfl) rfl)),
      fun S hS => aH rfl (aS rfl (aU (aA rfl) (aI hS rfl) lJ)),
      fun S hS => aH rfl (aS rfl (aW (aA rfl) (aI hS rfl) (i := 4) rfl rfl bH)), trivial⟩⟩
             · exact dA (aV rfl (aV rfl (aV rfl (bC ⟨rfl, rfl, rfl, rfl, rfl, rfl, rfl, rfl, trivial⟩))))
            ·obtain ⟨x110, h111, h⟩ := bind_some h
             refine tr1 rfl (qR (f := 1) (g := aP) (aA rfl) rfl rfl h109 rfl bW.of h111) ?_
             refine tr1 rfl (aEa (f := 1) (g := aP) rfl rfl h109 h111 rfl rfl rfl Try.sizeOf3 rfl (aA rfl) (Nat.le_of_ble_eq_true rfl) (a' := x64.Player) rfl (c' := (d_10_90.set r_10_90.toNat (x108.set (atv_8_81.fdiv (2 ^ (min (IntKind.u64.wrap (w64 (r_10_90 + 1))).toNat 64))).toNat x64.Player))) rfl) ?_
             refine gJ ?_
             refine aC ?_
             refine tr1 rfl (aE (v := .d (.lit (.int .i64 r_10_90))) (aA rfl) rfl rfl) ?_
             refine tr1 rfl (bK (aA rfl) rfl rfl rfl) ?_
             refine tr1 rfl (aM (v := .d (.lit (.int .i64 ((w64 (r_10_90 + 1)))))) (aA rfl) rfl rfl) ?_
             refine aF ?_
             exact ⟨(w64 (r_10_90 + 1), o4_10_90, (d_10_90.set r_10_90.toNat (x108.set (atv_8_81.fdiv (2 ^ (min (IntKind.u64.wrap (w64 (r_10_90 + 1))).toNat 64))).toNat x64.Player)), vs91), h, bD [0, 1, 2, 3, 4] rfl rfl (aV rfl (bC ⟨rfl, rfl, rfl, rfl, rfl, rfl, rfl, trivial⟩))⟩
         ·have h := aZ c93 h
          refine dE ?_
          refine .inl ⟨rfl, ?_⟩
          simp only [mW] at h
          simp only [iH] at h
          refine aC ?_
          refine tr1 rfl (aE (v := .d (.lit (.int .i64 i_4_60))) (aA rfl) rfl rfl) ?_
          refine tr1 rfl (bK (aA rfl) rfl rfl rfl) ?_
          refine tr1 rfl (aM (v := .d (.lit (.int .i64 ((w64 (i_4_60 + 1)))))) (aA rfl) rfl rfl) ?_
          refine aF ?_
          exact ⟨(w64 (i_4_60 + 1), o4_10_90, d_10_90, vs91), h, bD [0, 1, 2, 3] rfl rfl (aV rfl (bC ⟨rfl, rfl, rfl, rfl, trivial⟩))⟩
   ·have h := aZ c63 h
    refine dE ?_
    refine .inl ⟨rfl, ?_⟩
    simp only [nN] at h
    refine aG ?_
    refine aC ?_
    refine tr1 rfl (bR (aA rfl) rfl (i := 3) rfl tR (es := [.sl 1 (d_0_7_2.map aP), .lit w9]) rfl rfl) ?_
    refine tr1 rfl (cJ (i := 0) rfl rfl rfl rfl rfl Try.sizeOf89 rfl (aA rfl) (Nat.le_of_ble_eq_true rfl) (ds' := [.sl 1 (d_0_7_2.map aP), .lit w9]) rfl) ?_
    refine tr1 rfl (aM (v := .d (.lit (.bool true))) (aA rfl) rfl rfl) ?_
    refine aF ?_
    have h := Option.some.inj h
    subst h
    exact bQ ⟨rfl, _, [.box b2 0 [.sl 1 (d_0_7_2.map aP), .lit w9], .fam 3 1 vs61 (d_4_60.map fun r => r.map aP), .arr w9 22 1 (vs61.map fun v => [.lit v]), .box b6 0 [.sl 1 (d_0_7_2.map aP), .lit w9]], .two (.cell 4 89 rfl (i := 0) rfl tR (es := [.sl 1 (d_0_7_2.map aP), .lit w9]) rfl rfl) (.tmp 5 (v := .d (.lit (.bool true))) rfl), .refl _, sD (.cons (.agg (dvc (.same _) (dvc (aKn 2 1 rfl rfl (h := kR) (fun _ => rfl)) dvn))) (.cons (.same _) .nil))⟩

theorem vU (t_0 : aO) (l_1 : List aD) {r : Int} (h : dQ t_0 l_1 = some r) : Fn Try.prog 29 [.agg (aR t_0), .d (.sl 5 (l_1.map aK))] (.d (.lit (.int .i64 r))) := by
 unfold dQ at h
 refine Fn.of_tr Try.func29 rfl (rs := [.tmp 4]) Try.results29 Try.ntmps29 (Nat.le_of_ble_eq_true rfl) ?_
 refine aG ?_
 refine aC ?_
 refine bZ rfl (gF (v := .agg (aR t_0)) (aA rfl) rfl rfl rfl) ?_
 rintro _ ⟨b1, rfl⟩
 refine tr1 rfl (aM (v := .d (.lit (.int .i64 0))) (aA rfl) rfl rfl) ?_
 refine aF ?_
 refine aG ?_
 refine aG ?_
 refine aC ?_
 refine tr1 rfl (bR (aA rfl) rfl (i := 0) rfl eB (es := (aR t_0)) rfl rfl) ?_
 obtain ⟨r2, h3, h⟩ := bind_some h
 refine tr1 rfl (cR (aA rfl) (.func _ _ Try.call53) rfl rfl (BVs.refl _ _) (vL _ h3) rfl) ?_
 refine tr1 rfl (fS (aA rfl) rfl) ?_
 refine aF ?_
 refine bU rfl (fun c4 => ?_) (fun c4 => ?_)
 ·have h := bA c4 h
  refine aG ?_
  refine aC ?_
  refine tr1 rfl (aM (v := .d (.lit (.int .i64 70))) (aA rfl) rfl rfl) ?_
  refine aF ?_
  have h := Option.some.inj h
  subst h
  refine cS (cP (cT (l := [4]) ⟨rfl, trivial⟩)) ?_
  exact bQ ⟨rfl, _, .one _, rfl, rfl⟩
 ·have h := aZ c4 h
  refine bT ?_
  refine aG ?_
  refine aG ?_
  refine aC ?_
  refine tr1 rfl (aE (v := .d (.sl 5 (l_1.map aK))) (aA rfl) rfl rfl) ?_
  refine tr1 rfl (dX (aA rfl) rfl eA.of) ?_
  refine tr1 rfl (bJ (aA rfl) rfl rfl rfl) ?_
  refine aF ?_
  refine bU rfl (fun c5 => ?_) (fun c5 => ?_)
  ·have h := bA c5 h
   refine aG ?_
   refine aC ?_
   refine tr1 rfl (aM (v := .d (.lit (.int .i64 71))) (aA rfl) rfl rfl) ?_
   refine aF ?_
   have h := Option.some.inj h
   subst h
   refine cS (cP (cT (l := [4]) ⟨rfl, trivial⟩)) ?_
   exact bQ ⟨rfl, _, .one _, rfl, rfl⟩
  ·have h := aZ c5 h
   refine bT ?_
   refine aG ?_
   refine aG ?_
   refine aC ?_
   refine tr1 rfl (aM (v := .d (.lit (.int .i64 0))) (aA rfl) rfl rfl) ?_
   refine aF ?_
   refine cF ?_
   refine dP [1, 2] (fun (s6 : Int) => [(5, .d (.lit (.int .i64 s6)))]) (fun (s6 : Int) => [.box b1 0 (aR t_0)]) (fun (k : Nat) (s6 : Int) => fB l_1 t_0 k s6) (fun _ => rfl) (0) h (bD [0] rfl rfl (aV rfl (bC ⟨rfl, rfl, trivial⟩))) ?_
   rintro k7 i_0_6 h
   simp only [fB] at h
   refine aG ?_
   refine aG ?_
   refine aC ?_
   refine tr1 rfl (aE (v := .d (.lit (.int .i64 i_0_6))) (aA rfl) rfl rfl) ?_
   refine tr1 rfl (aE (v := .d (.sl 5 (l_1.map aK))) (aA rfl) rfl rfl) ?_
   refine tr1 rfl (dX (aA rfl) rfl eA.of) ?_
   refine tr1 rfl (bJ (aA rfl) rfl rfl rfl) ?_
   refine aF ?_
   refine bU rfl (fun c8 => ?_) (fun c8 => ?_)
   ·have h := bA c8 h
    refine bT ?_
    refine aG ?_
    refine cF ?_
    refine aG ?_
    obtain ⟨x9, h10, h⟩ := bind_some h
    refine dU mix 5 [1, 2, 5] [(20, .agg (aR t_0)), (24, .agg (aK x9))] ?_ ?_
    ·refine ⟨[(20, 0, .agg (aR t_0)), (21, 1, .d (.sl 5 (l_1.map aK))), (22, 2, .d (.lit (.int .i64 i_0_6))), (23, 3, .cp [.lit (.int .i64 x9.Kind), .lit (.int .i64 x9.Round), .lit (.int .i64 x9.Place), .lit (.int .i64 x9.Player), .lit (.int .i64 x9.Old)]), (24, 4, .agg (aK x9))], ?_, ?_⟩
     · exact ⟨by kernel_rfl, by kernel_rfl, by kernel_rfl, by kernel_rfl, by kernel_rfl, [([], []), ([], []), ([], []), ([1, 2], []), ([3], [])], by kernel_rfl, ⟨fun S hS => aH rfl (aS rfl (bR (aA rfl) (aI hS rfl) (i := 0) rfl eB (es := (aR t_0)) rfl rfl)),
      fun S hS => aH rfl (aS rfl (aE (v := .d (.sl 5 (l_1.map aK))) (aA rfl) (aI hS rfl) rfl)),
      fun S hS => aH rfl (aS rfl (aE (v := .d (.lit (.int .i64 i_0_6))) (aA rfl) (aI hS rfl) rfl)),
      fun S hS => aH rfl (aS rfl (bP (aA rfl) (aI hS rfl) (aI hS rfl) eA.of (cA aK h10))),
      fun S hS => aH rfl (aS rfl (jN (aA rfl) (aI hS rfl) iZ (es := (aK x9)) rfl rfl)), trivial⟩⟩
     · exact dA (aV rfl (aV rfl (bC ⟨rfl, rfl, rfl, trivial⟩)))
    ·obtain ⟨r11, h12, h⟩ := bind_some h
     refine tr1 rfl (cR (aA rfl) (.func _ _ Try.call54) rfl rfl (BVs.refl _ _) (vM _ _ h12) rfl) ?_
     refine tr1 rfl (fS (aA rfl) rfl) ?_
     refine aF ?_
     refine bU rfl (fun c13 => ?_) (fun c13 => ?_)
     ·have h := bA c13 h
      refine aG ?_
      refine aC ?_
      refine tr1 rfl (aM (v := .d (.lit (.int .i64 71))) (aA rfl) rfl rfl) ?_
      refine aF ?_
      have h := Option.some.inj h
      subst h
      refine cS (cP (cT (l := [4]) ⟨rfl, trivial⟩)) ?_
      exact bQ ⟨rfl, _, .one _, rfl, rfl⟩
     ·have h := aZ c13 h
      refine eH ?_
      refine aC ?_
      refine tr1 rfl (aE (v := .d (.lit (.int .i64 i_0_6))) (aA rfl) rfl rfl) ?_
      refine tr1 rfl (bK (aA rfl) rfl rfl rfl) ?_
      refine tr1 rfl (aM (v := .d (.lit (.int .i64 ((w64 (i_0_6 + 1)))))) (aA rfl) rfl rfl) ?_
      refine aF ?_
      exact ⟨(w64 (i_0_6 + 1)), h, bD [0] rfl rfl (aV rfl (bC ⟨rfl, rfl, trivial⟩))⟩
   ·have h := aZ c8 h
    refine dE ?_
    refine .inl ⟨rfl, ?_⟩
    simp only [gV] at h
    refine aG ?_
    refine aG ?_
    refine aC ?_
    refine tr1 rfl (bR (aA rfl) rfl (i := 0) rfl eB (es := (aR t_0)) rfl rfl) ?_
    refine tr1 rfl (aE (v := .d (.sl 5 (l_1.map aK))) (aA rfl) rfl rfl) ?_
    obtain ⟨r14, h15, h⟩ := bind_some h
    refine tr1 rfl (iT (aA rfl) (.func _ _ Try.call55) rfl rfl (xH _ _ h15)) ?_
    refine tr1 rfl (aE (v := .tup [.agg (cG r14.1), .d (.lit (.bool r14.2))]) (aA rfl) rfl rfl) ?_
    refine tr1 rfl (bX (aA rfl) rfl rfl) ?_
    refine tr1 rfl (bX (aA rfl) rfl rfl) ?_
    refine bZ rfl (dZ (zs := [.sl 1 ((([] : List Int)).map aP), .sl 1 ((([] : List (List Int))).map kR)]) (aA rfl) Try.zeroValue89 rfl rfl) ?_
    rintro _ ⟨b16, rfl⟩
    refine tr1 rfl (cJ (i := 1) rfl rfl rfl rfl rfl Try.sizeOf89 rfl (aA rfl) (Nat.le_of_ble_eq_true rfl) (ds' := (cG r14.1)) rfl) ?_
    refine tr1 rfl (aM (v := .d (.lit (.bool r14.2))) (aA rfl) rfl rfl) ?_
    refine aF ?_
    refine aG ?_
    refine aC ?_
    refine tr1 rfl (aE (v := .d (.lit (.bool r14.2))) (aA rfl) rfl rfl) ?_
    refine tr1 rfl (fS (aA rfl) rfl) ?_
    refine aF ?_
    refine bU rfl (fun c17 => ?_) (fun c17 => ?_)
    ·have h := bA c17 h
     refine aG ?_
     refine aC ?_
     refine tr1 rfl (aM (v := .d (.lit (.int .i64 72))) (aA rfl) rfl rfl) ?_
     refine aF ?_
     have h := Option.some.inj h
     subst h
     refine cS (cP (cT (l := [4]) ⟨rfl, trivial⟩)) ?_
     exact bQ ⟨rfl, _, .one _, rfl, rfl⟩
    ·have h := aZ c17 h
     refine bT ?_
     refine aG ?_
     refine aC ?_
     refine tr1 rfl (aM (v := .d (.lit (.int .i64 0))) (aA rfl) rfl rfl) ?_
     refine aF ?_
     have h := Option.some.inj h
     subst h
     refine cS (cP (cT (l := [4]) ⟨rfl, trivial⟩)) ?_
     exact bQ ⟨rfl, _, .one _, rfl, rfl⟩

theorem yP (a0 : aO) (a1 : List aD) {r : (List bY) × Int} (h : pH a0 a1 = some r) : Fn Try.prog 30 [.agg (aR a0), .d (.sl 5 (a1.map aK))] ((fun x : (List bY) × Int => .tup [.d (.sl 4 (x.1.map dF)), .d (.lit (.int .i64 x.2))]) r) := sG (enc := fun x : (List bY) × Int => .tup [.d (.sl 4 (x.1.map dF)), .d (.lit (.int .i64 x.2))]) (yO a0 a1 (xD a0 a1 h (fun x => x = r) rfl))

theorem vI (a0 : aO) (a1 : List aD) (a2 : Int) (a3 : Int) {r : (List Int) × Int} (h : mP a0 a1 a2 a3 = some r) : Fn Try.prog 15 [.agg (aR a0), .d (.sl 5 (a1.map aK)), .d (.lit (.int .i64 a2)), .d (.lit (.int .i64 a3))] ((fun x : (List Int) × Int => .tup [.d (.sl 1 (x.1.map aP)), .d (.lit (.int .i64 x.2))]) r) := sG (enc := fun x : (List Int) × Int => .tup [.d (.sl 1 (x.1.map aP)), .d (.lit (.int .i64 x.2))]) (aBf a0 a1 a2 a3 (yS a0 a1 a2 a3 h (fun x => x = r) rfl))

theorem aAb (a0 : aO) (a1 : List aD) {r : Int × Int} (h : qE a0 a1 = some r) : Fn Try.prog 34 [.agg (aR a0), .d (.sl 5 (a1.map aK))] ((fun x : Int × Int => .tup [.d (.lit (.int .i64 x.1)), .d (.lit (.int .i64 x.2))]) r) := sG (enc := fun x : Int × Int => .tup [.d (.lit (.int .i64 x.1)), .d (.lit (.int .i64 x.2))]) (aAa a0 a1 (xT a0 a1 h (fun x => x = r) rfl))

theorem xG (a0 : aO) (a1 : List aD) (a2 : Int) {r : dH × Int} (h : oD a0 a1 a2 = some r) : Fn Try.prog 17 [.agg (aR a0), .d (.sl 5 (a1.map aK)), .d (.lit (.int .i64 a2))] ((fun x : dH × Int => .tup [.agg (eW x.1), .d (.lit (.int .i64 x.2))]) r) := sG (enc := fun x : dH × Int => .tup [.agg (eW x.1), .d (.lit (.int .i64 x.2))]) (xF a0 a1 a2 (vK a0 a1 a2 h (fun x => x = r) rfl))

theorem nK {r : Bool} (h : jG = some r) : Fn Try.prog 14 [] (.d (.lit (.bool r))) := by
 unfold jG at h
 refine Fn.of_tr Try.func14 rfl (rs := [.tmp 0]) Try.results14 Try.ntmps14 (Nat.le_of_ble_eq_true rfl) ?_
 refine aG ?_
 refine aC ?_
 refine tr1 rfl (aM (v := .d (.lit (.bool false))) (aA rfl) rfl rfl) ?_
 refine aF ?_
 refine aG ?_
 refine aC ?_
 obtain ⟨r1, h2, h⟩ := bind_some h
 refine tr1 rfl (iT (aA rfl) (.func _ _ Try.call43) rfl rfl (uK h2)) ?_
 refine tr1 rfl (aE (v := .tup [.agg (aR r1.1), .d (.sl 5 (r1.2.map aK))]) (aA rfl) rfl rfl) ?_
 refine tr1 rfl (bX (aA rfl) rfl rfl) ?_
 refine tr1 rfl (bX (aA rfl) rfl rfl) ?_
 refine bZ rfl (dZ (zs := [.lit (.int .i64 0), .sl 1 ((([] : List Int)).map aP)]) (aA rfl) Try.zeroValue24 rfl rfl) ?_
 rintro _ ⟨b3, rfl⟩
 refine tr1 rfl (cJ (i := 0) rfl rfl rfl rfl rfl Try.sizeOf24 rfl (aA rfl) (Nat.le_of_ble_eq_true rfl) (ds' := (aR r1.1)) rfl) ?_
 refine tr1 rfl (aM (v := .d (.sl 5 (r1.2.map aK))) (aA rfl) rfl rfl) ?_
 refine aF ?_
 refine aG ?_
 refine aC ?_
 refine tr1 rfl (bR (aA rfl) rfl (i := 0) rfl eB (es := (aR r1.1)) rfl rfl) ?_
 refine tr1 rfl (aE (v := .d (.sl 5 (r1.2.map aK))) (aA rfl) rfl rfl) ?_
 obtain ⟨r4, h5, h⟩ := bind_some h
 refine tr1 rfl (iT (aA rfl) (.func _ _ Try.call30) rfl rfl (yP _ _ h5)) ?_
 refine tr1 rfl (aE (v := .tup [.d (.sl 4 (r4.1.map dF)), .d (.lit (.int .i64 r4.2))]) (aA rfl) rfl rfl) ?_
 refine tr1 rfl (bX (aA rfl) rfl rfl) ?_
 refine tr1 rfl (bX (aA rfl) rfl rfl) ?_
 refine tr1 rfl (aM (v := .d (.sl 4 (r4.1.map dF))) (aA rfl) rfl rfl) ?_
 refine tr1 rfl (aM (v := .d (.lit (.int .i64 r4.2))) (aA rfl) rfl rfl) ?_
 refine aF ?_
 refine aG ?_
 refine aC ?_
 refine tr1 rfl (bR (aA rfl) rfl (i := 0) rfl eB (es := (aR r1.1)) rfl rfl) ?_
 refine tr1 rfl (aE (v := .d (.sl 5 (r1.2.map aK))) (aA rfl) rfl rfl) ?_
 obtain ⟨r6, h7, h⟩ := bind_some h
 refine tr1 rfl (iT (aA rfl) (.func _ _ Try.call15) rfl rfl (vI _ _ _ _ h7)) ?_
 refine tr1 rfl (aE (v := .tup [.d (.sl 1 (r6.1.map aP)), .d (.lit (.int .i64 r6.2))]) (aA rfl) rfl rfl) ?_
 refine tr1 rfl (bX (aA rfl) rfl rfl) ?_
 refine tr1 rfl (bX (aA rfl) rfl rfl) ?_
 refine tr1 rfl (aM (v := .d (.sl 1 (r6.1.map aP))) (aA rfl) rfl rfl) ?_
 refine tr1 rfl (aM (v := .d (.lit (.int .i64 r6.2))) (aA rfl) rfl rfl) ?_
 refine aF ?_
 refine aG ?_
 refine aC ?_
 refine tr1 rfl (bR (aA rfl) rfl (i := 0) rfl eB (es := (aR r1.1)) rfl rfl) ?_
 refine tr1 rfl (aE (v := .d (.sl 5 (r1.2.map aK))) (aA rfl) rfl rfl) ?_
 obtain ⟨r8, h9, h⟩ := bind_some h
 refine tr1 rfl (cR (aA rfl) (.func _ _ Try.call34) rfl rfl (BVs.refl _ _) (aAb _ _ h9) rfl) ?_
 refine tr1 rfl (aE (v := .tup [.d (.lit (.int .i64 r8.1)), .d (.lit (.int .i64 r8.2))]) (aA rfl) rfl rfl) ?_
 refine tr1 rfl (bX (aA rfl) rfl rfl) ?_
 refine tr1 rfl (bX (aA rfl) rfl rfl) ?_
 refine tr1 rfl (aM (v := .d (.lit (.int .i64 r8.1))) (aA rfl) rfl rfl) ?_
 refine tr1 rfl (aM (v := .d (.lit (.int .i64 r8.2))) (aA rfl) rfl rfl) ?_
 refine aF ?_
 refine aG ?_
 refine aC ?_
 refine tr1 rfl (bR (aA rfl) rfl (i := 0) rfl eB (es := (aR r1.1)) rfl rfl) ?_
 refine tr1 rfl (aE (v := .d (.sl 5 (r1.2.map aK))) (aA rfl) rfl rfl) ?_
 obtain ⟨r10, h11, h⟩ := bind_some h
 refine tr1 rfl (iT (aA rfl) (.func _ _ Try.call17) rfl rfl (xG _ _ _ h11)) ?_
 refine tr1 rfl (aE (v := .tup [.agg (eW r10.1), .d (.lit (.int .i64 r10.2))]) (aA rfl) rfl rfl) ?_
 refine tr1 rfl (bX (aA rfl) rfl rfl) ?_
 refine tr1 rfl (bX (aA rfl) rfl rfl) ?_
 refine bZ rfl (dZ (zs := [.lit (.int .i64 0), .lit (.int .i64 0)]) (aA rfl) Try.zeroValue39 rfl rfl) ?_
 rintro _ ⟨b12, rfl⟩
 refine tr1 rfl (cJ (i := 1) rfl rfl rfl rfl rfl Try.sizeOf39 rfl (aA rfl) (Nat.le_of_ble_eq_true rfl) (ds' := (eW r10.1)) rfl) ?_
 refine tr1 rfl (aM (v := .d (.lit (.int .i64 r10.2))) (aA rfl) rfl rfl) ?_
 refine aF ?_
 refine aG ?_
 refine aC ?_
 refine tr1 rfl (aE (v := .d (.lit (.int .i64 r4.2))) (aA rfl) rfl rfl) ?_
 refine tr1 rfl (bJ (aA rfl) rfl rfl rfl) ?_
 refine tr1 rfl (aE (v := .d (.lit (.bool ((decide (r4.2 = 0)))))) (aA rfl) rfl rfl) ?_
 obtain ⟨b13, h14, h⟩ := bind_some h
 refine cC 3 [3, 5, 7, 8, 9, 10] 44 b13 ?_ ?_
 ·refine bG (decide (r4.2 = 0)) (fun c45 => ?_) (fun c45 => ?_)
  ·have h14 := bA c45 h14
   refine aL rfl rfl (aA rfl) rfl c45 (aE (v := .d (.lit (.int .i64 r6.2))) (aA rfl) rfl rfl) ?_
   refine aL rfl rfl (aA rfl) rfl c45 (bJ (aA rfl) rfl rfl rfl) ?_
   refine tr1 rfl (bM (v := .d (.lit (.bool ((decide (r6.2 = 0)))))) (aA rfl) rfl c45 rfl rfl) ?_
   have h14 := Option.some.inj h14
   subst h14
   refine aF (bB rfl ⟨rfl, rfl, rfl, rfl, rfl, rfl, trivial⟩ rfl)
  ·have h14 := aZ c45 h14
   refine aN rfl rfl (aA rfl) rfl (aA rfl) rfl c45 ?_
   refine aN rfl rfl (aA rfl) rfl (aA rfl) rfl c45 ?_
   refine tr1 rfl (bL (v := .d (.lit (.bool false))) (aA rfl) rfl c45 rfl rfl) ?_
   have h14 := Option.some.inj h14
   subst h14
   refine aF (bB rfl ⟨rfl, rfl, rfl, rfl, rfl, rfl, trivial⟩ rfl)
 ·refine tr1 rfl (aE (v := .d (.lit (.bool b13))) (aA rfl) rfl rfl) ?_
  obtain ⟨b15, h16, h⟩ := bind_some h
  refine cC 3 [3, 5, 7, 9, 10] 48 b15 ?_ ?_
  ·refine bG (b13) (fun c44 => ?_) (fun c44 => ?_)
   ·have h16 := bA c44 h16
    refine aL rfl rfl (aA rfl) rfl c44 (aE (v := .d (.lit (.int .i64 r8.2))) (aA rfl) rfl rfl) ?_
    refine aL rfl rfl (aA rfl) rfl c44 (bJ (aA rfl) rfl rfl rfl) ?_
    refine tr1 rfl (bM (v := .d (.lit (.bool ((decide (r8.2 = 0)))))) (aA rfl) rfl c44 rfl rfl) ?_
    have h16 := Option.some.inj h16
    subst h16
    refine aF (bB rfl ⟨rfl, rfl, rfl, rfl, rfl, trivial⟩ rfl)
   ·have h16 := aZ c44 h16
    refine aN rfl rfl (aA rfl) rfl (aA rfl) rfl c44 ?_
    refine aN rfl rfl (aA rfl) rfl (aA rfl) rfl c44 ?_
    refine tr1 rfl (bL (v := .d (.lit (.bool false))) (aA rfl) rfl c44 rfl rfl) ?_
    have h16 := Option.some.inj h16
    subst h16
    refine aF (bB rfl ⟨rfl, rfl, rfl, rfl, rfl, trivial⟩ rfl)
  ·refine tr1 rfl (aE (v := .d (.lit (.bool b15))) (aA rfl) rfl rfl) ?_
   obtain ⟨b17, h18, h⟩ := bind_some h
   refine cC 3 [3, 5, 7, 9] 52 b17 ?_ ?_
   ·refine bG (b15) (fun c43 => ?_) (fun c43 => ?_)
    ·have h18 := bA c43 h18
     refine aL rfl rfl (aA rfl) rfl c43 (aE (v := .d (.lit (.int .i64 r10.2))) (aA rfl) rfl rfl) ?_
     refine aL rfl rfl (aA rfl) rfl c43 (bJ (aA rfl) rfl rfl rfl) ?_
     refine tr1 rfl (bM (v := .d (.lit (.bool ((decide (r10.2 = 0)))))) (aA rfl) rfl c43 rfl rfl) ?_
     have h18 := Option.some.inj h18
     subst h18
     refine aF (bB rfl ⟨rfl, rfl, rfl, rfl, trivial⟩ rfl)
    ·have h18 := aZ c43 h18
     refine aN rfl rfl (aA rfl) rfl (aA rfl) rfl c43 ?_
     refine aN rfl rfl (aA rfl) rfl (aA rfl) rfl c43 ?_
     refine tr1 rfl (bL (v := .d (.lit (.bool false))) (aA rfl) rfl c43 rfl rfl) ?_
     have h18 := Option.some.inj h18
     subst h18
     refine aF (bB rfl ⟨rfl, rfl, rfl, rfl, trivial⟩ rfl)
   ·refine tr1 rfl (aE (v := .d (.lit (.bool b17))) (aA rfl) rfl rfl) ?_
    obtain ⟨b19, h20, h⟩ := bind_some h
    refine cC 4 [3, 5, 7, 9] 57 b19 ?_ ?_
    ·refine bG (b17) (fun c42 => ?_) (fun c42 => ?_)
     ·have h20 := bA c42 h20
      refine aL rfl rfl (aA rfl) rfl c42 (aE (v := .d (.sl 4 (r4.1.map dF))) (aA rfl) rfl rfl) ?_
      refine aL rfl rfl (aA rfl) rfl c42 (dX (aA rfl) rfl zU.of) ?_
      refine aL rfl rfl (aA rfl) rfl c42 (bJ (aA rfl) rfl rfl rfl) ?_
      refine tr1 rfl (bM (v := .d (.lit (.bool ((decide ((r4.1.length : Int) = 7)))))) (aA rfl) rfl c42 rfl rfl) ?_
      have h20 := Option.some.inj h20
      subst h20
      refine aF (bB rfl ⟨rfl, rfl, rfl, rfl, trivial⟩ rfl)
     ·have h20 := aZ c42 h20
      refine aN rfl rfl (aA rfl) rfl (aA rfl) rfl c42 ?_
      refine aN rfl rfl (aA rfl) rfl (aA rfl) rfl c42 ?_
      refine aN rfl rfl (aA rfl) rfl (aA rfl) rfl c42 ?_
      refine tr1 rfl (bL (v := .d (.lit (.bool false))) (aA rfl) rfl c42 rfl rfl) ?_
      have h20 := Option.some.inj h20
      subst h20
      refine aF (bB rfl ⟨rfl, rfl, rfl, rfl, trivial⟩ rfl)
    ·refine tr1 rfl (aE (v := .d (.lit (.bool b19))) (aA rfl) rfl rfl) ?_
     obtain ⟨b21, h22, h⟩ := bind_some h
     refine cC 6 [3, 5, 7, 9] 64 b21 ?_ ?_
     ·refine bG (b19) (fun c39 => ?_) (fun c39 => ?_)
      ·have h22 := bA c39 h22
       refine aL rfl rfl (aA rfl) rfl c39 (aE (v := .d (.sl 4 (r4.1.map dF))) (aA rfl) rfl rfl) ?_
       obtain ⟨x40, h41, h22⟩ := bind_some h22
       refine aL rfl rfl (aA rfl) rfl c39 (bP (aA rfl) rfl rfl zU.of (cA dF h41)) ?_
       refine aL rfl rfl (aA rfl) rfl c39 (jN (aA rfl) rfl aBq (es := (dF x40)) rfl rfl) ?_
       refine aL rfl rfl (aA rfl) rfl c39 (eP (aA rfl) aDb (zs := [.lit (.int .i64 0), .lit (.int .i64 0), .lit (.int .i64 0), .lit (.int .i64 0)]) rfl rfl rfl rfl (es := [.lit (.int .i64 1), .lit (.int .i64 0), .lit (.int .i64 1), .lit (.int .i64 2)]) rfl) ?_
       refine aL rfl rfl (aA rfl) rfl c39 (wY (a := x40) (b := (bY.mk 1 0 1 2)) (aA rfl) rfl rfl rfl rfl Try.eqGuardType57 aGo) ?_
       refine tr1 rfl (bM (v := .d (.lit (.bool ((decide (x40 = (bY.mk 1 0 1 2))))))) (aA rfl) rfl c39 rfl rfl) ?_
       have h22 := Option.some.inj h22
       subst h22
       refine aF (bB rfl ⟨rfl, rfl, rfl, rfl, trivial⟩ rfl)
      ·have h22 := aZ c39 h22
       refine aN rfl rfl (aA rfl) rfl (aA rfl) rfl c39 ?_
       refine aN rfl rfl (aA rfl) rfl (aA rfl) rfl c39 ?_
       refine aN rfl rfl (aA rfl) rfl (aA rfl) rfl c39 ?_
       refine aN rfl rfl (aA rfl) rfl (aA rfl) rfl c39 ?_
       refine aN rfl rfl (aA rfl) rfl (aA rfl) rfl c39 ?_
       refine tr1 rfl (bL (v := .d (.lit (.bool false))) (aA rfl) rfl c39 rfl rfl) ?_
       have h22 := Option.some.inj h22
       subst h22
       refine aF (bB rfl ⟨rfl, rfl, rfl, rfl, trivial⟩ rfl)
     ·refine tr1 rfl (aE (v := .d (.lit (.bool b21))) (aA rfl) rfl rfl) ?_
      obtain ⟨b23, h24, h⟩ := bind_some h
      refine cC 6 [5, 7, 9] 71 b23 ?_ ?_
      ·refine bG (b21) (fun c36 => ?_) (fun c36 => ?_)
       ·have h24 := bA c36 h24
        refine aL rfl rfl (aA rfl) rfl c36 (aE (v := .d (.sl 4 (r4.1.map dF))) (aA rfl) rfl rfl) ?_
        obtain ⟨x37, h38, h24⟩ := bind_some h24
        refine aL rfl rfl (aA rfl) rfl c36 (bP (aA rfl) rfl rfl zU.of (cA dF h38)) ?_
        refine aL rfl rfl (aA rfl) rfl c36 (jN (aA rfl) rfl aBq (es := (dF x37)) rfl rfl) ?_
        refine aL rfl rfl (aA rfl) rfl c36 (eP (aA rfl) aDb (zs := [.lit (.int .i64 0), .lit (.int .i64 0), .lit (.int .i64 0), .lit (.int .i64 0)]) rfl rfl rfl rfl (es := [.lit (.int .i64 2), .lit (.int .i64 0), .lit (.int .i64 2), .lit (.int .i64 (-2))]) rfl) ?_
        refine aL rfl rfl (aA rfl) rfl c36 (wY (a := x37) (b := (bY.mk 2 0 2 (-2))) (aA rfl) rfl rfl rfl rfl Try.eqGuardType57 aGo) ?_
        refine tr1 rfl (bM (v := .d (.lit (.bool ((decide (x37 = (bY.mk 2 0 2 (-2)))))))) (aA rfl) rfl c36 rfl rfl) ?_
        have h24 := Option.some.inj h24
        subst h24
        refine aF (bB rfl ⟨rfl, rfl, rfl, trivial⟩ rfl)
       ·have h24 := aZ c36 h24
        refine aN rfl rfl (aA rfl) rfl (aA rfl) rfl c36 ?_
        refine aN rfl rfl (aA rfl) rfl (aA rfl) rfl c36 ?_
        refine aN rfl rfl (aA rfl) rfl (aA rfl) rfl c36 ?_
        refine aN rfl rfl (aA rfl) rfl (aA rfl) rfl c36 ?_
        refine aN rfl rfl (aA rfl) rfl (aA rfl) rfl c36 ?_
        refine tr1 rfl (bL (v := .d (.lit (.bool false))) (aA rfl) rfl c36 rfl rfl) ?_
        have h24 := Option.some.inj h24
        subst h24
        refine aF (bB rfl ⟨rfl, rfl, rfl, trivial⟩ rfl)
      ·refine tr1 rfl (aE (v := .d (.lit (.bool b23))) (aA rfl) rfl rfl) ?_
       obtain ⟨b25, h26, h⟩ := bind_some h
       refine cC 4 [7, 9] 76 b25 ?_ ?_
       ·refine bG (b23) (fun c33 => ?_) (fun c33 => ?_)
        ·have h26 := bA c33 h26
         refine aL rfl rfl (aA rfl) rfl c33 (aE (v := .d (.sl 1 (r6.1.map aP))) (aA rfl) rfl rfl) ?_
         refine aL rfl rfl (aA rfl) rfl c33 (fZ (aA rfl) bW rfl rfl (rows := ([2, 5, 7, 8]).map aP) rfl (dM (f := aP) fun _ => rfl) rfl (by decide)) ?_
         obtain ⟨r34, h35, h26⟩ := bind_some h26
         refine aL rfl rfl (aA rfl) rfl c33 (cR (aA rfl) (.func _ _ Try.call23) rfl rfl (BVs.refl _ _) (tS _ _ h35) rfl) ?_
         refine tr1 rfl (bM (v := .d (.lit (.bool r34))) (aA rfl) rfl c33 rfl rfl) ?_
         have h26 := Option.some.inj h26
         subst h26
         refine aF (bB rfl ⟨rfl, rfl, trivial⟩ rfl)
        ·have h26 := aZ c33 h26
         refine aN rfl rfl (aA rfl) rfl (aA rfl) rfl c33 ?_
         refine aN rfl rfl (aA rfl) rfl (aA rfl) rfl c33 ?_
         refine aN rfl rfl (aA rfl) rfl (aA rfl) rfl c33 ?_
         refine tr1 rfl (bL (v := .d (.lit (.bool false))) (aA rfl) rfl c33 rfl rfl) ?_
         have h26 := Option.some.inj h26
         subst h26
         refine aF (bB rfl ⟨rfl, rfl, trivial⟩ rfl)
       ·refine tr1 rfl (aE (v := .d (.lit (.bool b25))) (aA rfl) rfl rfl) ?_
        obtain ⟨b27, h28, h⟩ := bind_some h
        refine cC 3 [9] 80 b27 ?_ ?_
        ·refine bG (b25) (fun c32 => ?_) (fun c32 => ?_)
         ·have h28 := bA c32 h28
          refine aL rfl rfl (aA rfl) rfl c32 (aE (v := .d (.lit (.int .i64 r8.1))) (aA rfl) rfl rfl) ?_
          refine aL rfl rfl (aA rfl) rfl c32 (bJ (aA rfl) rfl rfl rfl) ?_
          refine tr1 rfl (bM (v := .d (.lit (.bool ((decide (r8.1 = 3)))))) (aA rfl) rfl c32 rfl rfl) ?_
          have h28 := Option.some.inj h28
          subst h28
          refine aF (bB rfl ⟨rfl, trivial⟩ rfl)
         ·have h28 := aZ c32 h28
          refine aN rfl rfl (aA rfl) rfl (aA rfl) rfl c32 ?_
          refine aN rfl rfl (aA rfl) rfl (aA rfl) rfl c32 ?_
          refine tr1 rfl (bL (v := .d (.lit (.bool false))) (aA rfl) rfl c32 rfl rfl) ?_
          have h28 := Option.some.inj h28
          subst h28
          refine aF (bB rfl ⟨rfl, trivial⟩ rfl)
        ·refine tr1 rfl (aE (v := .d (.lit (.bool b27))) (aA rfl) rfl rfl) ?_
         obtain ⟨b29, h30, h⟩ := bind_some h
         refine cC 4 [] 85 b29 ?_ ?_
         ·refine bG (b27) (fun c31 => ?_) (fun c31 => ?_)
          ·have h30 := bA c31 h30
           refine aL rfl rfl (aA rfl) rfl c31 (bR (aA rfl) rfl (i := 1) rfl yM (es := (eW r10.1)) rfl rfl) ?_
           refine aL rfl rfl (aA rfl) rfl c31 (eP (aA rfl) zW (zs := [.lit (.int .i64 0), .lit (.int .i64 0)]) rfl rfl rfl rfl (es := [.lit (.int .i64 2), .lit (.int .i64 3)]) rfl) ?_
           refine aL rfl rfl (aA rfl) rfl c31 (wY (a := r10.1) (b := (dH.mk 2 3)) (aA rfl) rfl rfl rfl rfl Try.eqGuardType39 aKo) ?_
           refine tr1 rfl (bM (v := .d (.lit (.bool ((decide (r10.1 = (dH.mk 2 3))))))) (aA rfl) rfl c31 rfl rfl) ?_
           have h30 := Option.some.inj h30
           subst h30
           refine aF (bB rfl trivial rfl)
          ·have h30 := aZ c31 h30
           refine aN rfl rfl (aA rfl) rfl (aA rfl) rfl c31 ?_
           refine aN rfl rfl (aA rfl) rfl (aA rfl) rfl c31 ?_
           refine aN rfl rfl (aA rfl) rfl (aA rfl) rfl c31 ?_
           refine tr1 rfl (bL (v := .d (.lit (.bool false))) (aA rfl) rfl c31 rfl rfl) ?_
           have h30 := Option.some.inj h30
           subst h30
           refine aF (bB rfl trivial rfl)
         ·refine tr1 rfl (aM (v := .d (.lit (.bool b29))) (aA rfl) rfl rfl) ?_
          refine aF ?_
          have h := Option.some.inj h
          subst h
          refine cS (cP (cT (l := [0]) ⟨rfl, trivial⟩)) ?_
          exact bQ ⟨rfl, _, .one _, rfl, rfl⟩

theorem vT (t_0 : aO) (l_1 : List aD) {r : Bool} (h : jF t_0 l_1 = some r) : Fn Try.prog 12 [.agg (aR t_0), .d (.sl 5 (l_1.map aK))] (.d (.lit (.bool r))) := by
 unfold jF at h
 refine Fn.of_tr Try.func12 rfl (rs := [.tmp 4]) Try.results12 Try.ntmps12 (Nat.le_of_ble_eq_true rfl) ?_
 refine aG ?_
 refine aC ?_
 refine bZ rfl (gF (v := .agg (aR t_0)) (aA rfl) rfl rfl rfl) ?_
 rintro _ ⟨b1, rfl⟩
 refine tr1 rfl (aM (v := .d (.lit (.bool false))) (aA rfl) rfl rfl) ?_
 refine aF ?_
 refine aG ?_
 refine aC ?_
 refine tr1 rfl (bR (aA rfl) rfl (i := 0) rfl eB (es := (aR t_0)) rfl rfl) ?_
 refine tr1 rfl (aE (v := .d (.sl 5 (l_1.map aK))) (aA rfl) rfl rfl) ?_
 obtain ⟨r2, h3, h⟩ := bind_some h
 refine tr1 rfl (cR (aA rfl) (.func _ _ Try.call27) rfl rfl (BVs.refl _ _) (xY _ _ h3) rfl) ?_
 refine tr1 rfl (fS (aA rfl) rfl) ?_
 refine tr1 rfl (aE (v := .d (.lit (.bool (!r2)))) (aA rfl) rfl rfl) ?_
 obtain ⟨b4, h5, h⟩ := bind_some h
 refine cC 5 [] 14 b4 ?_ ?_
 ·refine bG (!r2) (fun c6 => ?_) (fun c6 => ?_)
  ·have h5 := bA c6 h5
   refine aL rfl rfl (aA rfl) rfl c6 (bR (aA rfl) rfl (i := 0) rfl eB (es := (aR t_0)) rfl rfl) ?_
   refine aL rfl rfl (aA rfl) rfl c6 (aE (v := .d (.sl 5 (l_1.map aK))) (aA rfl) rfl rfl) ?_
   obtain ⟨r7, h8, h5⟩ := bind_some h5
   refine aL rfl rfl (aA rfl) rfl c6 (cR (aA rfl) (.func _ _ Try.call29) rfl rfl (BVs.refl _ _) (vU _ _ h8) rfl) ?_
   refine aL rfl rfl (aA rfl) rfl c6 (bJ (aA rfl) rfl rfl rfl) ?_
   refine tr1 rfl (bM (v := .d (.lit (.bool ((decide (r7 = 0)))))) (aA rfl) rfl c6 rfl rfl) ?_
   have h5 := Option.some.inj h5
   subst h5
   refine aF (bB rfl trivial rfl)
  ·have h5 := aZ c6 h5
   refine aN rfl rfl (aA rfl) rfl (aA rfl) rfl c6 ?_
   refine aN rfl rfl (aA rfl) rfl (aA rfl) rfl c6 ?_
   refine aN rfl rfl (aA rfl) rfl (aA rfl) rfl c6 ?_
   refine aN rfl rfl (aA rfl) rfl (aA rfl) rfl c6 ?_
   refine tr1 rfl (bL (v := .d (.lit (.bool false))) (aA rfl) rfl c6 rfl rfl) ?_
   have h5 := Option.some.inj h5
   subst h5
   refine aF (bB rfl trivial rfl)
 ·refine tr1 rfl (aM (v := .d (.lit (.bool b4))) (aA rfl) rfl rfl) ?_
  refine aF ?_
  have h := Option.some.inj h
  subst h
  refine cS (cP (cT (l := [4]) ⟨rfl, trivial⟩)) ?_
  exact bQ ⟨rfl, _, .one _, rfl, rfl⟩

theorem yQ (t_0 : aO) (l_1 : List aD) {Q : Int → Prop} (h : mN t_0 l_1 Q) : eQ Try.prog 16 [.agg (aR t_0), .d (.sl 5 (l_1.map aK))] [] (fun r' o' => ∃ (r : Int), Q r ∧ r' = .d (.lit (.int .i64 r)) ∧ o' = []) := by
 unfold mN at h
 refine gC Try.func16 rfl (rs := [.tmp 4]) Try.results16 Try.ntmps16 (Nat.le_of_ble_eq_true rfl) ?_
 refine aG ?_
 refine aC ?_
 refine bZ rfl (gF (v := .agg (aR t_0)) (aA rfl) rfl rfl rfl) ?_
 rintro _ ⟨b1, rfl⟩
 refine tr1 rfl (aM (v := .d (.lit (.int .i64 0))) (aA rfl) rfl rfl) ?_
 refine aF ?_
 refine aG ?_
 refine aC ?_
 refine tr1 rfl (bR (aA rfl) rfl (i := 0) rfl eB (es := (aR t_0)) rfl rfl) ?_
 refine tr1 rfl (aE (v := .d (.sl 5 (l_1.map aK))) (aA rfl) rfl rfl) ?_
 refine bZ rfl (mS (aA rfl) (.func _ _ Try.call48) rfl rfl (lQ _ _ h)) ?_
 rintro _ ⟨_, _, ⟨r2, h, rfl, rfl⟩, rfl⟩
 refine tr1 rfl (aE (v := .tup [cM aX r2.1, .d (.lit (.int .i64 r2.2))]) (aA rfl) rfl rfl) ?_
 refine tr1 rfl (bX (aA rfl) rfl rfl) ?_
 refine tr1 rfl (bX (aA rfl) rfl rfl) ?_
 refine tr1 rfl (aM (v := cM aX r2.1) (aA rfl) rfl rfl) ?_
 refine tr1 rfl (aM (v := .d (.lit (.int .i64 r2.2))) (aA rfl) rfl rfl) ?_
 refine aF ?_
 refine aG ?_
 refine aC ?_
 refine tr1 rfl (aE (v := .d (.lit (.int .i64 r2.2))) (aA rfl) rfl rfl) ?_
 refine tr1 rfl (aM (v := .d (.lit (.int .i64 r2.2))) (aA rfl) rfl rfl) ?_
 refine aF ?_
 exact bQ ⟨rfl, _, [], [.box b1 0 (aR t_0)], _, .one (.tmp 4 (v := .d (.lit (.int .i64 r2.2))) rfl), .refl _, .same _, r2.2, h, rfl, rfl⟩

theorem yR (a0 : aO) (a1 : List aD) {r : Int} (h : nB a0 a1 = some r) : Fn Try.prog 16 [.agg (aR a0), .d (.sl 5 (a1.map aK))] ((fun x : Int => .d (.lit (.int .i64 x))) r) := sG (enc := fun x : Int => .d (.lit (.int .i64 x))) (yQ a0 a1 (xE a0 a1 h (fun x => x = r) rfl))

theorem sT (t_0 : aO) (l_1 : List aD) (x_2 : eD) {r : Bool} (h : jX t_0 l_1 x_2 = some r) : Fn Try.prog 3 [.agg (aR t_0), .d (.sl 5 (l_1.map aK)), .agg (fL x_2)] (.d (.lit (.bool r))) := by
 unfold jX at h
 refine Fn.of_tr Try.func3 rfl (rs := [.tmp 6]) Try.results3 Try.ntmps3 (Nat.le_of_ble_eq_true rfl) ?_
 refine aG ?_
 refine aC ?_
 refine bZ rfl (gF (v := .agg (aR t_0)) (aA rfl) rfl rfl rfl) ?_
 rintro _ ⟨b1, rfl⟩
 refine bZ rfl (gF (v := .agg (fL x_2)) (aA rfl) rfl rfl rfl) ?_
 rintro _ ⟨b2, rfl⟩
 refine tr1 rfl (aM (v := .d (.lit (.bool false))) (aA rfl) rfl rfl) ?_
 refine aF ?_
 refine aG ?_
 refine aG ?_
 refine aC ?_
 refine tr1 rfl (bR (aA rfl) rfl (i := 0) rfl eB (es := (aR t_0)) rfl rfl) ?_
 refine tr1 rfl (aE (v := .d (.sl 5 (l_1.map aK))) (aA rfl) rfl rfl) ?_
 obtain ⟨r3, h4, h⟩ := bind_some h
 refine tr1 rfl (cR (aA rfl) (.func _ _ Try.call12) rfl rfl (BVs.refl _ _) (vT _ _ h4) rfl) ?_
 refine tr1 rfl (fS (aA rfl) rfl) ?_
 refine tr1 rfl (aE (v := .d (.lit (.bool (!r3)))) (aA rfl) rfl rfl) ?_
 obtain ⟨b5, h6, h⟩ := bind_some h
 refine cC 4 [1, 3, 5] 22 b5 ?_ ?_
 ·refine bG (!r3) (fun c96 => ?_) (fun c96 => ?_)
  ·have h6 := bA c96 h6
   refine aN rfl rfl (aA rfl) rfl (aA rfl) rfl c96 ?_
   refine aN rfl rfl (aA rfl) rfl (aA rfl) rfl c96 ?_
   refine aN rfl rfl (aA rfl) rfl (aA rfl) rfl c96 ?_
   refine tr1 rfl (bM (v := .d (.lit (.bool true))) (aA rfl) rfl c96 rfl rfl) ?_
   have h6 := Option.some.inj h6
   subst h6
   refine aF (bB rfl ⟨rfl, rfl, rfl, trivial⟩ rfl)
  ·have h6 := aZ c96 h6
   refine aL rfl rfl (aA rfl) rfl c96 (aE (v := .d (.sl 5 (l_1.map aK))) (aA rfl) rfl rfl) ?_
   refine aL rfl rfl (aA rfl) rfl c96 (dX (aA rfl) rfl eA.of) ?_
   refine aL rfl rfl (aA rfl) rfl c96 (bJ (aA rfl) rfl rfl rfl) ?_
   refine tr1 rfl (bL (v := .d (.lit (.bool ((decide (59 < (l_1.length : Int))))))) (aA rfl) rfl c96 rfl rfl) ?_
   have h6 := Option.some.inj h6
   subst h6
   refine aF (bB rfl ⟨rfl, rfl, rfl, trivial⟩ rfl)
 ·refine tr1 rfl (aE (v := .d (.lit (.bool b5))) (aA rfl) rfl rfl) ?_
  obtain ⟨b7, h8, h⟩ := bind_some h
  refine cC 8 [1, 3, 5] 31 b7 ?_ ?_
  ·refine bG (b5) (fun c93 => ?_) (fun c93 => ?_)
   ·have h8 := bA c93 h8
    refine aN rfl rfl (aA rfl) rfl (aA rfl) rfl c93 ?_
    refine aN rfl rfl (aA rfl) rfl (aA rfl) rfl c93 ?_
    refine aN rfl rfl (aA rfl) rfl (aA rfl) rfl c93 ?_
    refine aN rfl rfl (aA rfl) rfl (aA rfl) rfl c93 ?_
    refine aN rfl rfl (aA rfl) rfl (aA rfl) rfl c93 ?_
    refine aN rfl rfl (aA rfl) rfl (aA rfl) rfl c93 ?_
    refine aN rfl rfl (aA rfl) rfl (aA rfl) rfl c93 ?_
    refine tr1 rfl (bM (v := .d (.lit (.bool true))) (aA rfl) rfl c93 rfl rfl) ?_
    have h8 := Option.some.inj h8
    subst h8
    refine aF (bB rfl ⟨rfl, rfl, rfl, trivial⟩ rfl)
   ·have h8 := aZ c93 h8
    refine aL rfl rfl (aA rfl) rfl c93 (bR (aA rfl) rfl (i := 0) rfl eB (es := (aR t_0)) rfl rfl) ?_
    refine aL rfl rfl (aA rfl) rfl c93 (aU (aA rfl) rfl qH) ?_
    refine aL rfl rfl (aA rfl) rfl c93 (aW (aA rfl) rfl (i := 1) rfl rfl bH) ?_
    refine aL rfl rfl (aA rfl) rfl c93 (aU (aA rfl) rfl qI) ?_
    refine aL rfl rfl (aA rfl) rfl c93 (aW (aA rfl) rfl (i := 1) rfl rfl bH) ?_
    obtain ⟨r94, h95, h8⟩ := bind_some h8
    refine aL rfl rfl (aA rfl) rfl c93 (cR (aA rfl) (.func _ _ Try.call13) rfl rfl (BVs.refl _ _) (pI _ _ _ h95) rfl) ?_
    refine aL rfl rfl (aA rfl) rfl c93 (fS (aA rfl) rfl) ?_
    refine tr1 rfl (bL (v := .d (.lit (.bool (!r94)))) (aA rfl) rfl c93 rfl rfl) ?_
    have h8 := Option.some.inj h8
    subst h8
    refine aF (bB rfl ⟨rfl, rfl, rfl, trivial⟩ rfl)
  ·refine tr1 rfl (aE (v := .d (.lit (.bool b7))) (aA rfl) rfl rfl) ?_
   obtain ⟨b9, h10, h⟩ := bind_some h
   refine cC 4 [1, 3, 5] 36 b9 ?_ ?_
   ·refine bG (b7) (fun c92 => ?_) (fun c92 => ?_)
    ·have h10 := bA c92 h10
     refine aN rfl rfl (aA rfl) rfl (aA rfl) rfl c92 ?_
     refine aN rfl rfl (aA rfl) rfl (aA rfl) rfl c92 ?_
     refine aN rfl rfl (aA rfl) rfl (aA rfl) rfl c92 ?_
     refine tr1 rfl (bM (v := .d (.lit (.bool true))) (aA rfl) rfl c92 rfl rfl) ?_
     have h10 := Option.some.inj h10
     subst h10
     refine aF (bB rfl ⟨rfl, rfl, rfl, trivial⟩ rfl)
    ·have h10 := aZ c92 h10
     refine aL rfl rfl (aA rfl) rfl c92 (aU (aA rfl) rfl uM) ?_
     refine aL rfl rfl (aA rfl) rfl c92 (aW (aA rfl) rfl (i := 1) rfl rfl bH) ?_
     refine aL rfl rfl (aA rfl) rfl c92 (bJ (aA rfl) rfl rfl rfl) ?_
     refine tr1 rfl (bL (v := .d (.lit (.bool ((decide (x_2.A < 0)))))) (aA rfl) rfl c92 rfl rfl) ?_
     have h10 := Option.some.inj h10
     subst h10
     refine aF (bB rfl ⟨rfl, rfl, rfl, trivial⟩ rfl)
   ·refine tr1 rfl (aE (v := .d (.lit (.bool b9))) (aA rfl) rfl rfl) ?_
    obtain ⟨b11, h12, h⟩ := bind_some h
    refine cC 4 [1, 3, 5] 41 b11 ?_ ?_
    ·refine bG (b9) (fun c91 => ?_) (fun c91 => ?_)
     ·have h12 := bA c91 h12
      refine aN rfl rfl (aA rfl) rfl (aA rfl) rfl c91 ?_
      refine aN rfl rfl (aA rfl) rfl (aA rfl) rfl c91 ?_
      refine aN rfl rfl (aA rfl) rfl (aA rfl) rfl c91 ?_
      refine tr1 rfl (bM (v := .d (.lit (.bool true))) (aA rfl) rfl c91 rfl rfl) ?_
      have h12 := Option.some.inj h12
      subst h12
      refine aF (bB rfl ⟨rfl, rfl, rfl, trivial⟩ rfl)
     ·have h12 := aZ c91 h12
      refine aL rfl rfl (aA rfl) rfl c91 (aU (aA rfl) rfl uM) ?_
      refine aL rfl rfl (aA rfl) rfl c91 (aW (aA rfl) rfl (i := 1) rfl rfl bH) ?_
      refine aL rfl rfl (aA rfl) rfl c91 (bJ (aA rfl) rfl rfl rfl) ?_
      refine tr1 rfl (bL (v := .d (.lit (.bool ((decide (999 < x_2.A)))))) (aA rfl) rfl c91 rfl rfl) ?_
      have h12 := Option.some.inj h12
      subst h12
      refine aF (bB rfl ⟨rfl, rfl, rfl, trivial⟩ rfl)
    ·refine tr1 rfl (aE (v := .d (.lit (.bool b11))) (aA rfl) rfl rfl) ?_
     obtain ⟨b13, h14, h⟩ := bind_some h
     refine cC 25 [1, 3, 5] 67 b13 ?_ ?_
     ·refine bG (b11) (fun c80 => ?_) (fun c80 => ?_)
      ·have h14 := bA c80 h14
       refine aN rfl rfl (aA rfl) rfl (aA rfl) rfl c80 ?_
       refine aN rfl rfl (aA rfl) rfl (aA rfl) rfl c80 ?_
       refine aN rfl rfl (aA rfl) rfl (aA rfl) rfl c80 ?_
       refine aN rfl rfl (aA rfl) rfl (aA rfl) rfl c80 ?_
       refine cE rfl rfl (aA rfl) rfl (aA rfl) rfl ?_
       refine cE rfl rfl (aA rfl) rfl (aA rfl) rfl ?_
       refine cE rfl rfl (aA rfl) rfl (aA rfl) rfl ?_
       refine cE rfl rfl (aA rfl) rfl (aA rfl) rfl ?_
       refine cE rfl rfl (aA rfl) rfl (aA rfl) rfl ?_
       refine cE rfl rfl (aA rfl) rfl (aA rfl) rfl ?_
       refine cE rfl rfl (aA rfl) rfl (aA rfl) rfl ?_
       refine cE rfl rfl (aA rfl) rfl (aA rfl) rfl ?_
       refine cE rfl rfl (aA rfl) rfl (aA rfl) rfl ?_
       refine cE rfl rfl (aA rfl) rfl (aA rfl) rfl ?_
       refine cE rfl rfl (aA rfl) rfl (aA rfl) rfl ?_
       refine cE rfl rfl (aA rfl) rfl (aA rfl) rfl ?_
       refine cE rfl rfl (aA rfl) rfl (aA rfl) rfl ?_
       refine cE rfl rfl (aA rfl) rfl (aA rfl) rfl ?_
       refine cE rfl rfl (aA rfl) rfl (aA rfl) rfl ?_
       refine cE rfl rfl (aA rfl) rfl (aA rfl) rfl ?_
       refine cE rfl rfl (aA rfl) rfl (aA rfl) rfl ?_
       refine cE rfl rfl (aA rfl) rfl (aA rfl) rfl ?_
       refine cE rfl rfl (aA rfl) rfl (aA rfl) rfl ?_
       refine aN rfl rfl (aA rfl) rfl (aA rfl) rfl c80 ?_
       refine tr1 rfl (bM (v := .d (.lit (.bool true))) (aA rfl) rfl c80 rfl rfl) ?_
       have h14 := Option.some.inj h14
       subst h14
       refine aF (bB rfl ⟨rfl, rfl, rfl, trivial⟩ rfl)
      ·have h14 := aZ c80 h14
       refine aL rfl rfl (aA rfl) rfl c80 (aU (aA rfl) rfl qH) ?_
       refine aL rfl rfl (aA rfl) rfl c80 (aW (aA rfl) rfl (i := 1) rfl rfl bH) ?_
       refine aL rfl rfl (aA rfl) rfl c80 (bJ (aA rfl) rfl rfl rfl) ?_
       refine aL rfl rfl (aA rfl) rfl c80 (aE (v := .d (.lit (.bool ((decide (x_2.Round = 0)))))) (aA rfl) rfl rfl) ?_
       obtain ⟨b81, h82, h14⟩ := bind_some h14
       refine cC 20 [1, 3, 5, 42] 66 b81 ?_ ?_
       ·refine bG (decide (x_2.Round = 0)) (fun c83 => ?_) (fun c83 => ?_)
        ·have h82 := bA c83 h82
         refine aL rfl rfl (aA rfl) rfl c83 (aU (aA rfl) rfl dK) ?_
         refine aL rfl rfl (aA rfl) rfl c83 (aW (aA rfl) rfl (i := 0) rfl rfl dC) ?_
         refine aL rfl rfl (aA rfl) rfl c83 (aU (aA rfl) rfl qI) ?_
         refine aL rfl rfl (aA rfl) rfl c83 (aW (aA rfl) rfl (i := 1) rfl rfl bH) ?_
         refine aL rfl rfl (aA rfl) rfl c83 (bK (aA rfl) rfl rfl rfl) ?_
         obtain ⟨x84, h85, h82⟩ := bind_some h82
         refine aL rfl rfl (aA rfl) rfl c83 (bP (aA rfl) rfl rfl bW.of (cA aP h85)) ?_
         refine aL rfl rfl (aA rfl) rfl c83 (bO (aA rfl) rfl bH) ?_
         refine aL rfl rfl (aA rfl) rfl c83 (bJ (aA rfl) rfl rfl rfl) ?_
         refine aL rfl rfl (aA rfl) rfl c83 (aE (v := .d (.lit (.bool ((decide (x84 = (-1))))))) (aA rfl) rfl rfl) ?_
         obtain ⟨b86, h87, h82⟩ := bind_some h82
         refine cC 10 [1, 3, 5, 42, 46] 65 b86 ?_ ?_
         ·refine bG (decide (x84 = (-1))) (fun c88 => ?_) (fun c88 => ?_)
          ·have h87 := bA c88 h87
           refine aN rfl rfl (aA rfl) rfl (aA rfl) rfl c88 ?_
           refine aN rfl rfl (aA rfl) rfl (aA rfl) rfl c88 ?_
           refine aN rfl rfl (aA rfl) rfl (aA rfl) rfl c88 ?_
           refine aN rfl rfl (aA rfl) rfl (aA rfl) rfl c88 ?_
           refine aN rfl rfl (aA rfl) rfl (aA rfl) rfl c88 ?_
           refine aN rfl rfl (aA rfl) rfl (aA rfl) rfl c88 ?_
           refine aN rfl rfl (aA rfl) rfl (aA rfl) rfl c88 ?_
           refine aN rfl rfl (aA rfl) rfl (aA rfl) rfl c88 ?_
           refine aN rfl rfl (aA rfl) rfl (aA rfl) rfl c88 ?_
           refine aL rfl rfl (aA rfl) rfl c83 (bM (v := .d (.lit (.bool true))) (aA rfl) rfl c88 rfl rfl) ?_
           have h87 := Option.some.inj h87
           subst h87
           refine aF (bB rfl ⟨rfl, rfl, rfl, rfl, rfl, trivial⟩ rfl)
          ·have h87 := aZ c88 h87
           refine aL rfl rfl (aA rfl) rfl c88 (aU (aA rfl) rfl dK) ?_
           refine aL rfl rfl (aA rfl) rfl c88 (aW (aA rfl) rfl (i := 0) rfl rfl dC) ?_
           refine aL rfl rfl (aA rfl) rfl c88 (aU (aA rfl) rfl qI) ?_
           refine aL rfl rfl (aA rfl) rfl c88 (aW (aA rfl) rfl (i := 1) rfl rfl bH) ?_
           refine aL rfl rfl (aA rfl) rfl c88 (bK (aA rfl) rfl rfl rfl) ?_
           refine aL rfl rfl (aA rfl) rfl c88 (bK (aA rfl) rfl rfl rfl) ?_
           obtain ⟨x89, h90, h87⟩ := bind_some h87
           refine aL rfl rfl (aA rfl) rfl c88 (bP (aA rfl) rfl rfl bW.of (cA aP h90)) ?_
           refine aL rfl rfl (aA rfl) rfl c88 (bO (aA rfl) rfl bH) ?_
           refine aL rfl rfl (aA rfl) rfl c88 (bJ (aA rfl) rfl rfl rfl) ?_
           refine aL rfl rfl (aA rfl) rfl c83 (bL (v := .d (.lit (.bool ((decide (x89 = (-1))))))) (aA rfl) rfl c88 rfl rfl) ?_
           have h87 := Option.some.inj h87
           subst h87
           refine aF (bB rfl ⟨rfl, rfl, rfl, rfl, rfl, trivial⟩ rfl)
         ·refine aL rfl rfl (aA rfl) rfl c80 (bM (v := .d (.lit (.bool b86))) (aA rfl) rfl c83 rfl rfl) ?_
          have h82 := Option.some.inj h82
          subst h82
          refine aF (bB rfl ⟨rfl, rfl, rfl, rfl, trivial⟩ rfl)
        ·have h82 := aZ c83 h82
         refine aN rfl rfl (aA rfl) rfl (aA rfl) rfl c83 ?_
         refine aN rfl rfl (aA rfl) rfl (aA rfl) rfl c83 ?_
         refine aN rfl rfl (aA rfl) rfl (aA rfl) rfl c83 ?_
         refine aN rfl rfl (aA rfl) rfl (aA rfl) rfl c83 ?_
         refine aN rfl rfl (aA rfl) rfl (aA rfl) rfl c83 ?_
         refine aN rfl rfl (aA rfl) rfl (aA rfl) rfl c83 ?_
         refine aN rfl rfl (aA rfl) rfl (aA rfl) rfl c83 ?_
         refine aN rfl rfl (aA rfl) rfl (aA rfl) rfl c83 ?_
         refine aN rfl rfl (aA rfl) rfl (aA rfl) rfl c83 ?_
         refine cE rfl rfl (aA rfl) rfl (aA rfl) rfl ?_
         refine cE rfl rfl (aA rfl) rfl (aA rfl) rfl ?_
         refine cE rfl rfl (aA rfl) rfl (aA rfl) rfl ?_
         refine cE rfl rfl (aA rfl) rfl (aA rfl) rfl ?_
         refine cE rfl rfl (aA rfl) rfl (aA rfl) rfl ?_
         refine cE rfl rfl (aA rfl) rfl (aA rfl) rfl ?_
         refine cE rfl rfl (aA rfl) rfl (aA rfl) rfl ?_
         refine cE rfl rfl (aA rfl) rfl (aA rfl) rfl ?_
         refine cE rfl rfl (aA rfl) rfl (aA rfl) rfl ?_
         refine aN rfl rfl (aA rfl) rfl (aA rfl) rfl c83 ?_
         refine aL rfl rfl (aA rfl) rfl c80 (bL (v := .d (.lit (.bool false))) (aA rfl) rfl c83 rfl rfl) ?_
         have h82 := Option.some.inj h82
         subst h82
         refine aF (bB rfl ⟨rfl, rfl, rfl, rfl, trivial⟩ rfl)
       ·refine tr1 rfl (bL (v := .d (.lit (.bool b81))) (aA rfl) rfl c80 rfl rfl) ?_
        have h14 := Option.some.inj h14
        subst h14
        refine aF (bB rfl ⟨rfl, rfl, rfl, trivial⟩ rfl)
     ·refine aF ?_
      refine bU rfl (fun c15 => ?_) (fun c15 => ?_)
      ·have h := bA c15 h
       refine aG ?_
       refine aC ?_
       obtain ⟨r16, h17, h⟩ := bind_some h
       refine tr1 rfl (cR (aA rfl) (.func _ _ Try.call14) rfl rfl (BVs.refl _ _) (nK h17) rfl) ?_
       refine tr1 rfl (aM (v := .d (.lit (.bool r16))) (aA rfl) rfl rfl) ?_
       refine aF ?_
       have h := Option.some.inj h
       subst h
       refine cS (cP (cT (l := [6]) ⟨rfl, trivial⟩)) ?_
       exact bQ ⟨rfl, _, .one _, rfl, rfl⟩
      ·have h := aZ c15 h
       refine bT ?_
       refine aG ?_
       refine aG ?_
       refine aC ?_
       refine tr1 rfl (aM (v := .d (.lit (.int .i64 0))) (aA rfl) rfl rfl) ?_
       refine aF ?_
       refine cF ?_
       refine dP [1, 3, 5] (fun (s18 : Int) => [(7, .d (.lit (.int .i64 s18)))]) (fun (s18 : Int) => [.box b1 0 (aR t_0), .box b2 0 (fL x_2)]) (fun (k : Nat) (s18 : Int) => dT l_1 t_0 x_2 k s18) (fun _ => rfl) (0) h (bD [0, 1] rfl rfl (aV rfl (bC ⟨rfl, rfl, rfl, trivial⟩))) ?_
       rintro k19 i_0_18 h
       simp only [dT] at h
       refine aG ?_
       refine aG ?_
       refine aC ?_
       refine tr1 rfl (aE (v := .d (.lit (.int .i64 i_0_18))) (aA rfl) rfl rfl) ?_
       refine tr1 rfl (aE (v := .d (.sl 5 (l_1.map aK))) (aA rfl) rfl rfl) ?_
       refine tr1 rfl (dX (aA rfl) rfl eA.of) ?_
       refine tr1 rfl (bJ (aA rfl) rfl rfl rfl) ?_
       refine aF ?_
       refine bU rfl (fun c20 => ?_) (fun c20 => ?_)
       ·have h := bA c20 h
        refine bT ?_
        refine aG ?_
        refine cF ?_
        refine aG ?_
        obtain ⟨x21, h22, h⟩ := bind_some h
        obtain ⟨b23, h24, h⟩ := bind_some h
        obtain ⟨b28, h29, h⟩ := bind_some h
        refine dU mix 26 [1, 3, 5, 7] [(100, .d (.lit (.bool b28)))] ?_ ?_
        ·refine bG (!decide (x21.Kind = 5)) (fun c25 => ?_) (fun c25 => ?_)
         ·have h24 := bA c25 h24
          obtain ⟨x26, h27, h24⟩ := bind_some h24
          have h24 := Option.some.inj h24
          subst h24
          refine bG (decide (x26.Round = x_2.Round)) (fun c30 => ?_) (fun c30 => ?_)
          ·have h29 := bA c30 h29
           obtain ⟨x31, h32, h29⟩ := bind_some h29
           have h29 := Option.some.inj h29
           subst h29
           refine ⟨[(75, 0, .d (.sl 5 (l_1.map aK))), (76, 1, .d (.lit (.int .i64 i_0_18))), (77, 2, .cp [.lit (.int .i64 x21.Kind), .lit (.int .i64 x21.Round), .lit (.int .i64 x21.Place), .lit (.int .i64 x21.Player), .lit (.int .i64 x21.Old)]), (78, 3, .cp [.lit (.int .i64 x21.Kind)]), (79, 4, .d (.lit (.int .i64 x21.Kind))), (80, 5, .d (.lit (.bool ((!decide (x21.Kind = 5)))))), (81, 6, .d (.lit (.bool ((!decide (x21.Kind = 5)))))), (82, 7, .d (.sl 5 (l_1.map aK))), (83, 8, .d (.lit (.int .i64 i_0_18))), (84, 9, .cp [.lit (.int .i64 x26.Kind), .lit (.int .i64 x26.Round), .lit (.int .i64 x26.Place), .lit (.int .i64 x26.Player), .lit (.int .i64 x26.Old)]), (85, 10, .cp [.lit (.int .i64 x26.Round)]), (86, 11, .d (.lit (.int .i64 x26.Round))), (87, 12, .bp b2 0 0), (88, 13, .d (.lit (.int .i64 x_2.Round))), (89, 14, .d (.lit (.bool ((decide (x26.Round = x_2.Round)))))), (90, 15, .d (.lit (.bool ((decide (x26.Round = x_2.Round)))))), (91, 16, .d (.lit (.bool (decide (x26.Round = x_2.Round))))), (92, 17, .d (.sl 5 (l_1.map aK))), (93, 18, .d (.lit (.int .i64 i_0_18))), (94, 19, .cp [.lit (.int .i64 x31.Kind), .lit (.int .i64 x31.Round), .lit (.int .i64 x31.Place), .lit (.int .i64 x31.Player), .lit (.int .i64 x31.Old)]), (95, 20, .cp [.lit (.int .i64 x31.Place)]), (96, 21, .d (.lit (.int .i64 x31.Place))), (97, 22, .bp b2 0 1), (98, 23, .d (.lit (.int .i64 x_2.Place))), (99, 24, .d (.lit (.bool ((decide (x31.Place = x_2.Place)))))), (100, 25, .d (.lit (.bool ((decide (x31.Place = x_2.Place))))))], ?_, ?_⟩
           · exact ⟨by kernel_rfl, by kernel_rfl, by kernel_rfl, by kernel_rfl, by kernel_rfl, [([], []), ([], []), ([0, 1], []), ([2], []), ([3], []), ([4], []), ([5], []), ([6], []), ([6], []), ([6, 7, 8], []), ([6, 9], []), ([6, 10], []), ([6], []), ([6, 12], []), ([6, 11, 13], []), ([6, 14], []), ([15], []), ([16], []), ([16], []), ([16, 17, 18], []), ([16, 19], []), ([16, 20], []), ([16], []), ([16, 22], []), ([16, 21, 23], []), ([16, 24], [])], by kernel_rfl, ⟨fun S hS => aH rfl (aS rfl (aE (v := .d (.sl 5 (l_1.map aK))) (aA rfl) (aI hS rfl) rfl)),
      fun S hS => aH rfl (aS rfl (aE (v := .d (.lit (.int .i64 i_0_18))) (aA rfl) (aI hS rfl) rfl)),
      fun S hS => aH rfl (aS rfl (bP (aA rfl) (aI hS rfl) (aI hS rfl) eA.of (cA aK h22))),
      fun S hS => aH rfl (aS rfl (cN (aA rfl) (aI hS rfl) kE (es := [.lit (.int .i64 x21.Kind)]) rfl)),
      fun S hS => aH rfl (aS rfl (bO (aA rfl) (aI hS rfl) bH)),
      fun S hS => aH rfl (aS rfl (bJ (aA rfl) (aI hS rfl) rfl rfl)),
      fun S hS => aH rfl (aS rfl (aE (v := .d (.lit (.bool ((!decide (x21.Kind = 5)))))) (aA rfl) (aI hS rfl) rfl)),
      fun S hS => aH rfl (bF rfl rfl (aA rfl) (aT hS rfl) c25 (aE (v := .d (.sl 5 (l_1.map aK))) (aA rfl) (aI hS rfl) rfl)),
      fun S hS => aH rfl (bF rfl rfl (aA rfl) (aT hS rfl) c25 (aE (v := .d (.lit (.int .i64 i_0_18))) (aA rfl) (aI hS rfl) rfl)),
      fun S hS => aH rfl (bF rfl rfl (aA rfl) (aT hS rfl) c25 (bP (aA rfl) (aI hS rfl) (aI hS rfl) eA.of (cA aK h27))),
      fun S hS => aH rfl (bF rfl rfl (aA rfl) (aT hS rfl) c25 (cN (aA rfl) (aI hS rfl) jI (es := [.lit (.int .i64 x26.Round)]) rfl)),
      fun S hS => aH rfl (bF rfl rfl (aA rfl) (aT hS rfl) c25 (bO (aA rfl) (aI hS rfl) bH)),
      fun S hS => aH rfl (bF rfl rfl (aA rfl) (aT hS rfl) c25 (aU (aA rfl) (aI hS rfl) qH)),
      fun S hS => aH rfl (bF rfl rfl (aA rfl) (aT hS rfl) c25 (aW (aA rfl) (aI hS rfl) (i := 1) rfl rfl bH)),
      fun S hS => aH rfl (bF rfl rfl (aA rfl) (aT hS rfl) c25 (bJ (aA rfl) (aI hS rfl) (aI hS rfl) rfl)),
      fun S hS => aH rfl (aS rfl (bM (v := .d (.lit (.bool ((decide (x26.Round = x_2.Round)))))) (aA rfl) (aI hS rfl) c25 (aI hS rfl) rfl)),
      fun S hS => aH rfl (aS rfl (aE (v := .d (.lit (.bool (decide (x26.Round = x_2.Round))))) (aA rfl) (aI hS rfl) rfl)),
      fun S hS => aH rfl (bF rfl rfl (aA rfl) (aT hS rfl) c30 (aE (v := .d (.sl 5 (l_1.map aK))) (aA rfl) (aI hS rfl) rfl)),
      fun S hS => aH rfl (bF rfl rfl (aA rfl) (aT hS rfl) c30 (aE (v := .d (.lit (.int .i64 i_0_18))) (aA rfl) (aI hS rfl) rfl)),
      fun S hS => aH rfl (bF rfl rfl (aA rfl) (aT hS rfl) c30 (bP (aA rfl) (aI hS rfl) (aI hS rfl) eA.of (cA aK h32))),
      fun S hS => aH rfl (bF rfl rfl (aA rfl) (aT hS rfl) c30 (cN (aA rfl) (aI hS rfl) gS (es := [.lit (.int .i64 x31.Place)]) rfl)),
      fun S hS => aH rfl (bF rfl rfl (aA rfl) (aT hS rfl) c30 (bO (aA rfl) (aI hS rfl) bH)),
      fun S hS => aH rfl (bF rfl rfl (aA rfl) (aT hS rfl) c30 (aU (aA rfl) (aI hS rfl) qI)),
      fun S hS => aH rfl (bF rfl rfl (aA rfl) (aT hS rfl) c30 (aW (aA rfl) (aI hS rfl) (i := 1) rfl rfl bH)),
      fun S hS => aH rfl (bF rfl rfl (aA rfl) (aT hS rfl) c30 (bJ (aA rfl) (aI hS rfl) (aI hS rfl) rfl)),
      fun S hS => aH rfl (aS rfl (bM (v := .d (.lit (.bool ((decide (x31.Place = x_2.Place)))))) (aA rfl) (aI hS rfl) c30 (aI hS rfl) rfl)), trivial⟩⟩
           · exact dA (aV rfl (bC ⟨rfl, rfl, rfl, rfl, trivial⟩))
          ·have h29 := aZ c30 h29
           have h29 := Option.some.inj h29
           subst h29
           refine ⟨[(75, 0, .d (.sl 5 (l_1.map aK))), (76, 1, .d (.lit (.int .i64 i_0_18))), (77, 2, .cp [.lit (.int .i64 x21.Kind), .lit (.int .i64 x21.Round), .lit (.int .i64 x21.Place), .lit (.int .i64 x21.Player), .lit (.int .i64 x21.Old)]), (78, 3, .cp [.lit (.int .i64 x21.Kind)]), (79, 4, .d (.lit (.int .i64 x21.Kind))), (80, 5, .d (.lit (.bool ((!decide (x21.Kind = 5)))))), (81, 6, .d (.lit (.bool ((!decide (x21.Kind = 5)))))), (82, 7, .d (.sl 5 (l_1.map aK))), (83, 8, .d (.lit (.int .i64 i_0_18))), (84, 9, .cp [.lit (.int .i64 x26.Kind), .lit (.int .i64 x26.Round), .lit (.int .i64 x26.Place), .lit (.int .i64 x26.Player), .lit (.int .i64 x26.Old)]), (85, 10, .cp [.lit (.int .i64 x26.Round)]), (86, 11, .d (.lit (.int .i64 x26.Round))), (87, 12, .bp b2 0 0), (88, 13, .d (.lit (.int .i64 x_2.Round))), (89, 14, .d (.lit (.bool ((decide (x26.Round = x_2.Round)))))), (90, 15, .d (.lit (.bool ((decide (x26.Round = x_2.Round)))))), (91, 16, .d (.lit (.bool (decide (x26.Round = x_2.Round))))), (92, 17, .tup []), (93, 18, .tup []), (94, 19, .tup []), (95, 20, .tup []), (96, 21, .tup []), (97, 22, .tup []), (98, 23, .tup []), (99, 24, .tup []), (100, 25, .d (.lit (.bool false)))], ?_, ?_⟩
           · exact ⟨by kernel_rfl, by kernel_rfl, by kernel_rfl, by kernel_rfl, by kernel_rfl, [([], []), ([], []), ([0, 1], []), ([2], []), ([3], []), ([4], []), ([5], []), ([6], []), ([6], []), ([6, 7, 8], []), ([6, 9], []), ([6, 10], []), ([6], []), ([6, 12], []), ([6, 11, 13], []), ([6, 14], []), ([15], []), ([16], []), ([16], []), ([16, 17, 18], []), ([16, 19], []), ([16, 20], []), ([16], []), ([16, 22], []), ([16, 21, 23], []), ([16, 24], [])], by kernel_rfl, ⟨fun S hS => aH rfl (aS rfl (aE (v := .d (.sl 5 (l_1.map aK))) (aA rfl) (aI hS rfl) rfl)),
      fun S hS => aH rfl (aS rfl (aE (v := .d (.lit (.int .i64 i_0_18))) (aA rfl) (aI hS rfl) rfl)),
      fun S hS => aH rfl (aS rfl (bP (aA rfl) (aI hS rfl) (aI hS rfl) eA.of (cA aK h22))),
      fun S hS => aH rfl (aS rfl (cN (aA rfl) (aI hS rfl) kE (es := [.lit (.int .i64 x21.Kind)]) rfl)),
      fun S hS => aH rfl (aS rfl (bO (aA rfl) (aI hS rfl) bH)),
      fun S hS => aH rfl (aS rfl (bJ (aA rfl) (aI hS rfl) rfl rfl)),
      fun S hS => aH rfl (aS rfl (aE (v := .d (.lit (.bool ((!decide (x21.Kind = 5)))))) (aA rfl) (aI hS rfl) rfl)),
      fun S hS => aH rfl (bF rfl rfl (aA rfl) (aT hS rfl) c25 (aE (v := .d (.sl 5 (l_1.map aK))) (aA rfl) (aI hS rfl) rfl)),
      fun S hS => aH rfl (bF rfl rfl (aA rfl) (aT hS rfl) c25 (aE (v := .d (.lit (.int .i64 i_0_18))) (aA rfl) (aI hS rfl) rfl)),
      fun S hS => aH rfl (bF rfl rfl (aA rfl) (aT hS rfl) c25 (bP (aA rfl) (aI hS rfl) (aI hS rfl) eA.of (cA aK h27))),
      fun S hS => aH rfl (bF rfl rfl (aA rfl) (aT hS rfl) c25 (cN (aA rfl) (aI hS rfl) jI (es := [.lit (.int .i64 x26.Round)]) rfl)),
      fun S hS => aH rfl (bF rfl rfl (aA rfl) (aT hS rfl) c25 (bO (aA rfl) (aI hS rfl) bH)),
      fun S hS => aH rfl (bF rfl rfl (aA rfl) (aT hS rfl) c25 (aU (aA rfl) (aI hS rfl) qH)),
      fun S hS => aH rfl (bF rfl rfl (aA rfl) (aT hS rfl) c25 (aW (aA rfl) (aI hS rfl) (i := 1) rfl rfl bH)),
      fun S hS => aH rfl (bF rfl rfl (aA rfl) (aT hS rfl) c25 (bJ (aA rfl) (aI hS rfl) (aI hS rfl) rfl)),
      fun S hS => aH rfl (aS rfl (bM (v := .d (.lit (.bool ((decide (x26.Round = x_2.Round)))))) (aA rfl) (aI hS rfl) c25 (aI hS rfl) rfl)),
      fun S hS => aH rfl (aS rfl (aE (v := .d (.lit (.bool (decide (x26.Round = x_2.Round))))) (aA rfl) (aI hS rfl) rfl)),
      fun S hS => aH rfl (bE rfl rfl (aA rfl) rfl (aA rfl) (aT hS rfl) c30),
      fun S hS => aH rfl (bE rfl rfl (aA rfl) rfl (aA rfl) (aT hS rfl) c30),
      fun S hS => aH rfl (bE rfl rfl (aA rfl) rfl (aA rfl) (aT hS rfl) c30),
      fun S hS => aH rfl (bE rfl rfl (aA rfl) rfl (aA rfl) (aT hS rfl) c30),
      fun S hS => aH rfl (bE rfl rfl (aA rfl) rfl (aA rfl) (aT hS rfl) c30),
      fun S hS => aH rfl (bE rfl rfl (aA rfl) rfl (aA rfl) (aT hS rfl) c30),
      fun S hS => aH rfl (bE rfl rfl (aA rfl) rfl (aA rfl) (aT hS rfl) c30),
      fun S hS => aH rfl (bE rfl rfl (aA rfl) rfl (aA rfl) (aT hS rfl) c30),
      fun S hS => aH rfl (aS rfl (bL (v := .d (.lit (.bool false))) (aA rfl) (aI hS rfl) c30 rfl rfl)), trivial⟩⟩
           · exact dA (aV rfl (bC ⟨rfl, rfl, rfl, rfl, trivial⟩))
         ·have h24 := aZ c25 h24
          have h24 := Option.some.inj h24
          subst h24
          have c30 : false = false := rfl
          have h29 := aZ c30 h29
          have h29 := Option.some.inj h29
          subst h29
          refine ⟨[(75, 0, .d (.sl 5 (l_1.map aK))), (76, 1, .d (.lit (.int .i64 i_0_18))), (77, 2, .cp [.lit (.int .i64 x21.Kind), .lit (.int .i64 x21.Round), .lit (.int .i64 x21.Place), .lit (.int .i64 x21.Player), .lit (.int .i64 x21.Old)]), (78, 3, .cp [.lit (.int .i64 x21.Kind)]), (79, 4, .d (.lit (.int .i64 x21.Kind))), (80, 5, .d (.lit (.bool ((!decide (x21.Kind = 5)))))), (81, 6, .d (.lit (.bool ((!decide (x21.Kind = 5)))))), (82, 7, .tup []), (83, 8, .tup []), (84, 9, .tup []), (85, 10, .tup []), (86, 11, .tup []), (87, 12, .tup []), (88, 13, .tup []), (89, 14, .tup []), (90, 15, .d (.lit (.bool false))), (91, 16, .d (.lit (.bool (false)))), (92, 17, .tup []), (93, 18, .tup []), (94, 19, .tup []), (95, 20, .tup []), (96, 21, .tup []), (97, 22, .tup []), (98, 23, .tup []), (99, 24, .tup []), (100, 25, .d (.lit (.bool false)))], ?_, ?_⟩
          · exact ⟨by kernel_rfl, by kernel_rfl, by kernel_rfl, by kernel_rfl, by kernel_rfl, [([], []), ([], []), ([0, 1], []), ([2], []), ([3], []), ([4], []), ([5], []), ([6], []), ([6], []), ([6, 7, 8], []), ([6, 9], []), ([6, 10], []), ([6], []), ([6, 12], []), ([6, 11, 13], []), ([6, 14], []), ([15], []), ([16], []), ([16], []), ([16, 17, 18], []), ([16, 19], []), ([16, 20], []), ([16], []), ([16, 22], []), ([16, 21, 23], []), ([16, 24], [])], by kernel_rfl, ⟨fun S hS => aH rfl (aS rfl (aE (v := .d (.sl 5 (l_1.map aK))) (aA rfl) (aI hS rfl) rfl)),
      fun S hS => aH rfl (aS rfl (aE (v := .d (.lit (.int .i64 i_0_18))) (aA rfl) (aI hS rfl) rfl)),
      fun S hS => aH rfl (aS rfl (bP (aA rfl) (aI hS rfl) (aI hS rfl) eA.of (cA aK h22))),
      fun S hS => aH rfl (aS rfl (cN (aA rfl) (aI hS rfl) kE (es := [.lit (.int .i64 x21.Kind)]) rfl)),
      fun S hS => aH rfl (aS rfl (bO (aA rfl) (aI hS rfl) bH)),
      fun S hS => aH rfl (aS rfl (bJ (aA rfl) (aI hS rfl) rfl rfl)),
      fun S hS => aH rfl (aS rfl (aE (v := .d (.lit (.bool ((!decide (x21.Kind = 5)))))) (aA rfl) (aI hS rfl) rfl)),
      fun S hS => aH rfl (bE rfl rfl (aA rfl) rfl (aA rfl) (aT hS rfl) c25),
      fun S hS => aH rfl (bE rfl rfl (aA rfl) rfl (aA rfl) (aT hS rfl) c25),
      fun S hS => aH rfl (bE rfl rfl (aA rfl) rfl (aA rfl) (aT hS rfl) c25),
      fun S hS => aH rfl (bE rfl rfl (aA rfl) rfl (aA rfl) (aT hS rfl) c25),
      fun S hS => aH rfl (bE rfl rfl (aA rfl) rfl (aA rfl) (aT hS rfl) c25),
      fun S hS => aH rfl (bE rfl rfl (aA rfl) rfl (aA rfl) (aT hS rfl) c25),
      fun S hS => aH rfl (bE rfl rfl (aA rfl) rfl (aA rfl) (aT hS rfl) c25),
      fun S hS => aH rfl (bE rfl rfl (aA rfl) rfl (aA rfl) (aT hS rfl) c25),
      fun S hS => aH rfl (aS rfl (bL (v := .d (.lit (.bool false))) (aA rfl) (aI hS rfl) c25 rfl rfl)),
      fun S hS => aH rfl (aS rfl (aE (v := .d (.lit (.bool (false)))) (aA rfl) (aI hS rfl) rfl)),
      fun S hS => aH rfl (bE rfl rfl (aA rfl) rfl (aA rfl) (aT hS rfl) c30),
      fun S hS => aH rfl (bE rfl rfl (aA rfl) rfl (aA rfl) (aT hS rfl) c30),
      fun S hS => aH rfl (bE rfl rfl (aA rfl) rfl (aA rfl) (aT hS rfl) c30),
      fun S hS => aH rfl (bE rfl rfl (aA rfl) rfl (aA rfl) (aT hS rfl) c30),
      fun S hS => aH rfl (bE rfl rfl (aA rfl) rfl (aA rfl) (aT hS rfl) c30),
      fun S hS => aH rfl (bE rfl rfl (aA rfl) rfl (aA rfl) (aT hS rfl) c30),
      fun S hS => aH rfl (bE rfl rfl (aA rfl) rfl (aA rfl) (aT hS rfl) c30),
      fun S hS => aH rfl (bE rfl rfl (aA rfl) rfl (aA rfl) (aT hS rfl) c30),
      fun S hS => aH rfl (aS rfl (bL (v := .d (.lit (.bool false))) (aA rfl) (aI hS rfl) c30 rfl rfl)), trivial⟩⟩
          · exact dA (aV rfl (bC ⟨rfl, rfl, rfl, rfl, trivial⟩))
        ·refine aF ?_
         refine bU rfl (fun c33 => ?_) (fun c33 => ?_)
         ·have h := bA c33 h
          refine aG ?_
          refine aC ?_
          obtain ⟨r34, h35, h⟩ := bind_some h
          refine tr1 rfl (cR (aA rfl) (.func _ _ Try.call14) rfl rfl (BVs.refl _ _) (nK h35) rfl) ?_
          refine tr1 rfl (aM (v := .d (.lit (.bool r34))) (aA rfl) rfl rfl) ?_
          refine aF ?_
          have h := Option.some.inj h
          subst h
          refine cS (cP (cT (l := [6]) ⟨rfl, trivial⟩)) ?_
          exact bQ ⟨rfl, _, .one _, rfl, rfl⟩
         ·have h := aZ c33 h
          refine eH ?_
          refine aC ?_
          refine tr1 rfl (aE (v := .d (.lit (.int .i64 i_0_18))) (aA rfl) rfl rfl) ?_
          refine tr1 rfl (bK (aA rfl) rfl rfl rfl) ?_
          refine tr1 rfl (aM (v := .d (.lit (.int .i64 ((w64 (i_0_18 + 1)))))) (aA rfl) rfl rfl) ?_
          refine aF ?_
          exact ⟨(w64 (i_0_18 + 1)), h, bD [0, 1] rfl rfl (aV rfl (bC ⟨rfl, rfl, rfl, trivial⟩))⟩
       ·have h := aZ c20 h
        refine dE ?_
        refine .inl ⟨rfl, ?_⟩
        simp only [gL] at h
        refine aG ?_
        refine aC ?_
        refine tr1 rfl (bR (aA rfl) rfl (i := 0) rfl eB (es := (aR t_0)) rfl rfl) ?_
        refine tr1 rfl (aE (v := .d (.sl 5 (l_1.map aK))) (aA rfl) rfl rfl) ?_
        refine tr1 rfl (aU (aA rfl) rfl qH) ?_
        refine tr1 rfl (aW (aA rfl) rfl (i := 1) rfl rfl bH) ?_
        refine tr1 rfl (aU (aA rfl) rfl qI) ?_
        refine tr1 rfl (aW (aA rfl) rfl (i := 1) rfl rfl bH) ?_
        obtain ⟨r36, h37, h⟩ := bind_some h
        refine tr1 rfl (iT (aA rfl) (.func _ _ Try.call15) rfl rfl (vI _ _ _ _ h37)) ?_
        refine tr1 rfl (aE (v := .tup [.d (.sl 1 (r36.1.map aP)), .d (.lit (.int .i64 r36.2))]) (aA rfl) rfl rfl) ?_
        refine tr1 rfl (bX (aA rfl) rfl rfl) ?_
        refine tr1 rfl (bX (aA rfl) rfl rfl) ?_
        refine tr1 rfl (aM (v := .d (.sl 1 (r36.1.map aP))) (aA rfl) rfl rfl) ?_
        refine tr1 rfl (aM (v := .d (.lit (.int .i64 r36.2))) (aA rfl) rfl rfl) ?_
        refine aF ?_
        refine aG ?_
        refine aG ?_
        refine aC ?_
        refine tr1 rfl (aE (v := .d (.lit (.int .i64 r36.2))) (aA rfl) rfl rfl) ?_
        refine tr1 rfl (bJ (aA rfl) rfl rfl rfl) ?_
        refine tr1 rfl (aE (v := .d (.lit (.bool ((!decide (r36.2 = 0)))))) (aA rfl) rfl rfl) ?_
        obtain ⟨b38, h39, h⟩ := bind_some h
        refine cC 4 [1, 3, 5, 8] 118 b38 ?_ ?_
        ·refine bG (!decide (r36.2 = 0)) (fun c79 => ?_) (fun c79 => ?_)
         ·have h39 := bA c79 h39
          refine aN rfl rfl (aA rfl) rfl (aA rfl) rfl c79 ?_
          refine aN rfl rfl (aA rfl) rfl (aA rfl) rfl c79 ?_
          refine aN rfl rfl (aA rfl) rfl (aA rfl) rfl c79 ?_
          refine tr1 rfl (bM (v := .d (.lit (.bool true))) (aA rfl) rfl c79 rfl rfl) ?_
          have h39 := Option.some.inj h39
          subst h39
          refine aF (bB rfl ⟨rfl, rfl, rfl, rfl, trivial⟩ rfl)
         ·have h39 := aZ c79 h39
          refine aL rfl rfl (aA rfl) rfl c79 (aE (v := .d (.sl 1 (r36.1.map aP))) (aA rfl) rfl rfl) ?_
          refine aL rfl rfl (aA rfl) rfl c79 (dX (aA rfl) rfl bW.of) ?_
          refine aL rfl rfl (aA rfl) rfl c79 (bJ (aA rfl) rfl rfl rfl) ?_
          refine tr1 rfl (bL (v := .d (.lit (.bool ((decide ((r36.1.length : Int) = 0)))))) (aA rfl) rfl c79 rfl rfl) ?_
          have h39 := Option.some.inj h39
          subst h39
          refine aF (bB rfl ⟨rfl, rfl, rfl, rfl, trivial⟩ rfl)
        ·refine aF ?_
         refine bU rfl (fun c40 => ?_) (fun c40 => ?_)
         ·have h := bA c40 h
          refine aG ?_
          refine aC ?_
          refine tr1 rfl (aM (v := .d (.lit (.bool false))) (aA rfl) rfl rfl) ?_
          refine aF ?_
          have h := Option.some.inj h
          subst h
          refine cS (cP (cT (l := [6]) ⟨rfl, trivial⟩)) ?_
          exact bQ ⟨rfl, _, .one _, rfl, rfl⟩
         ·have h := aZ c40 h
          refine bT ?_
          refine aG ?_
          refine aC ?_
          refine tr1 rfl (aM (v := .d (.lit (.bool false))) (aA rfl) rfl rfl) ?_
          refine aF ?_
          refine aG ?_
          refine aG ?_
          refine aC ?_
          refine tr1 rfl (aM (v := .d (.lit (.int .i64 0))) (aA rfl) rfl rfl) ?_
          refine aF ?_
          refine cF ?_
          refine dP [1, 3, 5, 8] (fun (s41 : Bool × Int) => [(10, .d (.lit (.bool s41.1))), (11, .d (.lit (.int .i64 s41.2)))]) (fun (s41 : Bool × Int) => [.box b1 0 (aR t_0), .box b2 0 (fL x_2)]) (fun (k : Nat) (s41 : Bool × Int) => eG l_1 r36.1 t_0 x_2 k s41.1 s41.2) (fun _ => rfl) (false, 0) h (bD [0, 1] rfl rfl (aV rfl (aV rfl (bC ⟨rfl, rfl, rfl, rfl, trivial⟩)))) ?_
          rintro k42 ⟨found_2_41, i_2_41⟩ h
          simp only [eG] at h
          refine aG ?_
          refine aG ?_
          refine aC ?_
          refine tr1 rfl (aE (v := .d (.lit (.int .i64 i_2_41))) (aA rfl) rfl rfl) ?_
          refine tr1 rfl (aE (v := .d (.sl 1 (r36.1.map aP))) (aA rfl) rfl rfl) ?_
          refine tr1 rfl (dX (aA rfl) rfl bW.of) ?_
          refine tr1 rfl (bJ (aA rfl) rfl rfl rfl) ?_
          refine aF ?_
          refine bU rfl (fun c43 => ?_) (fun c43 => ?_)
          ·have h := bA c43 h
           refine bT ?_
           refine aG ?_
           refine cF ?_
           refine aG ?_
           obtain ⟨b44, h45, h⟩ := bind_some h
           refine dU mix 10 [1, 3, 5, 8, 11] [(134, .d (.lit (.bool b44)))] ?_ ?_
           ·refine bG (found_2_41) (fun c46 => ?_) (fun c46 => ?_)
            ·have h45 := bA c46 h45
             have h45 := Option.some.inj h45
             subst h45
             refine ⟨[(125, 0, .d (.lit (.bool found_2_41))), (126, 1, .d (.lit (.bool found_2_41))), (127, 2, .tup []), (128, 3, .tup []), (129, 4, .tup []), (130, 5, .tup []), (131, 6, .tup []), (132, 7, .tup []), (133, 8, .tup []), (134, 9, .d (.lit (.bool true)))], ?_, ?_⟩
             · exact ⟨by kernel_rfl, by kernel_rfl, by kernel_rfl, by kernel_rfl, by kernel_rfl, [([], []), ([0], []), ([1], []), ([1], []), ([1, 2, 3], []), ([1, 4], []), ([1], []), ([1, 6], []), ([1, 5, 7], []), ([1, 8], [])], by kernel_rfl, ⟨fun S hS => aH rfl (aS rfl (aE (v := .d (.lit (.bool found_2_41))) (aA rfl) (aI hS rfl) rfl)),
      fun S hS => aH rfl (aS rfl (aE (v := .d (.lit (.bool found_2_41))) (aA rfl) (aI hS rfl) rfl)),
      fun S hS => aH rfl (bE rfl rfl (aA rfl) rfl (aA rfl) (aT hS rfl) c46),
      fun S hS => aH rfl (bE rfl rfl (aA rfl) rfl (aA rfl) (aT hS rfl) c46),
      fun S hS => aH rfl (bE rfl rfl (aA rfl) rfl (aA rfl) (aT hS rfl) c46),
      fun S hS => aH rfl (bE rfl rfl (aA rfl) rfl (aA rfl) (aT hS rfl) c46),
      fun S hS => aH rfl (bE rfl rfl (aA rfl) rfl (aA rfl) (aT hS rfl) c46),
      fun S hS => aH rfl (bE rfl rfl (aA rfl) rfl (aA rfl) (aT hS rfl) c46),
      fun S hS => aH rfl (bE rfl rfl (aA rfl) rfl (aA rfl) (aT hS rfl) c46),
      fun S hS => aH rfl (aS rfl (bM (v := .d (.lit (.bool true))) (aA rfl) (aI hS rfl) c46 rfl rfl)), trivial⟩⟩
             · exact dA (aV rfl (bC ⟨rfl, rfl, rfl, rfl, rfl, trivial⟩))
            ·have h45 := aZ c46 h45
             obtain ⟨x47, h48, h45⟩ := bind_some h45
             have h45 := Option.some.inj h45
             subst h45
             refine ⟨[(125, 0, .d (.lit (.bool found_2_41))), (126, 1, .d (.lit (.bool found_2_41))), (127, 2, .d (.sl 1 (r36.1.map aP))), (128, 3, .d (.lit (.int .i64 i_2_41))), (129, 4, .cp [.lit (.int .i64 x47)]), (130, 5, .d (.lit (.int .i64 x47))), (131, 6, .bp b2 0 2), (132, 7, .d (.lit (.int .i64 x_2.A))), (133, 8, .d (.lit (.bool ((decide (x47 = x_2.A)))))), (134, 9, .d (.lit (.bool ((decide (x47 = x_2.A))))))], ?_, ?_⟩
             · exact ⟨by kernel_rfl, by kernel_rfl, by kernel_rfl, by kernel_rfl, by kernel_rfl, [([], []), ([0], []), ([1], []), ([1], []), ([1, 2, 3], []), ([1, 4], []), ([1], []), ([1, 6], []), ([1, 5, 7], []), ([1, 8], [])], by kernel_rfl, ⟨fun S hS => aH rfl (aS rfl (aE (v := .d (.lit (.bool found_2_41))) (aA rfl) (aI hS rfl) rfl)),
      fun S hS => aH rfl (aS rfl (aE (v := .d (.lit (.bool found_2_41))) (aA rfl) (aI hS rfl) rfl)),
      fun S hS => aH rfl (bF rfl rfl (aA rfl) (aT hS rfl) c46 (aE (v := .d (.sl 1 (r36.1.map aP))) (aA rfl) (aI hS rfl) rfl)),
      fun S hS => aH rfl (bF rfl rfl (aA rfl) (aT hS rfl) c46 (aE (v := .d (.lit (.int .i64 i_2_41))) (aA rfl) (aI hS rfl) rfl)),
      fun S hS => aH rfl (bF rfl rfl (aA rfl) (aT hS rfl) c46 (bP (aA rfl) (aI hS rfl) (aI hS rfl) bW.of (cA aP h48))),
      fun S hS => aH rfl (bF rfl rfl (aA rfl) (aT hS rfl) c46 (bO (aA rfl) (aI hS rfl) bH)),
      fun S hS => aH rfl (bF rfl rfl (aA rfl) (aT hS rfl) c46 (aU (aA rfl) (aI hS rfl) uM)),
      fun S hS => aH rfl (bF rfl rfl (aA rfl) (aT hS rfl) c46 (aW (aA rfl) (aI hS rfl) (i := 1) rfl rfl bH)),
      fun S hS => aH rfl (bF rfl rfl (aA rfl) (aT hS rfl) c46 (bJ (aA rfl) (aI hS rfl) (aI hS rfl) rfl)),
      fun S hS => aH rfl (aS rfl (bL (v := .d (.lit (.bool ((decide (x47 = x_2.A)))))) (aA rfl) (aI hS rfl) c46 (aI hS rfl) rfl)), trivial⟩⟩
             · exact dA (aV rfl (bC ⟨rfl, rfl, rfl, rfl, rfl, trivial⟩))
           ·refine tr1 rfl (aM (v := .d (.lit (.bool b44))) (aA rfl) rfl rfl) ?_
            refine aF ?_
            refine aG ?_
            obtain ⟨b49, h50, h⟩ := bind_some h
            refine dU mix 14 [1, 3, 5, 8, 10, 11] [(148, .d (.lit (.bool b49)))] ?_ ?_
            ·refine bG (decide (0 < i_2_41)) (fun c51 => ?_) (fun c51 => ?_)
             ·have h50 := bA c51 h50
              obtain ⟨x52, h53, h50⟩ := bind_some h50
              obtain ⟨x54, h55, h50⟩ := bind_some h50
              have h50 := Option.some.inj h50
              subst h50
              refine ⟨[(135, 0, .d (.lit (.int .i64 i_2_41))), (136, 1, .d (.lit (.bool ((decide (0 < i_2_41)))))), (137, 2, .d (.lit (.bool ((decide (0 < i_2_41)))))), (138, 3, .d (.sl 1 (r36.1.map aP))), (139, 4, .d (.lit (.int .i64 i_2_41))), (140, 5, .cp [.lit (.int .i64 x52)]), (141, 6, .d (.lit (.int .i64 x52))), (142, 7, .d (.sl 1 (r36.1.map aP))), (143, 8, .d (.lit (.int .i64 i_2_41))), (144, 9, .d (.lit (.int .i64 ((w64 (i_2_41 - 1)))))), (145, 10, .cp [.lit (.int .i64 x54)]), (146, 11, .d (.lit (.int .i64 x54))), (147, 12, .d (.lit (.bool ((decide (x52 ≤ x54)))))), (148, 13, .d (.lit (.bool ((decide (x52 ≤ x54))))))], ?_, ?_⟩
              · exact ⟨by kernel_rfl, by kernel_rfl, by kernel_rfl, by kernel_rfl, by kernel_rfl, [([], []), ([0], []), ([1], []), ([2], []), ([2], []), ([2, 3, 4], []), ([2, 5], []), ([2], []), ([2], []), ([2, 8], []), ([2, 7, 9], []), ([2, 10], []), ([2, 6, 11], []), ([2, 12], [])], by kernel_rfl, ⟨fun S hS => aH rfl (aS rfl (aE (v := .d (.lit (.int .i64 i_2_41))) (aA rfl) (aI hS rfl) rfl)),
      fun S hS => aH rfl (aS rfl (bJ (aA rfl) (aI hS rfl) rfl rfl)),
      fun S hS => aH rfl (aS rfl (aE (v := .d (.lit (.bool ((decide (0 < i_2_41)))))) (aA rfl) (aI hS rfl) rfl)),
      fun S hS => aH rfl (bF rfl rfl (aA rfl) (aT hS rfl) c51 (aE (v := .d (.sl 1 (r36.1.map aP))) (aA rfl) (aI hS rfl) rfl)),
      fun S hS => aH rfl (bF rfl rfl (aA rfl) (aT hS rfl) c51 (aE (v := .d (.lit (.int .i64 i_2_41))) (aA rfl) (aI hS rfl) rfl)),
      fun S hS => aH rfl (bF rfl rfl (aA rfl) (aT hS rfl) c51 (bP (aA rfl) (aI hS rfl) (aI hS rfl) bW.of (cA aP h53))),
      fun S hS => aH rfl (bF rfl rfl (aA rfl) (aT hS rfl) c51 (bO (aA rfl) (aI hS rfl) bH)),
      fun S hS => aH rfl (bF rfl rfl (aA rfl) (aT hS rfl) c51 (aE (v := .d (.sl 1 (r36.1.map aP))) (aA rfl) (aI hS rfl) rfl)),
      fun S hS => aH rfl (bF rfl rfl (aA rfl) (aT hS rfl) c51 (aE (v := .d (.lit (.int .i64 i_2_41))) (aA rfl) (aI hS rfl) rfl)),
      fun S hS => aH rfl (bF rfl rfl (aA rfl) (aT hS rfl) c51 (bK (aA rfl) (aI hS rfl) rfl rfl)),
      fun S hS => aH rfl (bF rfl rfl (aA rfl) (aT hS rfl) c51 (bP (aA rfl) (aI hS rfl) (aI hS rfl) bW.of (cA aP h55))),
      fun S hS => aH rfl (bF rfl rfl (aA rfl) (aT hS rfl) c51 (bO (aA rfl) (aI hS rfl) bH)),
      fun S hS => aH rfl (bF rfl rfl (aA rfl) (aT hS rfl) c51 (bJ (aA rfl) (aI hS rfl) (aI hS rfl) rfl)),
      fun S hS => aH rfl (aS rfl (bM (v := .d (.lit (.bool ((decide (x52 ≤ x54)))))) (aA rfl) (aI hS rfl) c51 (aI hS rfl) rfl)), trivial⟩⟩
              · exact dA (aV rfl (bC ⟨rfl, rfl, rfl, rfl, rfl, rfl, trivial⟩))
             ·have h50 := aZ c51 h50
              have h50 := Option.some.inj h50
              subst h50
              refine ⟨[(135, 0, .d (.lit (.int .i64 i_2_41))), (136, 1, .d (.lit (.bool ((decide (0 < i_2_41)))))), (137, 2, .d (.lit (.bool ((decide (0 < i_2_41)))))), (138, 3, .tup []), (139, 4, .tup []), (140, 5, .tup []), (141, 6, .tup []), (142, 7, .tup []), (143, 8, .tup []), (144, 9, .tup []), (145, 10, .tup []), (146, 11, .tup []), (147, 12, .tup []), (148, 13, .d (.lit (.bool false)))], ?_, ?_⟩
              · exact ⟨by kernel_rfl, by kernel_rfl, by kernel_rfl, by kernel_rfl, by kernel_rfl, [([], []), ([0], []), ([1], []), ([2], []), ([2], []), ([2, 3, 4], []), ([2, 5], []), ([2], []), ([2], []), ([2, 8], []), ([2, 7, 9], []), ([2, 10], []), ([2, 6, 11], []), ([2, 12], [])], by kernel_rfl, ⟨fun S hS => aH rfl (aS rfl (aE (v := .d (.lit (.int .i64 i_2_41))) (aA rfl) (aI hS rfl) rfl)),
      fun S hS => aH rfl (aS rfl (bJ (aA rfl) (aI hS rfl) rfl rfl)),
      fun S hS => aH rfl (aS rfl (aE (v := .d (.lit (.bool ((decide (0 < i_2_41)))))) (aA rfl) (aI hS rfl) rfl)),
      fun S hS => aH rfl (bE rfl rfl (aA rfl) rfl (aA rfl) (aT hS rfl) c51),
      fun S hS => aH rfl (bE rfl rfl (aA rfl) rfl (aA rfl) (aT hS rfl) c51),
      fun S hS => aH rfl (bE rfl rfl (aA rfl) rfl (aA rfl) (aT hS rfl) c51),
      fun S hS => aH rfl (bE rfl rfl (aA rfl) rfl (aA rfl) (aT hS rfl) c51),
      fun S hS => aH rfl (bE rfl rfl (aA rfl) rfl (aA rfl) (aT hS rfl) c51),
      fun S hS => aH rfl (bE rfl rfl (aA rfl) rfl (aA rfl) (aT hS rfl) c51),
      fun S hS => aH rfl (bE rfl rfl (aA rfl) rfl (aA rfl) (aT hS rfl) c51),
      fun S hS => aH rfl (bE rfl rfl (aA rfl) rfl (aA rfl) (aT hS rfl) c51),
      fun S hS => aH rfl (bE rfl rfl (aA rfl) rfl (aA rfl) (aT hS rfl) c51),
      fun S hS => aH rfl (bE rfl rfl (aA rfl) rfl (aA rfl) (aT hS rfl) c51),
      fun S hS => aH rfl (aS rfl (bL (v := .d (.lit (.bool false))) (aA rfl) (aI hS rfl) c51 rfl rfl)), trivial⟩⟩
              · exact dA (aV rfl (bC ⟨rfl, rfl, rfl, rfl, rfl, rfl, trivial⟩))
            ·refine aF ?_
             refine bU rfl (fun c56 => ?_) (fun c56 => ?_)
             ·have h := bA c56 h
              refine aG ?_
              refine aC ?_
              refine tr1 rfl (aM (v := .d (.lit (.bool false))) (aA rfl) rfl rfl) ?_
              refine aF ?_
              have h := Option.some.inj h
              subst h
              refine cS (cP (cT (l := [6]) ⟨rfl, trivial⟩)) ?_
              exact bQ ⟨rfl, _, .one _, rfl, rfl⟩
             ·have h := aZ c56 h
              refine eH ?_
              refine aC ?_
              refine tr1 rfl (aE (v := .d (.lit (.int .i64 i_2_41))) (aA rfl) rfl rfl) ?_
              refine tr1 rfl (bK (aA rfl) rfl rfl rfl) ?_
              refine tr1 rfl (aM (v := .d (.lit (.int .i64 ((w64 (i_2_41 + 1)))))) (aA rfl) rfl rfl) ?_
              refine aF ?_
              exact ⟨(b44, w64 (i_2_41 + 1)), h, bD [0, 1] rfl rfl (aV rfl (aV rfl (bC ⟨rfl, rfl, rfl, rfl, trivial⟩)))⟩
          ·have h := aZ c43 h
           refine dE ?_
           refine .inl ⟨rfl, ?_⟩
           simp only [iM] at h
           refine aG ?_
           obtain ⟨x58, h59, h⟩ := bind_some h
           refine rI mix 11 [3, 10] (fun X57 => [(151, .d (.lit (X57 2).v)), (159, .d (.sl 5 ((([(aD.mk 1 x_2.Round x_2.Place x_2.A 0)])).map aK)))]) (fun X57 => [.box b1 0 (aR t_0), .box b2 0 (fL x_2), .arr (X57 2).v 32 5 (x58.map aK)]) ?_ ?_
           ·refine ⟨1, fun X57 => [(149, 0, .d (.lit (X57 0).v)), (150, 1, .d (.sl 5 (l_1.map aK))), (151, 2, .d (.lit (X57 2).v)), (152, 3, .bp b2 0 0), (153, 4, .d (.lit (.int .i64 x_2.Round))), (154, 5, .bp b2 0 1), (155, 6, .d (.lit (.int .i64 x_2.Place))), (156, 7, .bp b2 0 2), (157, 8, .d (.lit (.int .i64 x_2.A))), (158, 9, .agg (aK (aD.mk 1 x_2.Round x_2.Place x_2.A 0))), (159, 10, .d (.sl 5 ((([(aD.mk 1 x_2.Round x_2.Place x_2.A 0)])).map aK)))], fun X57 => [([], .box b1 0 (aR t_0)), ([], .box b2 0 (fL x_2)), ([(2, .arr (X57 2).v 32 5 (x58.map aK)), (0, .arr (X57 0).v 32 5 (([] : List aD).map aK))], nob)], ?_, ?_⟩
            · exact ⟨by kernel_rfl, by kernel_rfl, by kernel_rfl, fun _ => by kernel_rfl, fun _ => by kernel_rfl, fun _ => by kernel_rfl, fun _ => rfl, [([], [2]), ([], [2]), ([0, 1], []), ([], []), ([3], []), ([], []), ([5], []), ([], []), ([7], []), ([4, 6, 8], []), ([9], [])], by kernel_rfl, ⟨fun X57 S hw hi hS => zX (X := X57) (p := 2) (v := fun x => .d (.lit x.v)) (mo := fun x => .arr x.v 32 5 (([] : List aD).map aK)) hS hi rfl rfl (fun _ => rfl) hw (fun _ => rfl) (fun _ => rfl) (fun _ => rfl) (fun _ => ⟨rfl, rfl, .inl rfl, ⟨rfl, rfl, .inr rfl, ⟨rfl, rfl, .inr rfl, ⟨rfl, rfl, .inr rfl, ⟨rfl, rfl, .inr rfl, ⟨rfl, rfl, .inr rfl, ⟨rfl, rfl, .inr rfl, ⟨rfl, rfl, .inr rfl, ⟨rfl, rfl, .inr rfl, ⟨rfl, rfl, .inr rfl, ⟨rfl, rfl, .inr rfl, trivial⟩⟩⟩⟩⟩⟩⟩⟩⟩⟩⟩) (fun _ => ⟨trivial, rfl, ⟨trivial, rfl, ⟨⟨rfl, .inr rfl, ⟨rfl, .inl rfl, trivial⟩⟩, rfl, trivial⟩⟩⟩) (rH (wN (aA rfl) eA rfl pan (rows := (([] : List aD)).map aK) rfl (dM (f := aK) fun _ => rfl) rfl (by decide)) (by rintro _ ⟨w, rfl⟩; exact ⟨⟨0, w⟩, bD [0, 1, 3] rfl rfl (le_refl _)⟩)),
      fun X57 S hw hi hS => fR (X := X57) rfl (hw X57) rfl (aS rfl (aE (v := .d (.sl 5 (l_1.map aK))) (aA rfl) (aI hS rfl) rfl)),
      fun X57 S hw hi hS => zX (X := X57) (p := 2) (v := fun x => .d (.lit x.v)) (mo := fun x => .arr x.v 32 5 (x58.map aK)) hS hi rfl rfl (fun _ => rfl) hw (fun _ => rfl) (fun _ => rfl) (fun _ => rfl) (fun _ => ⟨rfl, rfl, .inr rfl, ⟨rfl, rfl, .inr rfl, ⟨rfl, rfl, .inl rfl, ⟨rfl, rfl, .inr rfl, ⟨rfl, rfl, .inr rfl, ⟨rfl, rfl, .inr rfl, ⟨rfl, rfl, .inr rfl, ⟨rfl, rfl, .inr rfl, ⟨rfl, rfl, .inr rfl, ⟨rfl, rfl, .inr rfl, ⟨rfl, rfl, .inr rfl, trivial⟩⟩⟩⟩⟩⟩⟩⟩⟩⟩⟩) (fun _ => ⟨trivial, rfl, ⟨trivial, rfl, ⟨⟨rfl, .inl rfl, ⟨rfl, .inr rfl, trivial⟩⟩, rfl, trivial⟩⟩⟩) (rH (fM (i := 2) (aA rfl) eA (aI hS rfl) (og hS rfl rfl) (aI hS rfl) (fun _ => rfl) h59 rfl) (by rintro _ ⟨w, rfl⟩; exact ⟨⟨0, w⟩, Ent.refl _⟩)),
      fun X57 S hw hi hS => fR (X := X57) rfl (hw X57) rfl (aS rfl (aU (aA rfl) (aI hS rfl) qH)),
      fun X57 S hw hi hS => fR (X := X57) rfl (hw X57) rfl (aS rfl (aW (aA rfl) (aI hS rfl) (i := 1) (og hS rfl rfl) rfl bH)),
      fun X57 S hw hi hS => fR (X := X57) rfl (hw X57) rfl (aS rfl (aU (aA rfl) (aI hS rfl) qI)),
      fun X57 S hw hi hS => fR (X := X57) rfl (hw X57) rfl (aS rfl (aW (aA rfl) (aI hS rfl) (i := 1) (og hS rfl rfl) rfl bH)),
      fun X57 S hw hi hS => fR (X := X57) rfl (hw X57) rfl (aS rfl (aU (aA rfl) (aI hS rfl) uM)),
      fun X57 S hw hi hS => fR (X := X57) rfl (hw X57) rfl (aS rfl (aW (aA rfl) (aI hS rfl) (i := 1) (og hS rfl rfl) rfl bH)),
      fun X57 S hw hi hS => fR (X := X57) rfl (hw X57) rfl (aS rfl (eP (aA rfl) wR (zs := [.lit (.int .i64 0), .lit (.int .i64 0), .lit (.int .i64 0), .lit (.int .i64 0), .lit (.int .i64 0)]) rfl rfl rfl (pa2 rfl (pa2 (aI hS rfl) (pa2 (aI hS rfl) (pa2 (aI hS rfl) pan)))) (es := [.lit (.int .i64 1), .lit (.int .i64 x_2.Round), .lit (.int .i64 x_2.Place), .lit (.int .i64 x_2.A), .lit (.int .i64 0)]) rfl)),
      fun X57 S hw hi hS => fR (X := X57) rfl (hw X57) rfl (aS rfl (fZ (aA rfl) eA rfl (pa2 (aI hS rfl) pan) (rows := ([(aD.mk 1 x_2.Round x_2.Place x_2.A 0)]).map aK) rfl (dM (f := aK) fun _ => rfl) rfl (by decide))), trivial⟩⟩
            · exact fun X57 => dA (aV rfl (aV rfl (bC ⟨rfl, rfl, trivial⟩)))
           ·intro X57
            obtain ⟨x60, h61, h⟩ := bind_some h
            refine bZ rfl (fM (i := 2) (aA rfl) eA rfl rfl rfl (fun _ => rfl) h61 rfl) ?_
            rintro _ ⟨v62, rfl⟩
            refine kC (aJn [.box b1 0 (aR t_0), .box b2 0 (fL x_2)] [.arr v62 32 5 (x60.map aK)] rfl (aKk (v' := .d (.sl 5 (x60.map aK))) (.d (aJm (dM (f := aK) fun _ => rfl))) (aHt _ _))) ?_
            refine tr1 rfl (aM (v := .d (.sl 5 (x60.map aK))) (aA rfl) rfl rfl) ?_
            refine aF ?_
            refine aG ?_
            refine aC ?_
            refine tr1 rfl (bR (aA rfl) rfl (i := 0) rfl eB (es := (aR t_0)) rfl rfl) ?_
            refine tr1 rfl (aE (v := .d (.sl 5 (x60.map aK))) (aA rfl) rfl rfl) ?_
            obtain ⟨r63, h64, h⟩ := bind_some h
            refine tr1 rfl (cR (aA rfl) (.func _ _ Try.call16) rfl rfl (BVs.refl _ _) (yR _ _ h64) rfl) ?_
            refine tr1 rfl (aM (v := .d (.lit (.int .i64 r63))) (aA rfl) rfl rfl) ?_
            refine aF ?_
            refine aG ?_
            refine aC ?_
            refine tr1 rfl (aE (v := .d (.lit (.bool found_2_41))) (aA rfl) rfl rfl) ?_
            refine tr1 rfl (aE (v := .d (.lit (.bool found_2_41))) (aA rfl) rfl rfl) ?_
            obtain ⟨b65, h66, h⟩ := bind_some h
            refine cC 3 [10, 13] 168 b65 ?_ ?_
            ·refine bG (found_2_41) (fun c78 => ?_) (fun c78 => ?_)
             ·have h66 := bA c78 h66
              refine aL rfl rfl (aA rfl) rfl c78 (aE (v := .d (.lit (.int .i64 r63))) (aA rfl) rfl rfl) ?_
              refine aL rfl rfl (aA rfl) rfl c78 (bJ (aA rfl) rfl rfl rfl) ?_
              refine tr1 rfl (bM (v := .d (.lit (.bool ((decide (r63 = 0)))))) (aA rfl) rfl c78 rfl rfl) ?_
              have h66 := Option.some.inj h66
              subst h66
              refine aF (bB rfl ⟨rfl, rfl, trivial⟩ rfl)
             ·have h66 := aZ c78 h66
              refine aN rfl rfl (aA rfl) rfl (aA rfl) rfl c78 ?_
              refine aN rfl rfl (aA rfl) rfl (aA rfl) rfl c78 ?_
              refine tr1 rfl (bL (v := .d (.lit (.bool false))) (aA rfl) rfl c78 rfl rfl) ?_
              have h66 := Option.some.inj h66
              subst h66
              refine aF (bB rfl ⟨rfl, rfl, trivial⟩ rfl)
            ·refine tr1 rfl (aE (v := .d (.lit (.bool b65))) (aA rfl) rfl rfl) ?_
             obtain ⟨b67, h68, h⟩ := bind_some h
             refine cC 7 [] 176 b67 ?_ ?_
             ·refine bG (b65) (fun c74 => ?_) (fun c74 => ?_)
              ·have h68 := bA c74 h68
               refine aN rfl rfl (aA rfl) rfl (aA rfl) rfl c74 ?_
               refine aN rfl rfl (aA rfl) rfl (aA rfl) rfl c74 ?_
               refine aN rfl rfl (aA rfl) rfl (aA rfl) rfl c74 ?_
               refine cE rfl rfl (aA rfl) rfl (aA rfl) rfl ?_
               refine cE rfl rfl (aA rfl) rfl (aA rfl) rfl ?_
               refine aN rfl rfl (aA rfl) rfl (aA rfl) rfl c74 ?_
               refine tr1 rfl (bM (v := .d (.lit (.bool true))) (aA rfl) rfl c74 rfl rfl) ?_
               have h68 := Option.some.inj h68
               subst h68
               refine aF (bB rfl trivial rfl)
              ·have h68 := aZ c74 h68
               refine aL rfl rfl (aA rfl) rfl c74 (aE (v := .d (.lit (.bool found_2_41))) (aA rfl) rfl rfl) ?_
               refine aL rfl rfl (aA rfl) rfl c74 (fS (aA rfl) rfl) ?_
               refine aL rfl rfl (aA rfl) rfl c74 (aE (v := .d (.lit (.bool (!found_2_41)))) (aA rfl) rfl rfl) ?_
               obtain ⟨b75, h76, h68⟩ := bind_some h68
               refine cC 3 [169] 175 b75 ?_ ?_
               ·refine bG (!found_2_41) (fun c77 => ?_) (fun c77 => ?_)
                ·have h76 := bA c77 h76
                 refine aL rfl rfl (aA rfl) rfl c77 (aE (v := .d (.lit (.int .i64 r63))) (aA rfl) rfl rfl) ?_
                 refine aL rfl rfl (aA rfl) rfl c77 (bJ (aA rfl) rfl rfl rfl) ?_
                 refine aL rfl rfl (aA rfl) rfl c74 (bM (v := .d (.lit (.bool ((decide (r63 = 72)))))) (aA rfl) rfl c77 rfl rfl) ?_
                 have h76 := Option.some.inj h76
                 subst h76
                 refine aF (bB rfl ⟨rfl, trivial⟩ rfl)
                ·have h76 := aZ c77 h76
                 refine aN rfl rfl (aA rfl) rfl (aA rfl) rfl c77 ?_
                 refine aN rfl rfl (aA rfl) rfl (aA rfl) rfl c77 ?_
                 refine aL rfl rfl (aA rfl) rfl c74 (bL (v := .d (.lit (.bool false))) (aA rfl) rfl c77 rfl rfl) ?_
                 have h76 := Option.some.inj h76
                 subst h76
                 refine aF (bB rfl ⟨rfl, trivial⟩ rfl)
               ·refine tr1 rfl (bL (v := .d (.lit (.bool b75))) (aA rfl) rfl c74 rfl rfl) ?_
                have h68 := Option.some.inj h68
                subst h68
                refine aF (bB rfl trivial rfl)
             ·refine tr1 rfl (aE (v := .d (.lit (.bool b67))) (aA rfl) rfl rfl) ?_
              obtain ⟨b69, h70, h⟩ := bind_some h
              refine cC 2 [] 179 b69 ?_ ?_
              ·refine bG (b67) (fun c71 => ?_) (fun c71 => ?_)
               ·have h70 := bA c71 h70
                obtain ⟨r72, h73, h70⟩ := bind_some h70
                refine aL rfl rfl (aA rfl) rfl c71 (cR (aA rfl) (.func _ _ Try.call14) rfl rfl (BVs.refl _ _) (nK h73) rfl) ?_
                refine tr1 rfl (bM (v := .d (.lit (.bool r72))) (aA rfl) rfl c71 rfl rfl) ?_
                have h70 := Option.some.inj h70
                subst h70
                refine aF (bB rfl trivial rfl)
               ·have h70 := aZ c71 h70
                refine aN rfl rfl (aA rfl) rfl (aA rfl) rfl c71 ?_
                refine tr1 rfl (bL (v := .d (.lit (.bool false))) (aA rfl) rfl c71 rfl rfl) ?_
                have h70 := Option.some.inj h70
                subst h70
                refine aF (bB rfl trivial rfl)
              ·refine tr1 rfl (aM (v := .d (.lit (.bool b69))) (aA rfl) rfl rfl) ?_
               refine aF ?_
               have h := Option.some.inj h
               subst h
               refine cS (cP (cT (l := [6]) ⟨rfl, trivial⟩)) ?_
               exact bQ ⟨rfl, _, .one _, rfl, rfl⟩

end Go.Am
