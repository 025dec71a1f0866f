/- The functions compute what the shallow ones say: printed by program. -/
import Derived.Test.YtenffgkkeafnpaaBracketCourseSimP1
namespace Go.Am
open Go.Proofs
set_option maxRecDepth 100000
set_option maxHeartbeats 4000000

theorem qU (t_0 : aT) (l_1 : List aI) {r : (List Int) × Bool} (h : iC t_0 l_1 = some r) : Fn Try.prog 18 [.agg (aY t_0), .d (.sl 5 (l_1.map aP))] (.tup [.d (.sl 1 (r.1.map aO)), .d (.lit (.bool r.2))]) := by
 unfold iC at h
 refine Fn.of_tr Try.func18 rfl (rs := [.tmp 4, .tmp 5]) Try.results18 Try.ntmps18 (Nat.le_of_ble_eq_true rfl) ?_
 refine aK ?_
 refine aH ?_
 refine cE rfl (gL (v := .agg (aY t_0)) (aA rfl) rfl rfl rfl) ?_
 rintro _ ⟨b1, rfl⟩
 refine tr1 rfl (rH 1 (aA rfl)) ?_
 refine tr1 rfl (aL (v := .d (.lit (.bool false))) (aA rfl) rfl rfl) ?_
 refine aJ ?_
 refine aK ?_
 refine aH ?_
 refine tr1 rfl (aE (v := .d (.sl 5 (l_1.map aP))) (aA rfl) rfl rfl) ?_
 obtain ⟨r2, h3, h⟩ := bind_some h
 refine tr1 rfl (gN (aA rfl) (.func _ _ Try.call51) rfl rfl (tF _ h3)) ?_
 refine tr1 rfl (aL (v := .d (.sl 5 (r2.map aP))) (aA rfl) rfl rfl) ?_
 refine aJ ?_
 refine aK ?_
 refine aH ?_
 refine cE rfl (aCv (aA rfl) bP rfl rfl (rows := (([] : List Int)).map aO) rfl (dV (f := aO) fun _ => rfl) rfl (by decide)) ?_
 rintro _ ⟨v4, rfl⟩
 refine tr1 rfl (aS (aA rfl) rfl dZ) ?_
 refine tr1 rfl (aU (aA rfl) rfl (i := 0) rfl rfl cU) ?_
 obtain ⟨x5, h6, h⟩ := bind_some h
 refine cE rfl (gC (i := 1) (aA rfl) bP rfl rfl rfl (fun _ => rfl) h6 rfl) ?_
 rintro _ ⟨v7, rfl⟩
 refine tr1 rfl (aL (v := .d (.lit v7)) (aA rfl) rfl rfl) ?_
 refine aJ ?_
 refine aK ?_
 refine aH ?_
 refine tr1 rfl (jE 3 1 (.inl rfl) (aA rfl)) ?_
 refine aJ ?_
 refine aK ?_
 refine aH ?_
 refine tr1 rfl (aL (v := .d (.lit (.int .i64 0))) (aA rfl) rfl rfl) ?_
 refine aJ ?_
 refine aK ?_
 refine aK ?_
 refine aH ?_
 refine tr1 rfl (aL (v := .d (.lit (.int .i64 0))) (aA rfl) rfl rfl) ?_
 refine aJ ?_
 refine cF ?_
 refine dJ [2, 6] (fun (s9 : Int × Int × (List Int) × (List Int) × Value × Value) => [(7, .d (.lit s9.2.2.2.2.2)), (8, .d (.lit s9.2.2.2.2.1)), (9, .d (.lit (.int .i64 s9.1))), (10, .d (.lit (.int .i64 s9.2.1)))]) (fun (s9 : Int × Int × (List Int) × (List Int) × Value × Value) => [.box b1 0 (aY t_0), .arr s9.2.2.2.2.1 3 1 (s9.2.2.1.map aO), .arr s9.2.2.2.2.2 3 1 (s9.2.2.2.1.map aO)]) (fun (k : Nat) (s9 : Int × Int × (List Int) × (List Int) × Value × Value) => dT r2 t_0 k s9.1 s9.2.1 s9.2.2.1 s9.2.2.2.1) (fun _ => rfl) (0, 0, ([] : List Int), x5, (.slice none 0 0), v7) h (bK [0, 2, 1] rfl rfl (aX rfl (aX rfl (aX rfl (aX rfl (bF ⟨rfl, rfl, trivial⟩)))))) ?_
 rintro k12 ⟨used_0_9, i_0_9, out_0_9, o18_0_9, w10, w11⟩ h
 simp only [dT] at h
 refine aK ?_
 refine aK ?_
 refine aH ?_
 refine tr1 rfl (aE (v := .d (.lit (.int .i64 i_0_9))) (aA rfl) rfl rfl) ?_
 refine tr1 rfl (aS (aA rfl) rfl dZ) ?_
 refine tr1 rfl (aU (aA rfl) rfl (i := 0) rfl rfl cU) ?_
 refine tr1 rfl (dR (aA rfl) rfl bP.of) ?_
 refine tr1 rfl (bE (aA rfl) rfl rfl rfl) ?_
 refine aJ ?_
 refine bY rfl (fun c13 => ?_) (fun c13 => ?_)
 ·have h := bD c13 h
  refine bU ?_
  refine aK ?_
  refine cF ?_
  refine aK ?_
  refine aH ?_
  refine tr1 rfl (aS (aA rfl) rfl dZ) ?_
  refine tr1 rfl (aU (aA rfl) rfl (i := 0) rfl rfl cU) ?_
  refine tr1 rfl (aE (v := .d (.lit (.int .i64 i_0_9))) (aA rfl) rfl rfl) ?_
  obtain ⟨x14, h15, h⟩ := bind_some h
  refine tr1 rfl (bA (aA rfl) rfl rfl bP.of (bJ aO h15)) ?_
  refine tr1 rfl (bC (aA rfl) rfl aZ) ?_
  refine tr1 rfl (aL (v := .d (.lit (.int .i64 x14))) (aA rfl) rfl rfl) ?_
  refine aJ ?_
  refine aK ?_
  refine aK ?_
  refine aH ?_
  refine tr1 rfl (aL (v := .d (.lit (.bool true))) (aA rfl) rfl rfl) ?_
  refine aJ ?_
  refine cF ?_
  refine dJ [2, 6, 8, 10] (fun (s16 : Int × Int × Bool × (List Int) × Value) => [(7, .d (.lit s16.2.2.2.2)), (9, .d (.lit (.int .i64 s16.1))), (11, .d (.lit (.int .i64 s16.2.1))), (12, .d (.lit (.bool s16.2.2.1)))]) (fun (s16 : Int × Int × Bool × (List Int) × Value) => [.box b1 0 (aY t_0), .arr w10 3 1 (out_0_9.map aO), .arr s16.2.2.2.2 3 1 (s16.2.2.2.1.map aO)]) (fun (k : Nat) (s16 : Int × Int × Bool × (List Int) × Value) => eX (dT r2 t_0 k12) r2 i_0_9 t_0 out_0_9 k s16.1 s16.2.1 s16.2.2.1 s16.2.2.2.1) (fun _ => rfl) (used_0_9, x14, true, o18_0_9, w11) h (bK [0, 1, 2] rfl rfl (aX rfl (aX rfl (aX rfl (aX rfl (bF ⟨rfl, rfl, rfl, rfl, trivial⟩)))))) ?_
  rintro k18 ⟨used_2_16, now_2_16, again_2_16, o18_2_16, w17⟩ h
  simp only [eX] at h
  refine aK ?_
  refine aK ?_
  refine aH ?_
  refine tr1 rfl (aE (v := .d (.lit (.bool again_2_16))) (aA rfl) rfl rfl) ?_
  refine aJ ?_
  refine bY rfl (fun c19 => ?_) (fun c19 => ?_)
  ·have h := bD c19 h
   refine bU ?_
   refine cF ?_
   refine aK ?_
   refine aH ?_
   refine tr1 rfl (aL (v := .d (.lit (.bool false))) (aA rfl) rfl rfl) ?_
   refine aJ ?_
   refine aK ?_
   refine aH ?_
   refine tr1 rfl (jE 3 1 (.inl rfl) (aA rfl)) ?_
   refine aJ ?_
   refine aK ?_
   refine aK ?_
   refine aH ?_
   refine tr1 rfl (aL (v := .d (.lit (.int .i64 0))) (aA rfl) rfl rfl) ?_
   refine aJ ?_
   refine cF ?_
   refine dJ [2, 6, 7, 8, 9, 10, 11, 12] (fun (s21 : Int × (List Int) × Value) => [(13, .d (.lit s21.2.2)), (14, .d (.lit (.int .i64 s21.1)))]) (fun (s21 : Int × (List Int) × Value) => [.box b1 0 (aY t_0), .arr w10 3 1 (out_0_9.map aO), .arr s21.2.2 3 1 (s21.2.1.map aO), .arr w17 3 1 (o18_2_16.map aO)]) (fun (k : Nat) (s21 : Int × (List Int) × Value) => eJ (dT r2 t_0 k12) (eX (dT r2 t_0 k12) r2 i_0_9 t_0 out_0_9 k18) r2 used_2_16 i_0_9 now_2_16 false t_0 out_0_9 o18_2_16 k s21.1 s21.2.1) (fun _ => rfl) (0, ([] : List Int), (.slice none 0 0)) h (bK [0, 1, 3, 2] rfl rfl (aX rfl (aX rfl (bF ⟨rfl, rfl, rfl, rfl, rfl, rfl, rfl, rfl, trivial⟩)))) ?_
   rintro k23 ⟨k_4_21, nextv_4_21, w22⟩ h
   simp only [eJ] at h
   refine aK ?_
   refine aK ?_
   refine aH ?_
   refine tr1 rfl (aE (v := .d (.lit (.int .i64 k_4_21))) (aA rfl) rfl rfl) ?_
   refine tr1 rfl (aE (v := .d (.sl 5 (r2.map aP))) (aA rfl) rfl rfl) ?_
   refine tr1 rfl (dR (aA rfl) rfl fT.of) ?_
   refine tr1 rfl (bE (aA rfl) rfl rfl rfl) ?_
   refine aJ ?_
   refine bY rfl (fun c24 => ?_) (fun c24 => ?_)
   ·have h := bD c24 h
    refine bU ?_
    refine aK ?_
    refine cF ?_
    refine aK ?_
    refine aH ?_
    refine tr1 rfl (aE (v := .d (.sl 5 (r2.map aP))) (aA rfl) rfl rfl) ?_
    refine tr1 rfl (aE (v := .d (.lit (.int .i64 k_4_21))) (aA rfl) rfl rfl) ?_
    obtain ⟨x25, h26, h⟩ := bind_some h
    refine tr1 rfl (bA (aA rfl) rfl rfl fT.of (bJ aP h26)) ?_
    refine tr1 rfl (cW (aA rfl) rfl lS (es := [.lit (.int .i64 x25.Kind)]) rfl) ?_
    refine tr1 rfl (bC (aA rfl) rfl aZ) ?_
    refine tr1 rfl (bE (aA rfl) rfl rfl rfl) ?_
    refine tr1 rfl (aE (v := .d (.lit (.bool ((decide (x25.Kind = 5)))))) (aA rfl) rfl rfl) ?_
    obtain ⟨b27, h28, h⟩ := bind_some h
    refine cK 8 [2, 6, 7, 8, 9, 10, 11, 12, 13, 14] 55 b27 ?_ ?_
    ·refine bM (decide (x25.Kind = 5)) (fun c40 => ?_) (fun c40 => ?_)
     ·have h28 := bD c40 h28
      refine aQ rfl rfl (aA rfl) rfl c40 (aE (v := .d (.sl 5 (r2.map aP))) (aA rfl) rfl rfl) ?_
      refine aQ rfl rfl (aA rfl) rfl c40 (aE (v := .d (.lit (.int .i64 k_4_21))) (aA rfl) rfl rfl) ?_
      obtain ⟨x41, h42, h28⟩ := bind_some h28
      refine aQ rfl rfl (aA rfl) rfl c40 (bA (aA rfl) rfl rfl fT.of (bJ aP h42)) ?_
      refine aQ rfl rfl (aA rfl) rfl c40 (cW (aA rfl) rfl iH (es := [.lit (.int .i64 x41.Place)]) rfl) ?_
      refine aQ rfl rfl (aA rfl) rfl c40 (bC (aA rfl) rfl aZ) ?_
      refine aQ rfl rfl (aA rfl) rfl c40 (aE (v := .d (.lit (.int .i64 i_0_9))) (aA rfl) rfl rfl) ?_
      refine aQ rfl rfl (aA rfl) rfl c40 (bE (aA rfl) rfl rfl rfl) ?_
      refine tr1 rfl (bO (v := .d (.lit (.bool ((decide (x41.Place = i_0_9)))))) (aA rfl) rfl c40 rfl rfl) ?_
      have h28 := Option.some.inj h28
      subst h28
      refine aJ (bN rfl ⟨rfl, rfl, rfl, rfl, rfl, rfl, rfl, rfl, rfl, rfl, trivial⟩ rfl)
     ·have h28 := bB c40 h28
      refine aV rfl rfl (aA rfl) rfl (aA rfl) rfl c40 ?_
      refine aV rfl rfl (aA rfl) rfl (aA rfl) rfl c40 ?_
      refine aV rfl rfl (aA rfl) rfl (aA rfl) rfl c40 ?_
      refine aV rfl rfl (aA rfl) rfl (aA rfl) rfl c40 ?_
      refine aV rfl rfl (aA rfl) rfl (aA rfl) rfl c40 ?_
      refine aV rfl rfl (aA rfl) rfl (aA rfl) rfl c40 ?_
      refine aV rfl rfl (aA rfl) rfl (aA rfl) rfl c40 ?_
      refine tr1 rfl (bH (v := .d (.lit (.bool false))) (aA rfl) rfl c40 rfl rfl) ?_
      have h28 := Option.some.inj h28
      subst h28
      refine aJ (bN rfl ⟨rfl, rfl, rfl, rfl, rfl, rfl, rfl, rfl, rfl, rfl, trivial⟩ rfl)
    ·refine tr1 rfl (aE (v := .d (.lit (.bool b27))) (aA rfl) rfl rfl) ?_
     obtain ⟨b29, h30, h⟩ := bind_some h
     refine cK 8 [2, 6, 7, 8, 9, 10, 11, 12, 13, 14] 64 b29 ?_ ?_
     ·refine bM (b27) (fun c37 => ?_) (fun c37 => ?_)
      ·have h30 := bD c37 h30
       refine aQ rfl rfl (aA rfl) rfl c37 (aE (v := .d (.sl 5 (r2.map aP))) (aA rfl) rfl rfl) ?_
       refine aQ rfl rfl (aA rfl) rfl c37 (aE (v := .d (.lit (.int .i64 k_4_21))) (aA rfl) rfl rfl) ?_
       obtain ⟨x38, h39, h30⟩ := bind_some h30
       refine aQ rfl rfl (aA rfl) rfl c37 (bA (aA rfl) rfl rfl fT.of (bJ aP h39)) ?_
       refine aQ rfl rfl (aA rfl) rfl c37 (cW (aA rfl) rfl rV (es := [.lit (.int .i64 x38.Old)]) rfl) ?_
       refine aQ rfl rfl (aA rfl) rfl c37 (bC (aA rfl) rfl aZ) ?_
       refine aQ rfl rfl (aA rfl) rfl c37 (aE (v := .d (.lit (.int .i64 now_2_16))) (aA rfl) rfl rfl) ?_
       refine aQ rfl rfl (aA rfl) rfl c37 (bE (aA rfl) rfl rfl rfl) ?_
       refine tr1 rfl (bO (v := .d (.lit (.bool ((decide (x38.Old = now_2_16)))))) (aA rfl) rfl c37 rfl rfl) ?_
       have h30 := Option.some.inj h30
       subst h30
       refine aJ (bN rfl ⟨rfl, rfl, rfl, rfl, rfl, rfl, rfl, rfl, rfl, rfl, trivial⟩ rfl)
      ·have h30 := bB c37 h30
       refine aV rfl rfl (aA rfl) rfl (aA rfl) rfl c37 ?_
       refine aV rfl rfl (aA rfl) rfl (aA rfl) rfl c37 ?_
       refine aV rfl rfl (aA rfl) rfl (aA rfl) rfl c37 ?_
       refine aV rfl rfl (aA rfl) rfl (aA rfl) rfl c37 ?_
       refine aV rfl rfl (aA rfl) rfl (aA rfl) rfl c37 ?_
       refine aV rfl rfl (aA rfl) rfl (aA rfl) rfl c37 ?_
       refine aV rfl rfl (aA rfl) rfl (aA rfl) rfl c37 ?_
       refine tr1 rfl (bH (v := .d (.lit (.bool false))) (aA rfl) rfl c37 rfl rfl) ?_
       have h30 := Option.some.inj h30
       subst h30
       refine aJ (bN rfl ⟨rfl, rfl, rfl, rfl, rfl, rfl, rfl, rfl, rfl, rfl, trivial⟩ rfl)
     ·refine aJ ?_
      refine bY rfl (fun c31 => ?_) (fun c31 => ?_)
      ·have h := bD c31 h
       refine aH ?_
       refine tr1 rfl (aE (v := .d (.lit w22)) (aA rfl) rfl rfl) ?_
       refine tr1 rfl (aE (v := .d (.sl 5 (r2.map aP))) (aA rfl) rfl rfl) ?_
       refine tr1 rfl (aE (v := .d (.lit (.int .i64 k_4_21))) (aA rfl) rfl rfl) ?_
       obtain ⟨x32, h33, h⟩ := bind_some h
       refine tr1 rfl (bA (aA rfl) rfl rfl fT.of (bJ aP h33)) ?_
       refine tr1 rfl (cW (aA rfl) rfl lT (es := [.lit (.int .i64 x32.Player)]) rfl) ?_
       refine tr1 rfl (bC (aA rfl) rfl aZ) ?_
       refine tr1 rfl (gM (aA rfl) bP rfl rfl (rows := ([x32.Player]).map aO) rfl (dV (f := aO) fun _ => rfl) rfl (by decide)) ?_
       obtain ⟨x34, h35, h⟩ := bind_some h
       refine cE rfl (gC (i := 2) (aA rfl) bP rfl rfl rfl (fun _ => rfl) h35 rfl) ?_
       rintro _ ⟨v36, rfl⟩
       refine tr1 rfl (aL (v := .d (.lit v36)) (aA rfl) rfl rfl) ?_
       refine eY ?_
       refine aH ?_
       refine tr1 rfl (aE (v := .d (.lit (.int .i64 k_4_21))) (aA rfl) rfl rfl) ?_
       refine tr1 rfl (bL (aA rfl) rfl rfl rfl) ?_
       refine tr1 rfl (aL (v := .d (.lit (.int .i64 ((w64 (k_4_21 + 1)))))) (aA rfl) rfl rfl) ?_
       refine aJ ?_
       exact ⟨(w64 (k_4_21 + 1), x34, v36), h, bK [0, 1, 2, 3] rfl rfl (aX rfl (aX rfl (bF ⟨rfl, rfl, rfl, rfl, rfl, rfl, rfl, rfl, trivial⟩)))⟩
      ·have h := bB c31 h
       refine eH ?_
       refine aH ?_
       refine tr1 rfl (aE (v := .d (.lit (.int .i64 k_4_21))) (aA rfl) rfl rfl) ?_
       refine tr1 rfl (bL (aA rfl) rfl rfl rfl) ?_
       refine tr1 rfl (aL (v := .d (.lit (.int .i64 ((w64 (k_4_21 + 1)))))) (aA rfl) rfl rfl) ?_
       refine aJ ?_
       exact ⟨(w64 (k_4_21 + 1), nextv_4_21, w22), h, bK [0, 1, 2, 3] rfl rfl (aX rfl (aX rfl (bF ⟨rfl, rfl, rfl, rfl, rfl, rfl, rfl, rfl, trivial⟩)))⟩
   ·have h := bB c24 h
    refine dB ?_
    refine .inl ⟨rfl, ?_⟩
    simp only [iY] at h
    refine aK ?_
    refine aK ?_
    refine aH ?_
    refine tr1 rfl (aE (v := .d (.lit w22)) (aA rfl) rfl rfl) ?_
    refine tr1 rfl (pG (m := 2) (aA rfl) rfl rfl bP.of) ?_
    refine tr1 rfl (bE (aA rfl) rfl rfl rfl) ?_
    refine tr1 rfl (aE (v := .d (.lit (.bool ((decide (1 < (nextv_4_21.length : Int))))))) (aA rfl) rfl rfl) ?_
    obtain ⟨b43, h44, h⟩ := bind_some h
    refine cK 11 [2, 6, 7, 8, 9, 10, 11, 12, 13] 87 b43 ?_ ?_
    ·refine bM (decide (1 < (nextv_4_21.length : Int))) (fun c52 => ?_) (fun c52 => ?_)
     ·have h44 := bD c52 h44
      refine aV rfl rfl (aA rfl) rfl (aA rfl) rfl c52 ?_
      refine aV rfl rfl (aA rfl) rfl (aA rfl) rfl c52 ?_
      refine aV rfl rfl (aA rfl) rfl (aA rfl) rfl c52 ?_
      refine aV rfl rfl (aA rfl) rfl (aA rfl) rfl c52 ?_
      refine dW rfl rfl (aA rfl) rfl (aA rfl) rfl ?_
      refine dW rfl rfl (aA rfl) rfl (aA rfl) rfl ?_
      refine dW rfl rfl (aA rfl) rfl (aA rfl) rfl ?_
      refine dW rfl rfl (aA rfl) rfl (aA rfl) rfl ?_
      refine dW rfl rfl (aA rfl) rfl (aA rfl) rfl ?_
      refine aV rfl rfl (aA rfl) rfl (aA rfl) rfl c52 ?_
      refine tr1 rfl (bO (v := .d (.lit (.bool true))) (aA rfl) rfl c52 rfl rfl) ?_
      have h44 := Option.some.inj h44
      subst h44
      refine aJ (bN rfl ⟨rfl, rfl, rfl, rfl, rfl, rfl, rfl, rfl, rfl, trivial⟩ rfl)
     ·have h44 := bB c52 h44
      refine aQ rfl rfl (aA rfl) rfl c52 (aE (v := .d (.lit w22)) (aA rfl) rfl rfl) ?_
      refine aQ rfl rfl (aA rfl) rfl c52 (pG (m := 2) (aA rfl) rfl rfl bP.of) ?_
      refine aQ rfl rfl (aA rfl) rfl c52 (bE (aA rfl) rfl rfl rfl) ?_
      refine aQ rfl rfl (aA rfl) rfl c52 (aE (v := .d (.lit (.bool ((decide ((nextv_4_21.length : Int) = 1)))))) (aA rfl) rfl rfl) ?_
      obtain ⟨b53, h54, h44⟩ := bind_some h44
      refine cK 6 [2, 6, 7, 8, 9, 10, 11, 12, 13, 76, 77, 78, 79, 80] 86 b53 ?_ ?_
      ·refine bM (decide ((nextv_4_21.length : Int) = 1)) (fun c55 => ?_) (fun c55 => ?_)
       ·have h54 := bD c55 h54
        refine aQ rfl rfl (aA rfl) rfl c55 (aE (v := .d (.lit w17)) (aA rfl) rfl rfl) ?_
        refine aQ rfl rfl (aA rfl) rfl c55 (aE (v := .d (.lit w22)) (aA rfl) rfl rfl) ?_
        obtain ⟨x56, h57, h54⟩ := bind_some h54
        refine aQ rfl rfl (aA rfl) rfl c55 (jH (m := 2) (aA rfl) rfl rfl rfl bP.of (bJ aO h57)) ?_
        refine aQ rfl rfl (aA rfl) rfl c55 (nG (aA rfl) rfl (m := 2) rfl (sS aO h57) rfl aZ) ?_
        obtain ⟨r58, h59, h54⟩ := bind_some h54
        refine aQ rfl rfl (aA rfl) rfl c55 (cZ (aA rfl) (.func _ _ Try.call52) rfl rfl (.cons (.d (mH 3 rfl (dV (f := aO) fun _ => rfl))) (.cons (.same _) .nil)) (aAv _ _ h59) rfl) ?_
        refine aQ rfl rfl (aA rfl) rfl c52 (bO (v := .d (.lit (.bool r58))) (aA rfl) rfl c55 rfl rfl) ?_
        have h54 := Option.some.inj h54
        subst h54
        refine aJ (bN rfl ⟨rfl, rfl, rfl, rfl, rfl, rfl, rfl, rfl, rfl, rfl, rfl, rfl, rfl, rfl, trivial⟩ rfl)
       ·have h54 := bB c55 h54
        refine aV rfl rfl (aA rfl) rfl (aA rfl) rfl c55 ?_
        refine aV rfl rfl (aA rfl) rfl (aA rfl) rfl c55 ?_
        refine aV rfl rfl (aA rfl) rfl (aA rfl) rfl c55 ?_
        refine aV rfl rfl (aA rfl) rfl (aA rfl) rfl c55 ?_
        refine aV rfl rfl (aA rfl) rfl (aA rfl) rfl c55 ?_
        refine aQ rfl rfl (aA rfl) rfl c52 (bH (v := .d (.lit (.bool false))) (aA rfl) rfl c55 rfl rfl) ?_
        have h54 := Option.some.inj h54
        subst h54
        refine aJ (bN rfl ⟨rfl, rfl, rfl, rfl, rfl, rfl, rfl, rfl, rfl, rfl, rfl, rfl, rfl, rfl, trivial⟩ rfl)
      ·refine tr1 rfl (bH (v := .d (.lit (.bool b53))) (aA rfl) rfl c52 rfl rfl) ?_
       have h44 := Option.some.inj h44
       subst h44
       refine aJ (bN rfl ⟨rfl, rfl, rfl, rfl, rfl, rfl, rfl, rfl, rfl, trivial⟩ rfl)
    ·refine aJ ?_
     refine bY rfl (fun c45 => ?_) (fun c45 => ?_)
     ·have h := bD c45 h
      refine aK ?_
      refine aH ?_
      refine tr1 rfl (rH 1 (aA rfl)) ?_
      refine tr1 rfl (aL (v := .d (.lit (.bool false))) (aA rfl) rfl rfl) ?_
      refine aJ ?_
      have h := Option.some.inj h
      subst h
      refine cR (cQ (cX (l := [4, 5]) ⟨rfl, rfl, trivial⟩)) ?_
      exact bV ⟨rfl, _, .two _ _, rfl, rfl⟩
     ·have h := bB c45 h
      refine bU ?_
      refine aK ?_
      refine aH ?_
      refine tr1 rfl (aE (v := .d (.lit w22)) (aA rfl) rfl rfl) ?_
      refine tr1 rfl (pG (m := 2) (aA rfl) rfl rfl bP.of) ?_
      refine tr1 rfl (bE (aA rfl) rfl rfl rfl) ?_
      refine aJ ?_
      refine bY rfl (fun c46 => ?_) (fun c46 => ?_)
      ·have h := bD c46 h
       refine aK ?_
       refine aH ?_
       refine tr1 rfl (aE (v := .d (.lit w22)) (aA rfl) rfl rfl) ?_
       obtain ⟨x47, h48, h⟩ := bind_some h
       refine tr1 rfl (jH (m := 2) (aA rfl) rfl rfl rfl bP.of (bJ aO h48)) ?_
       refine tr1 rfl (nG (aA rfl) rfl (m := 2) rfl (sS aO h48) rfl aZ) ?_
       refine tr1 rfl (aL (v := .d (.lit (.int .i64 x47))) (aA rfl) rfl rfl) ?_
       refine aJ ?_
       refine aK ?_
       refine aH ?_
       refine tr1 rfl (aE (v := .d (.lit w17)) (aA rfl) rfl rfl) ?_
       refine tr1 rfl (aE (v := .d (.lit (.int .i64 x47))) (aA rfl) rfl rfl) ?_
       refine tr1 rfl (gM (aA rfl) bP rfl rfl (rows := ([x47]).map aO) rfl (dV (f := aO) fun _ => rfl) rfl (by decide)) ?_
       obtain ⟨x49, h50, h⟩ := bind_some h
       refine cE rfl (gC (i := 3) (aA rfl) bP rfl rfl rfl (fun _ => rfl) h50 rfl) ?_
       rintro _ ⟨v51, rfl⟩
       refine tr1 rfl (aL (v := .d (.lit v51)) (aA rfl) rfl rfl) ?_
       refine aJ ?_
       refine aK ?_
       refine aH ?_
       refine tr1 rfl (aE (v := .d (.lit (.int .i64 used_2_16))) (aA rfl) rfl rfl) ?_
       refine tr1 rfl (bL (aA rfl) rfl rfl rfl) ?_
       refine tr1 rfl (aL (v := .d (.lit (.int .i64 ((w64 (used_2_16 + 1)))))) (aA rfl) rfl rfl) ?_
       refine aJ ?_
       refine aH ?_
       refine tr1 rfl (aL (v := .d (.lit (.bool true))) (aA rfl) rfl rfl) ?_
       refine eY ?_
       simp only [iA] at h
       exact ⟨(w64 (used_2_16 + 1), x47, true, x49, v51), h, bK [0, 1, 3] rfl rfl (aX rfl (aX rfl (aX rfl (aX rfl (bF ⟨rfl, rfl, rfl, rfl, trivial⟩)))))⟩
      ·have h := bB c46 h
       refine eH ?_
       simp only [iA] at h
       exact ⟨(used_2_16, now_2_16, false, o18_2_16, w17), h, bK [0, 1, 3] rfl rfl (aX rfl (aX rfl (aX rfl (aX rfl (bF ⟨rfl, rfl, rfl, rfl, trivial⟩)))))⟩
  ·have h := bB c19 h
   refine dB ?_
   refine .inl ⟨rfl, ?_⟩
   simp only [kZ] at h
   refine aH ?_
   refine tr1 rfl (aE (v := .d (.lit w10)) (aA rfl) rfl rfl) ?_
   refine tr1 rfl (aE (v := .d (.lit (.int .i64 now_2_16))) (aA rfl) rfl rfl) ?_
   refine tr1 rfl (gM (aA rfl) bP rfl rfl (rows := ([now_2_16]).map aO) rfl (dV (f := aO) fun _ => rfl) rfl (by decide)) ?_
   obtain ⟨x60, h61, h⟩ := bind_some h
   refine cE rfl (gC (i := 1) (aA rfl) bP rfl rfl rfl (fun _ => rfl) h61 rfl) ?_
   rintro _ ⟨v62, rfl⟩
   refine tr1 rfl (aL (v := .d (.lit v62)) (aA rfl) rfl rfl) ?_
   refine eY ?_
   simp only [nB] at h
   refine aH ?_
   refine tr1 rfl (aE (v := .d (.lit (.int .i64 i_0_9))) (aA rfl) rfl rfl) ?_
   refine tr1 rfl (bL (aA rfl) rfl rfl rfl) ?_
   refine tr1 rfl (aL (v := .d (.lit (.int .i64 ((w64 (i_0_9 + 1)))))) (aA rfl) rfl rfl) ?_
   refine aJ ?_
   exact ⟨(used_2_16, w64 (i_0_9 + 1), x60, o18_2_16, v62, w17), h, bK [0, 1, 2] rfl rfl (aX rfl (aX rfl (aX rfl (aX rfl (bF ⟨rfl, rfl, trivial⟩)))))⟩
 ·have h := bB c13 h
  refine dB ?_
  refine .inl ⟨rfl, ?_⟩
  simp only [nA] at h
  refine aK ?_
  refine aK ?_
  refine aH ?_
  refine tr1 rfl (aL (v := .d (.lit (.int .i64 0))) (aA rfl) rfl rfl) ?_
  refine aJ ?_
  refine cF ?_
  refine dJ [6, 8] (fun (s63 : Int × Int) => [(9, .d (.lit (.int .i64 s63.1))), (15, .d (.lit (.int .i64 s63.2)))]) (fun (s63 : Int × Int) => [.arr w10 3 1 (out_0_9.map aO)]) (fun (k : Nat) (s63 : Int × Int) => eK r2 out_0_9 k s63.1 s63.2) (fun _ => rfl) (used_0_9, 0) h (bK [1] rfl rfl (aX rfl (aX rfl (bF ⟨rfl, rfl, trivial⟩)))) ?_
  rintro k64 ⟨used_6_63, k_6_63⟩ h
  simp only [eK] at h
  refine aK ?_
  refine aK ?_
  refine aH ?_
  refine tr1 rfl (aE (v := .d (.lit (.int .i64 k_6_63))) (aA rfl) rfl rfl) ?_
  refine tr1 rfl (aE (v := .d (.sl 5 (r2.map aP))) (aA rfl) rfl rfl) ?_
  refine tr1 rfl (dR (aA rfl) rfl fT.of) ?_
  refine tr1 rfl (bE (aA rfl) rfl rfl rfl) ?_
  refine aJ ?_
  refine bY rfl (fun c65 => ?_) (fun c65 => ?_)
  ·have h := bD c65 h
   refine bU ?_
   refine aK ?_
   refine cF ?_
   refine aK ?_
   refine aH ?_
   refine tr1 rfl (aE (v := .d (.sl 5 (r2.map aP))) (aA rfl) rfl rfl) ?_
   refine tr1 rfl (aE (v := .d (.lit (.int .i64 k_6_63))) (aA rfl) rfl rfl) ?_
   obtain ⟨x66, h67, h⟩ := bind_some h
   refine tr1 rfl (bA (aA rfl) rfl rfl fT.of (bJ aP h67)) ?_
   refine tr1 rfl (cW (aA rfl) rfl lS (es := [.lit (.int .i64 x66.Kind)]) rfl) ?_
   refine tr1 rfl (bC (aA rfl) rfl aZ) ?_
   refine tr1 rfl (bE (aA rfl) rfl rfl rfl) ?_
   refine aJ ?_
   refine bY rfl (fun c68 => ?_) (fun c68 => ?_)
   ·have h := bD c68 h
    refine aH ?_
    refine tr1 rfl (aE (v := .d (.lit (.int .i64 used_6_63))) (aA rfl) rfl rfl) ?_
    refine tr1 rfl (bL (aA rfl) rfl rfl rfl) ?_
    refine tr1 rfl (aL (v := .d (.lit (.int .i64 ((w64 (used_6_63 - 1)))))) (aA rfl) rfl rfl) ?_
    refine eY ?_
    refine aH ?_
    refine tr1 rfl (aE (v := .d (.lit (.int .i64 k_6_63))) (aA rfl) rfl rfl) ?_
    refine tr1 rfl (bL (aA rfl) rfl rfl rfl) ?_
    refine tr1 rfl (aL (v := .d (.lit (.int .i64 ((w64 (k_6_63 + 1)))))) (aA rfl) rfl rfl) ?_
    refine aJ ?_
    exact ⟨(w64 (used_6_63 - 1), w64 (k_6_63 + 1)), h, bK [0] rfl rfl (aX rfl (aX rfl (bF ⟨rfl, rfl, trivial⟩)))⟩
   ·have h := bB c68 h
    refine eH ?_
    refine aH ?_
    refine tr1 rfl (aE (v := .d (.lit (.int .i64 k_6_63))) (aA rfl) rfl rfl) ?_
    refine tr1 rfl (bL (aA rfl) rfl rfl rfl) ?_
    refine tr1 rfl (aL (v := .d (.lit (.int .i64 ((w64 (k_6_63 + 1)))))) (aA rfl) rfl rfl) ?_
    refine aJ ?_
    exact ⟨(used_6_63, w64 (k_6_63 + 1)), h, bK [0] rfl rfl (aX rfl (aX rfl (bF ⟨rfl, rfl, trivial⟩)))⟩
  ·have h := bB c65 h
   refine dB ?_
   refine .inl ⟨rfl, ?_⟩
   simp only [nC] at h
   refine aK ?_
   refine aH ?_
   refine tr1 rfl (aE (v := .d (.lit w10)) (aA rfl) rfl rfl) ?_
   refine tr1 rfl (aE (v := .d (.lit (.int .i64 used_6_63))) (aA rfl) rfl rfl) ?_
   refine tr1 rfl (bE (aA rfl) rfl rfl rfl) ?_
   refine tr1 rfl (aL (v := .d (.lit w10)) (aA rfl) rfl rfl) ?_
   refine tr1 rfl (aL (v := .d (.lit (.bool ((decide (used_6_63 = 0)))))) (aA rfl) rfl rfl) ?_
   refine aJ ?_
   have h := Option.some.inj h
   subst h
   refine cR (cQ (mC (k := 5) (v := .d (.lit (.bool ((decide (used_6_63 = 0)))))) (.same _) (mC (k := 4) (v := .d (.sl 1 (out_0_9.map aO))) (.d (mH 0 rfl (dV (f := aO) fun _ => rfl))) (vH)))) ?_
   exact bV ⟨rfl, _, .two _ _, rfl, rfl⟩

theorem zE (t_0 : aT) (l_1 : List aI) {r : aW × Bool} (h : dA t_0 l_1 = some r) : Fn Try.prog 55 [.agg (aY t_0), .d (.sl 5 (l_1.map aP))] (.tup [.agg (cP r.1), .d (.lit (.bool r.2))]) := by
 unfold dA at h
 refine sW Try.func55 rfl (rs := [.cell 4 89, .tmp 5]) Try.results55 Try.ntmps55 (Nat.le_of_ble_eq_true rfl) ?_
 refine aK ?_
 refine aH ?_
 refine cE rfl (gL (v := .agg (aY t_0)) (aA rfl) rfl rfl rfl) ?_
 rintro _ ⟨b1, rfl⟩
 refine cE rfl (eD (zs := [.sl 1 ((([] : List Int)).map aO), .sl 1 ((([] : List (List Int))).map cG)]) (aA rfl) Try.zeroValue89 rfl rfl) ?_
 rintro _ ⟨b2, rfl⟩
 refine tr1 rfl (aL (v := .d (.lit (.bool false))) (aA rfl) rfl rfl) ?_
 refine aJ ?_
 refine aK ?_
 refine aH ?_
 refine tr1 rfl (bW (aA rfl) rfl (i := 0) rfl dX (es := (aY t_0)) rfl rfl) ?_
 refine tr1 rfl (aE (v := .d (.sl 5 (l_1.map aP))) (aA rfl) rfl rfl) ?_
 obtain ⟨r3, h4, h⟩ := bind_some h
 refine tr1 rfl (gN (aA rfl) (.func _ _ Try.call18) rfl rfl (qU _ _ h4)) ?_
 refine tr1 rfl (aE (v := .tup [.d (.sl 1 (r3.1.map aO)), .d (.lit (.bool r3.2))]) (aA rfl) rfl rfl) ?_
 refine tr1 rfl (bX (aA rfl) rfl rfl) ?_
 refine tr1 rfl (bX (aA rfl) rfl rfl) ?_
 refine tr1 rfl (aL (v := .d (.sl 1 (r3.1.map aO))) (aA rfl) rfl rfl) ?_
 refine tr1 rfl (aL (v := .d (.lit (.bool r3.2))) (aA rfl) rfl rfl) ?_
 refine aJ ?_
 refine aK ?_
 refine aK ?_
 refine aH ?_
 refine tr1 rfl (aE (v := .d (.lit (.bool r3.2))) (aA rfl) rfl rfl) ?_
 refine tr1 rfl (fJ (aA rfl) rfl) ?_
 refine aJ ?_
 refine bY rfl (fun c5 => ?_) (fun c5 => ?_)
 ·have h := bD c5 h
  refine aK ?_
  refine aH ?_
  refine tr1 rfl (fN (aA rfl) yR (zs := [.sl 1 ((([] : List Int)).map aO), .sl 1 ((([] : List (List Int))).map cG)]) rfl rfl rfl rfl (es := [.sl 1 ((([] : List Int)).map aO), .sl 1 ((([] : List (List Int))).map cG)]) rfl) ?_
  refine tr1 rfl (cO (i := 1) rfl rfl rfl rfl rfl Try.sizeOf89 rfl (aA rfl) (Nat.le_of_ble_eq_true rfl) (ds' := (cP (aW.mk ([] : List Int) ([] : List (List Int))))) rfl) ?_
  refine tr1 rfl (aL (v := .d (.lit (.bool false))) (aA rfl) rfl rfl) ?_
  refine aJ ?_
  have h := Option.some.inj h
  subst h
  exact bV ⟨rfl, _, [.box b1 0 (aY t_0), .box b2 0 (cP (aW.mk ([] : List Int) ([] : List (List Int))))], .two (.cell 4 89 rfl (i := 1) rfl vG (es := (cP (aW.mk ([] : List Int) ([] : List (List Int))))) rfl rfl) (.tmp 5 (v := .d (.lit (.bool false))) rfl), .refl _, .same _⟩
 ·have h := bB c5 h
  refine bU ?_
  refine aK ?_
  refine aH ?_
  refine tr1 rfl (aE (v := .d (.sl 1 (r3.1.map aO))) (aA rfl) rfl rfl) ?_
  refine tr1 rfl (fN (aA rfl) yR (zs := [.sl 1 ((([] : List Int)).map aO), .lit (.slice none 0 0)]) rfl rfl rfl rfl (es := [.sl 1 (r3.1.map aO), .lit (.slice none 0 0)]) rfl) ?_
  refine cE rfl (eD (zs := [.sl 1 ((([] : List Int)).map aO), .lit (.slice none 0 0)]) (aA rfl) Try.zeroValue89 rfl rfl) ?_
  rintro _ ⟨b6, rfl⟩
  refine lP (aAw 22 1) ?_
  refine lP (aGy 3 1) ?_
  refine tr1 rfl (cO (i := 2) rfl rfl rfl rfl rfl Try.sizeOf89 rfl (aA rfl) (Nat.le_of_ble_eq_true rfl) (ds' := [.sl 1 (r3.1.map aO), .lit (.slice none 0 0)]) rfl) ?_
  refine aJ ?_
  refine aK ?_
  refine aK ?_
  refine aH ?_
  refine tr1 rfl (aL (v := .d (.lit (.int .i64 0))) (aA rfl) rfl rfl) ?_
  refine aJ ?_
  refine cF ?_
  refine dJ [1, 2, 4, 6, 8] (fun (s7 : Int × (List (List Int)) × (List Int) × (List Value) × Value) => [(9, .d (.lit (.int .i64 s7.1)))]) (fun (s7 : Int × (List (List Int)) × (List Int) × (List Value) × Value) => [.box b1 0 (aY t_0), .box b2 0 (cP (aW.mk ([] : List Int) ([] : List (List Int)))), .fam 3 1 s7.2.2.2.1 (s7.2.1.map fun r => r.map aO), .arr s7.2.2.2.2 22 1 (s7.2.2.2.1.map fun v => [.lit v]), .box b6 0 [.sl 1 (s7.2.2.1.map aO), .lit s7.2.2.2.2]]) (fun (k : Nat) (s7 : Int × (List (List Int)) × (List Int) × (List Value) × Value) => fI l_1 r3.1 t_0 (aW.mk ([] : List Int) ([] : List (List Int))) k s7.1 s7.2.1 s7.2.2.1) (fun _ => rfl) (0, ([] : List (List Int)), r3.1, [], (.slice none 0 0)) h (bK [0, 1, 4, 3, 2] rfl rfl (aX rfl (bF ⟨rfl, rfl, rfl, rfl, rfl, trivial⟩))) ?_
  rintro k10 ⟨r_0_7, d_0_7, d_0_7_2, vs8, w9⟩ h
  simp only [fI] at h
  refine aK ?_
  refine aK ?_
  refine aH ?_
  refine tr1 rfl (aE (v := .d (.lit (.int .i64 r_0_7))) (aA rfl) rfl rfl) ?_
  refine tr1 rfl (aS (aA rfl) rfl gK) ?_
  refine tr1 rfl (aU (aA rfl) rfl (i := 0) rfl rfl aZ) ?_
  refine tr1 rfl (bE (aA rfl) rfl rfl rfl) ?_
  refine aJ ?_
  refine bY rfl (fun c11 => ?_) (fun c11 => ?_)
  ·have h := bD c11 h
   refine bU ?_
   refine aK ?_
   refine cF ?_
   refine aK ?_
   refine aH ?_
   refine tr1 rfl (jE 3 1 (.inl rfl) (aA rfl)) ?_
   refine aJ ?_
   refine aK ?_
   refine aK ?_
   refine aH ?_
   refine tr1 rfl (aL (v := .d (.lit (.int .i64 0))) (aA rfl) rfl rfl) ?_
   refine aJ ?_
   refine cF ?_
   refine dJ [1, 2, 4, 6, 8, 9] (fun (s13 : Int × (List Int) × Value) => [(10, .d (.lit s13.2.2)), (11, .d (.lit (.int .i64 s13.1)))]) (fun (s13 : Int × (List Int) × Value) => [.box b1 0 (aY t_0), .box b2 0 (cP (aW.mk ([] : List Int) ([] : List (List Int)))), .fam 3 1 vs8 (d_0_7.map fun r => r.map aO), .arr w9 22 1 (vs8.map fun v => [.lit v]), .box b6 0 [.sl 1 (d_0_7_2.map aO), .lit w9], .arr s13.2.2 3 1 (s13.2.1.map aO)]) (fun (k : Nat) (s13 : Int × (List Int) × Value) => eB (fI l_1 r3.1 t_0 (aW.mk ([] : List Int) ([] : List (List Int))) k10) l_1 r3.1 r_0_7 t_0 (aW.mk ([] : List Int) ([] : List (List Int))) d_0_7 d_0_7_2 k s13.1 s13.2.1) (fun _ => rfl) (0, ([] : List Int), (.slice none 0 0)) h (bK [0, 1, 2, 3, 4, 5] rfl rfl (aX rfl (aX rfl (bF ⟨rfl, rfl, rfl, rfl, rfl, rfl, trivial⟩)))) ?_
   rintro k15 ⟨p_2_13, row_2_13, w14⟩ h
   simp only [eB] at h
   refine aK ?_
   refine aK ?_
   refine aH ?_
   refine tr1 rfl (aE (v := .d (.lit (.int .i64 p_2_13))) (aA rfl) rfl rfl) ?_
   refine tr1 rfl (bW (aA rfl) rfl (i := 0) rfl dX (es := (aY t_0)) rfl rfl) ?_
   refine tr1 rfl (aE (v := .d (.lit (.int .i64 r_0_7))) (aA rfl) rfl rfl) ?_
   obtain ⟨r16, h17, h⟩ := bind_some h
   refine tr1 rfl (cZ (aA rfl) (.func _ _ Try.call42) rfl rfl (BVs.refl _ _) (lX _ _ h17) rfl) ?_
   refine tr1 rfl (bE (aA rfl) rfl rfl rfl) ?_
   refine aJ ?_
   refine bY rfl (fun c18 => ?_) (fun c18 => ?_)
   ·have h := bD c18 h
    refine bU ?_
    refine aK ?_
    refine cF ?_
    refine aK ?_
    refine aH ?_
    refine tr1 rfl (aL (v := .d (.lit (.int .i64 (-2)))) (aA rfl) rfl rfl) ?_
    refine aJ ?_
    refine aK ?_
    refine aK ?_
    refine aH ?_
    refine tr1 rfl (aE (v := .d (.lit (.int .i64 r_0_7))) (aA rfl) rfl rfl) ?_
    refine tr1 rfl (bE (aA rfl) rfl rfl rfl) ?_
    refine tr1 rfl (aE (v := .d (.lit (.bool ((decide (r_0_7 = 0)))))) (aA rfl) rfl rfl) ?_
    obtain ⟨b19, h20, h⟩ := bind_some h
    refine cK 7 [1, 2, 4, 6, 8, 9, 10, 11, 12] 55 b19 ?_ ?_
    ·refine bM (decide (r_0_7 = 0)) (fun c52 => ?_) (fun c52 => ?_)
     ·have h20 := bD c52 h20
      refine aQ rfl rfl (aA rfl) rfl c52 (aE (v := .d (.sl 1 (r3.1.map aO))) (aA rfl) rfl rfl) ?_
      refine aQ rfl rfl (aA rfl) rfl c52 (aE (v := .d (.lit (.int .i64 p_2_13))) (aA rfl) rfl rfl) ?_
      refine aQ rfl rfl (aA rfl) rfl c52 (bL (aA rfl) rfl rfl rfl) ?_
      obtain ⟨x53, h54, h20⟩ := bind_some h20
      refine aQ rfl rfl (aA rfl) rfl c52 (bA (aA rfl) rfl rfl bP.of (bJ aO h54)) ?_
      refine aQ rfl rfl (aA rfl) rfl c52 (bC (aA rfl) rfl aZ) ?_
      refine aQ rfl rfl (aA rfl) rfl c52 (bE (aA rfl) rfl rfl rfl) ?_
      refine tr1 rfl (bO (v := .d (.lit (.bool ((decide (x53 = (-1))))))) (aA rfl) rfl c52 rfl rfl) ?_
      have h20 := Option.some.inj h20
      subst h20
      refine aJ (bN rfl ⟨rfl, rfl, rfl, rfl, rfl, rfl, rfl, rfl, rfl, trivial⟩ rfl)
     ·have h20 := bB c52 h20
      refine aV rfl rfl (aA rfl) rfl (aA rfl) rfl c52 ?_
      refine aV rfl rfl (aA rfl) rfl (aA rfl) rfl c52 ?_
      refine aV rfl rfl (aA rfl) rfl (aA rfl) rfl c52 ?_
      refine aV rfl rfl (aA rfl) rfl (aA rfl) rfl c52 ?_
      refine aV rfl rfl (aA rfl) rfl (aA rfl) rfl c52 ?_
      refine aV rfl rfl (aA rfl) rfl (aA rfl) rfl c52 ?_
      refine tr1 rfl (bH (v := .d (.lit (.bool false))) (aA rfl) rfl c52 rfl rfl) ?_
      have h20 := Option.some.inj h20
      subst h20
      refine aJ (bN rfl ⟨rfl, rfl, rfl, rfl, rfl, rfl, rfl, rfl, rfl, trivial⟩ rfl)
    ·refine aJ ?_
     refine bY rfl (fun c21 => ?_) (fun c21 => ?_)
     ·have h := bD c21 h
      refine aH ?_
      refine tr1 rfl (aE (v := .d (.sl 1 (r3.1.map aO))) (aA rfl) rfl rfl) ?_
      refine tr1 rfl (aE (v := .d (.lit (.int .i64 p_2_13))) (aA rfl) rfl rfl) ?_
      refine tr1 rfl (bL (aA rfl) rfl rfl rfl) ?_
      refine tr1 rfl (bL (aA rfl) rfl rfl rfl) ?_
      obtain ⟨x22, h23, h⟩ := bind_some h
      refine tr1 rfl (bA (aA rfl) rfl rfl bP.of (bJ aO h23)) ?_
      refine tr1 rfl (bC (aA rfl) rfl aZ) ?_
      refine tr1 rfl (aL (v := .d (.lit (.int .i64 x22))) (aA rfl) rfl rfl) ?_
      refine aJ ?_
      refine aK ?_
      refine aK ?_
      refine aH ?_
      refine tr1 rfl (aE (v := .d (.lit (.int .i64 r_0_7))) (aA rfl) rfl rfl) ?_
      refine tr1 rfl (bE (aA rfl) rfl rfl rfl) ?_
      refine tr1 rfl (aE (v := .d (.lit (.bool ((decide (r_0_7 = 0)))))) (aA rfl) rfl rfl) ?_
      obtain ⟨b24, h25, h⟩ := bind_some h
      refine cK 8 [1, 2, 4, 6, 8, 9, 10, 11, 12] 72 b24 ?_ ?_
      ·refine bM (decide (r_0_7 = 0)) (fun c35 => ?_) (fun c35 => ?_)
       ·have h25 := bD c35 h25
        refine aQ rfl rfl (aA rfl) rfl c35 (aE (v := .d (.sl 1 (r3.1.map aO))) (aA rfl) rfl rfl) ?_
        refine aQ rfl rfl (aA rfl) rfl c35 (aE (v := .d (.lit (.int .i64 p_2_13))) (aA rfl) rfl rfl) ?_
        refine aQ rfl rfl (aA rfl) rfl c35 (bL (aA rfl) rfl rfl rfl) ?_
        refine aQ rfl rfl (aA rfl) rfl c35 (bL (aA rfl) rfl rfl rfl) ?_
        obtain ⟨x36, h37, h25⟩ := bind_some h25
        refine aQ rfl rfl (aA rfl) rfl c35 (bA (aA rfl) rfl rfl bP.of (bJ aO h37)) ?_
        refine aQ rfl rfl (aA rfl) rfl c35 (bC (aA rfl) rfl aZ) ?_
        refine aQ rfl rfl (aA rfl) rfl c35 (bE (aA rfl) rfl rfl rfl) ?_
        refine tr1 rfl (bO (v := .d (.lit (.bool ((decide (x36 = (-1))))))) (aA rfl) rfl c35 rfl rfl) ?_
        have h25 := Option.some.inj h25
        subst h25
        refine aJ (bN rfl ⟨rfl, rfl, rfl, rfl, rfl, rfl, rfl, rfl, rfl, trivial⟩ rfl)
       ·have h25 := bB c35 h25
        refine aV rfl rfl (aA rfl) rfl (aA rfl) rfl c35 ?_
        refine aV rfl rfl (aA rfl) rfl (aA rfl) rfl c35 ?_
        refine aV rfl rfl (aA rfl) rfl (aA rfl) rfl c35 ?_
        refine aV rfl rfl (aA rfl) rfl (aA rfl) rfl c35 ?_
        refine aV rfl rfl (aA rfl) rfl (aA rfl) rfl c35 ?_
        refine aV rfl rfl (aA rfl) rfl (aA rfl) rfl c35 ?_
        refine aV rfl rfl (aA rfl) rfl (aA rfl) rfl c35 ?_
        refine tr1 rfl (bH (v := .d (.lit (.bool false))) (aA rfl) rfl c35 rfl rfl) ?_
        have h25 := Option.some.inj h25
        subst h25
        refine aJ (bN rfl ⟨rfl, rfl, rfl, rfl, rfl, rfl, rfl, rfl, rfl, trivial⟩ rfl)
      ·refine aJ ?_
       refine bY rfl (fun c26 => ?_) (fun c26 => ?_)
       ·have h := bD c26 h
        refine aH ?_
        refine tr1 rfl (aE (v := .d (.sl 1 (r3.1.map aO))) (aA rfl) rfl rfl) ?_
        refine tr1 rfl (aE (v := .d (.lit (.int .i64 p_2_13))) (aA rfl) rfl rfl) ?_
        refine tr1 rfl (bL (aA rfl) rfl rfl rfl) ?_
        obtain ⟨x27, h28, h⟩ := bind_some h
        refine tr1 rfl (bA (aA rfl) rfl rfl bP.of (bJ aO h28)) ?_
        refine tr1 rfl (bC (aA rfl) rfl aZ) ?_
        refine tr1 rfl (aL (v := .d (.lit (.int .i64 x27))) (aA rfl) rfl rfl) ?_
        refine aJ ?_
        refine aH ?_
        refine tr1 rfl (aE (v := .d (.lit w14)) (aA rfl) rfl rfl) ?_
        refine tr1 rfl (aE (v := .d (.lit (.int .i64 x27))) (aA rfl) rfl rfl) ?_
        refine tr1 rfl (gM (aA rfl) bP rfl rfl (rows := ([x27]).map aO) rfl (dV (f := aO) fun _ => rfl) rfl (by decide)) ?_
        obtain ⟨x29, h30, h⟩ := bind_some h
        refine cE rfl (gC (i := 5) (aA rfl) bP rfl rfl rfl (fun _ => rfl) h30 rfl) ?_
        rintro _ ⟨v31, rfl⟩
        refine tr1 rfl (aL (v := .d (.lit v31)) (aA rfl) rfl rfl) ?_
        refine eY ?_
        refine aH ?_
        refine tr1 rfl (aE (v := .d (.lit (.int .i64 p_2_13))) (aA rfl) rfl rfl) ?_
        refine tr1 rfl (bL (aA rfl) rfl rfl rfl) ?_
        refine tr1 rfl (aL (v := .d (.lit (.int .i64 ((w64 (p_2_13 + 1)))))) (aA rfl) rfl rfl) ?_
        refine aJ ?_
        exact ⟨(w64 (p_2_13 + 1), x29, v31), h, bK [0, 1, 2, 3, 4, 5] rfl rfl (aX rfl (aX rfl (bF ⟨rfl, rfl, rfl, rfl, rfl, rfl, trivial⟩)))⟩
       ·have h := bB c26 h
        refine bU ?_
        refine aH ?_
        refine tr1 rfl (aE (v := .d (.lit w14)) (aA rfl) rfl rfl) ?_
        refine tr1 rfl (aE (v := .d (.lit (.int .i64 x22))) (aA rfl) rfl rfl) ?_
        refine tr1 rfl (gM (aA rfl) bP rfl rfl (rows := ([x22]).map aO) rfl (dV (f := aO) fun _ => rfl) rfl (by decide)) ?_
        obtain ⟨x32, h33, h⟩ := bind_some h
        refine cE rfl (gC (i := 5) (aA rfl) bP rfl rfl rfl (fun _ => rfl) h33 rfl) ?_
        rintro _ ⟨v34, rfl⟩
        refine tr1 rfl (aL (v := .d (.lit v34)) (aA rfl) rfl rfl) ?_
        refine eY ?_
        refine aH ?_
        refine tr1 rfl (aE (v := .d (.lit (.int .i64 p_2_13))) (aA rfl) rfl rfl) ?_
        refine tr1 rfl (bL (aA rfl) rfl rfl rfl) ?_
        refine tr1 rfl (aL (v := .d (.lit (.int .i64 ((w64 (p_2_13 + 1)))))) (aA rfl) rfl rfl) ?_
        refine aJ ?_
        exact ⟨(w64 (p_2_13 + 1), x32, v34), h, bK [0, 1, 2, 3, 4, 5] rfl rfl (aX rfl (aX rfl (bF ⟨rfl, rfl, rfl, rfl, rfl, rfl, trivial⟩)))⟩
     ·have h := bB c21 h
      refine bU ?_
      refine aK ?_
      refine aK ?_
      refine aH ?_
      refine tr1 rfl (aE (v := .d (.lit (.int .i64 r_0_7))) (aA rfl) rfl rfl) ?_
      refine tr1 rfl (bE (aA rfl) rfl rfl rfl) ?_
      refine tr1 rfl (aE (v := .d (.lit (.bool ((decide (r_0_7 = 0)))))) (aA rfl) rfl rfl) ?_
      obtain ⟨b38, h39, h⟩ := bind_some h
      refine cK 8 [1, 2, 4, 6, 8, 9, 10, 11, 12] 72 b38 ?_ ?_
      ·refine bM (decide (r_0_7 = 0)) (fun c49 => ?_) (fun c49 => ?_)
       ·have h39 := bD c49 h39
        refine aQ rfl rfl (aA rfl) rfl c49 (aE (v := .d (.sl 1 (r3.1.map aO))) (aA rfl) rfl rfl) ?_
        refine aQ rfl rfl (aA rfl) rfl c49 (aE (v := .d (.lit (.int .i64 p_2_13))) (aA rfl) rfl rfl) ?_
        refine aQ rfl rfl (aA rfl) rfl c49 (bL (aA rfl) rfl rfl rfl) ?_
        refine aQ rfl rfl (aA rfl) rfl c49 (bL (aA rfl) rfl rfl rfl) ?_
        obtain ⟨x50, h51, h39⟩ := bind_some h39
        refine aQ rfl rfl (aA rfl) rfl c49 (bA (aA rfl) rfl rfl bP.of (bJ aO h51)) ?_
        refine aQ rfl rfl (aA rfl) rfl c49 (bC (aA rfl) rfl aZ) ?_
        refine aQ rfl rfl (aA rfl) rfl c49 (bE (aA rfl) rfl rfl rfl) ?_
        refine tr1 rfl (bO (v := .d (.lit (.bool ((decide (x50 = (-1))))))) (aA rfl) rfl c49 rfl rfl) ?_
        have h39 := Option.some.inj h39
        subst h39
        refine aJ (bN rfl ⟨rfl, rfl, rfl, rfl, rfl, rfl, rfl, rfl, rfl, trivial⟩ rfl)
       ·have h39 := bB c49 h39
        refine aV rfl rfl (aA rfl) rfl (aA rfl) rfl c49 ?_
        refine aV rfl rfl (aA rfl) rfl (aA rfl) rfl c49 ?_
        refine aV rfl rfl (aA rfl) rfl (aA rfl) rfl c49 ?_
        refine aV rfl rfl (aA rfl) rfl (aA rfl) rfl c49 ?_
        refine aV rfl rfl (aA rfl) rfl (aA rfl) rfl c49 ?_
        refine aV rfl rfl (aA rfl) rfl (aA rfl) rfl c49 ?_
        refine aV rfl rfl (aA rfl) rfl (aA rfl) rfl c49 ?_
        refine tr1 rfl (bH (v := .d (.lit (.bool false))) (aA rfl) rfl c49 rfl rfl) ?_
        have h39 := Option.some.inj h39
        subst h39
        refine aJ (bN rfl ⟨rfl, rfl, rfl, rfl, rfl, rfl, rfl, rfl, rfl, trivial⟩ rfl)
      ·refine aJ ?_
       refine bY rfl (fun c40 => ?_) (fun c40 => ?_)
       ·have h := bD c40 h
        refine aH ?_
        refine tr1 rfl (aE (v := .d (.sl 1 (r3.1.map aO))) (aA rfl) rfl rfl) ?_
        refine tr1 rfl (aE (v := .d (.lit (.int .i64 p_2_13))) (aA rfl) rfl rfl) ?_
        refine tr1 rfl (bL (aA rfl) rfl rfl rfl) ?_
        obtain ⟨x41, h42, h⟩ := bind_some h
        refine tr1 rfl (bA (aA rfl) rfl rfl bP.of (bJ aO h42)) ?_
        refine tr1 rfl (bC (aA rfl) rfl aZ) ?_
        refine tr1 rfl (aL (v := .d (.lit (.int .i64 x41))) (aA rfl) rfl rfl) ?_
        refine aJ ?_
        refine aH ?_
        refine tr1 rfl (aE (v := .d (.lit w14)) (aA rfl) rfl rfl) ?_
        refine tr1 rfl (aE (v := .d (.lit (.int .i64 x41))) (aA rfl) rfl rfl) ?_
        refine tr1 rfl (gM (aA rfl) bP rfl rfl (rows := ([x41]).map aO) rfl (dV (f := aO) fun _ => rfl) rfl (by decide)) ?_
        obtain ⟨x43, h44, h⟩ := bind_some h
        refine cE rfl (gC (i := 5) (aA rfl) bP rfl rfl rfl (fun _ => rfl) h44 rfl) ?_
        rintro _ ⟨v45, rfl⟩
        refine tr1 rfl (aL (v := .d (.lit v45)) (aA rfl) rfl rfl) ?_
        refine eY ?_
        refine aH ?_
        refine tr1 rfl (aE (v := .d (.lit (.int .i64 p_2_13))) (aA rfl) rfl rfl) ?_
        refine tr1 rfl (bL (aA rfl) rfl rfl rfl) ?_
        refine tr1 rfl (aL (v := .d (.lit (.int .i64 ((w64 (p_2_13 + 1)))))) (aA rfl) rfl rfl) ?_
        refine aJ ?_
        exact ⟨(w64 (p_2_13 + 1), x43, v45), h, bK [0, 1, 2, 3, 4, 5] rfl rfl (aX rfl (aX rfl (bF ⟨rfl, rfl, rfl, rfl, rfl, rfl, trivial⟩)))⟩
       ·have h := bB c40 h
        refine bU ?_
        refine aH ?_
        refine tr1 rfl (aE (v := .d (.lit w14)) (aA rfl) rfl rfl) ?_
        refine tr1 rfl (aE (v := .d (.lit (.int .i64 (-2)))) (aA rfl) rfl rfl) ?_
        refine tr1 rfl (gM (aA rfl) bP rfl rfl (rows := ([(-2)]).map aO) rfl (dV (f := aO) fun _ => rfl) rfl (by decide)) ?_
        obtain ⟨x46, h47, h⟩ := bind_some h
        refine cE rfl (gC (i := 5) (aA rfl) bP rfl rfl rfl (fun _ => rfl) h47 rfl) ?_
        rintro _ ⟨v48, rfl⟩
        refine tr1 rfl (aL (v := .d (.lit v48)) (aA rfl) rfl rfl) ?_
        refine eY ?_
        refine aH ?_
        refine tr1 rfl (aE (v := .d (.lit (.int .i64 p_2_13))) (aA rfl) rfl rfl) ?_
        refine tr1 rfl (bL (aA rfl) rfl rfl rfl) ?_
        refine tr1 rfl (aL (v := .d (.lit (.int .i64 ((w64 (p_2_13 + 1)))))) (aA rfl) rfl rfl) ?_
        refine aJ ?_
        exact ⟨(w64 (p_2_13 + 1), x46, v48), h, bK [0, 1, 2, 3, 4, 5] rfl rfl (aX rfl (aX rfl (bF ⟨rfl, rfl, rfl, rfl, rfl, rfl, trivial⟩)))⟩
   ·have h := bB c18 h
    refine dB ?_
    refine .inl ⟨rfl, ?_⟩
    simp only [jB] at h
    refine aH ?_
    refine tr1 rfl (aS (aA rfl) rfl rW) ?_
    refine tr1 rfl (aU (aA rfl) rfl (i := 4) rfl rfl yJ) ?_
    refine tr1 rfl (aE (v := .d (.lit w14)) (aA rfl) rfl rfl) ?_
    refine tr1 rfl (gM (aA rfl) jG rfl rfl (rows := [[.lit w14]]) rfl (fun r hr => by cases hr with | head => rfl | tail _ h => cases h) rfl (by decide)) ?_
    obtain ⟨x55, h56, h⟩ := bind_some h
    refine cE rfl (aEr (m := 3) (f := 2) (aA rfl) jG rfl rfl rfl rfl h56 rfl) ?_
    rintro _ ⟨v57, rfl⟩
    refine lP (aFk (i := 2) [.box b1 0 (aY t_0), .box b2 0 (cP (aW.mk ([] : List Int) ([] : List (List Int)))), .fam 3 1 vs8 (d_0_7.map fun r => r.map aO), .arr v57 22 1 ((vs8 ++ [w14]).map fun v => [.lit v]), .box b6 0 [.sl 1 (d_0_7_2.map aO), .lit w9]] [.box b1 0 (aY t_0), .box b2 0 (cP (aW.mk ([] : List Int) ([] : List (List Int)))), .fam 3 1 (vs8 ++ [w14]) (x55.map fun r => r.map aO), .arr v57 22 1 ((vs8 ++ [w14]).map fun v => [.lit v]), .box b6 0 [.sl 1 (d_0_7_2.map aO), .lit w9]] rfl rfl h56 rfl) ?_
    refine tr1 rfl (aS (aA rfl) rfl rW) ?_
    refine tr1 rfl (cO (i := 4) rfl rfl rfl rfl rfl Try.sizeOf53 rfl (aA rfl) (Nat.le_of_ble_eq_true rfl) (ds' := [.sl 1 (d_0_7_2.map aO), .lit v57]) rfl) ?_
    refine eY ?_
    simp only [oP] at h
    refine aH ?_
    refine tr1 rfl (aE (v := .d (.lit (.int .i64 r_0_7))) (aA rfl) rfl rfl) ?_
    refine tr1 rfl (bL (aA rfl) rfl rfl rfl) ?_
    refine tr1 rfl (aL (v := .d (.lit (.int .i64 ((w64 (r_0_7 + 1)))))) (aA rfl) rfl rfl) ?_
    refine aJ ?_
    exact ⟨(w64 (r_0_7 + 1), x55, d_0_7_2, (vs8 ++ [w14]), v57), h, bK [0, 1, 2, 3, 4] rfl rfl (aX rfl (bF ⟨rfl, rfl, rfl, rfl, rfl, trivial⟩))⟩
  ·have h := bB c11 h
   refine dB ?_
   refine .inl ⟨rfl, ?_⟩
   simp only [jA] at h
   refine aK ?_
   refine aH ?_
   refine tr1 rfl (aE (v := .d (.sl 5 (l_1.map aP))) (aA rfl) rfl rfl) ?_
   obtain ⟨r58, h59, h⟩ := bind_some h
   refine tr1 rfl (gN (aA rfl) (.func _ _ Try.call51) rfl rfl (tF _ h59)) ?_
   refine tr1 rfl (aL (v := .d (.sl 5 (r58.map aP))) (aA rfl) rfl rfl) ?_
   refine aJ ?_
   refine aK ?_
   refine aK ?_
   refine aH ?_
   refine tr1 rfl (aL (v := .d (.lit (.int .i64 0))) (aA rfl) rfl rfl) ?_
   refine aJ ?_
   refine cF ?_
   refine dJ [4, 6, 8, 13] (fun (s60 : Int × aW × (List (List Int)) × (List Value)) => [(14, .d (.lit (.int .i64 s60.1)))]) (fun (s60 : Int × aW × (List (List Int)) × (List Value)) => [.box b2 0 (cP s60.2.1), .fam 3 1 s60.2.2.2 (s60.2.2.1.map fun r => r.map aO), .arr w9 22 1 (s60.2.2.2.map fun v => [.lit v]), .box b6 0 [.sl 1 (d_0_7_2.map aO), .lit w9]]) (fun (k : Nat) (s60 : Int × aW × (List (List Int)) × (List Value)) => dH r3.1 r58 d_0_7_2 k s60.1 s60.2.1 s60.2.2.1) (fun _ => rfl) (0, (aW.mk ([] : List Int) ([] : List (List Int))), d_0_7, vs8) h (bK [1, 2, 3, 4] rfl rfl (aX rfl (bF ⟨rfl, rfl, rfl, rfl, trivial⟩))) ?_
   rintro k62 ⟨i_4_60, o4_4_60, d_4_60, vs61⟩ h
   simp only [dH] at h
   refine aK ?_
   refine aK ?_
   refine aH ?_
   refine tr1 rfl (aE (v := .d (.lit (.int .i64 i_4_60))) (aA rfl) rfl rfl) ?_
   refine tr1 rfl (aE (v := .d (.sl 5 (r58.map aP))) (aA rfl) rfl rfl) ?_
   refine tr1 rfl (dR (aA rfl) rfl fT.of) ?_
   refine tr1 rfl (bE (aA rfl) rfl rfl rfl) ?_
   refine aJ ?_
   refine bY rfl (fun c63 => ?_) (fun c63 => ?_)
   ·have h := bD c63 h
    refine bU ?_
    refine aK ?_
    refine cF ?_
    refine aK ?_
    refine aH ?_
    refine tr1 rfl (aE (v := .d (.sl 5 (r58.map aP))) (aA rfl) rfl rfl) ?_
    refine tr1 rfl (aE (v := .d (.lit (.int .i64 i_4_60))) (aA rfl) rfl rfl) ?_
    obtain ⟨x64, h65, h⟩ := bind_some h
    refine tr1 rfl (bA (aA rfl) rfl rfl fT.of (bJ aP h65)) ?_
    refine tr1 rfl (jP (aA rfl) rfl kC (es := (aP x64)) rfl rfl) ?_
    refine cE rfl (eD (zs := [.lit (.int .i64 0), .lit (.int .i64 0), .lit (.int .i64 0), .lit (.int .i64 0), .lit (.int .i64 0)]) (aA rfl) Try.zeroValue32 rfl rfl) ?_
    rintro _ ⟨b66, rfl⟩
    refine tr1 rfl (cO (i := 4) rfl rfl rfl rfl rfl Try.sizeOf32 rfl (aA rfl) (Nat.le_of_ble_eq_true rfl) (ds' := (aP x64)) rfl) ?_
    refine aJ ?_
    refine aK ?_
    refine aK ?_
    refine aH ?_
    refine tr1 rfl (aS (aA rfl) rfl lS) ?_
    refine tr1 rfl (aU (aA rfl) rfl (i := 4) rfl rfl aZ) ?_
    refine tr1 rfl (bE (aA rfl) rfl rfl rfl) ?_
    refine aJ ?_
    refine bY rfl (fun c67 => ?_) (fun c67 => ?_)
    ·have h := bD c67 h
     refine dB ?_
     refine .inl ⟨rfl, ?_⟩
     simp only [jC] at h
     refine aH ?_
     refine tr1 rfl (aE (v := .d (.lit (.int .i64 i_4_60))) (aA rfl) rfl rfl) ?_
     refine tr1 rfl (bL (aA rfl) rfl rfl rfl) ?_
     refine tr1 rfl (aL (v := .d (.lit (.int .i64 ((w64 (i_4_60 + 1)))))) (aA rfl) rfl rfl) ?_
     refine aJ ?_
     exact ⟨(w64 (i_4_60 + 1), o4_4_60, d_4_60, vs61), h, bK [0, 1, 2, 3] rfl rfl (aX rfl (bF ⟨rfl, rfl, rfl, rfl, trivial⟩))⟩
    ·have h := bB c67 h
     refine bU ?_
     refine aK ?_
     refine aK ?_
     refine aH ?_
     refine tr1 rfl (aL (v := .d (.lit (.int .i64 0))) (aA rfl) rfl rfl) ?_
     refine aJ ?_
     refine cF ?_
     refine dJ [4, 6, 8, 13, 14, 15] (fun (s68 : Int × aW) => [(16, .d (.lit (.int .i64 s68.1)))]) (fun (s68 : Int × aW) => [.box b2 0 (cP s68.2), .fam 3 1 vs61 (d_4_60.map fun r => r.map aO), .arr w9 22 1 (vs61.map fun v => [.lit v]), .box b6 0 [.sl 1 (d_0_7_2.map aO), .lit w9], .box b66 0 (aP x64)]) (fun (k : Nat) (s68 : Int × aW) => fZ (dH r3.1 r58 d_0_7_2 k62) r3.1 r58 i_4_60 d_4_60 d_0_7_2 x64 k s68.1 s68.2) (fun _ => rfl) (0, o4_4_60) h (bK [0, 1, 2, 3, 4] rfl rfl (aX rfl (bF ⟨rfl, rfl, rfl, rfl, rfl, rfl, trivial⟩))) ?_
     rintro k69 ⟨k_6_68, o4_6_68⟩ h
     simp only [fZ] at h
     refine aK ?_
     refine aK ?_
     refine aH ?_
     refine tr1 rfl (aE (v := .d (.lit (.int .i64 k_6_68))) (aA rfl) rfl rfl) ?_
     refine tr1 rfl (aE (v := .d (.lit (.int .i64 i_4_60))) (aA rfl) rfl rfl) ?_
     refine tr1 rfl (bE (aA rfl) rfl rfl rfl) ?_
     refine aJ ?_
     refine bY rfl (fun c70 => ?_) (fun c70 => ?_)
     ·have h := bD c70 h
      refine bU ?_
      refine aK ?_
      refine cF ?_
      refine aK ?_
      refine aH ?_
      refine tr1 rfl (aE (v := .d (.sl 5 (r58.map aP))) (aA rfl) rfl rfl) ?_
      refine tr1 rfl (aE (v := .d (.lit (.int .i64 k_6_68))) (aA rfl) rfl rfl) ?_
      obtain ⟨x71, h72, h⟩ := bind_some h
      refine tr1 rfl (bA (aA rfl) rfl rfl fT.of (bJ aP h72)) ?_
      refine tr1 rfl (jP (aA rfl) rfl kC (es := (aP x71)) rfl rfl) ?_
      refine cE rfl (eD (zs := [.lit (.int .i64 0), .lit (.int .i64 0), .lit (.int .i64 0), .lit (.int .i64 0), .lit (.int .i64 0)]) (aA rfl) Try.zeroValue32 rfl rfl) ?_
      rintro _ ⟨b73, rfl⟩
      refine tr1 rfl (cO (i := 5) rfl rfl rfl rfl rfl Try.sizeOf32 rfl (aA rfl) (Nat.le_of_ble_eq_true rfl) (ds' := (aP x71)) rfl) ?_
      refine aJ ?_
      refine aK ?_
      refine aH ?_
      refine tr1 rfl (aS (aA rfl) rfl lS) ?_
      refine tr1 rfl (aU (aA rfl) rfl (i := 5) rfl rfl aZ) ?_
      refine tr1 rfl (bE (aA rfl) rfl rfl rfl) ?_
      refine tr1 rfl (aE (v := .d (.lit (.bool ((!decide (x71.Kind = 5)))))) (aA rfl) rfl rfl) ?_
      obtain ⟨b74, h75, h⟩ := bind_some h
      refine cK 6 [4, 6, 8, 13, 14, 15, 16, 17] 121 b74 ?_ ?_
      ·refine bM (!decide (x71.Kind = 5)) (fun c80 => ?_) (fun c80 => ?_)
       ·have h75 := bD c80 h75
        refine aQ rfl rfl (aA rfl) rfl c80 (aS (aA rfl) rfl lE) ?_
        refine aQ rfl rfl (aA rfl) rfl c80 (aU (aA rfl) rfl (i := 5) rfl rfl aZ) ?_
        refine aQ rfl rfl (aA rfl) rfl c80 (aS (aA rfl) rfl lE) ?_
        refine aQ rfl rfl (aA rfl) rfl c80 (aU (aA rfl) rfl (i := 4) rfl rfl aZ) ?_
        refine aQ rfl rfl (aA rfl) rfl c80 (bE (aA rfl) rfl rfl rfl) ?_
        refine tr1 rfl (bO (v := .d (.lit (.bool ((decide (x71.Round = x64.Round)))))) (aA rfl) rfl c80 rfl rfl) ?_
        have h75 := Option.some.inj h75
        subst h75
        refine aJ (bN rfl ⟨rfl, rfl, rfl, rfl, rfl, rfl, rfl, rfl, trivial⟩ rfl)
       ·have h75 := bB c80 h75
        refine aV rfl rfl (aA rfl) rfl (aA rfl) rfl c80 ?_
        refine aV rfl rfl (aA rfl) rfl (aA rfl) rfl c80 ?_
        refine aV rfl rfl (aA rfl) rfl (aA rfl) rfl c80 ?_
        refine aV rfl rfl (aA rfl) rfl (aA rfl) rfl c80 ?_
        refine aV rfl rfl (aA rfl) rfl (aA rfl) rfl c80 ?_
        refine tr1 rfl (bH (v := .d (.lit (.bool false))) (aA rfl) rfl c80 rfl rfl) ?_
        have h75 := Option.some.inj h75
        subst h75
        refine aJ (bN rfl ⟨rfl, rfl, rfl, rfl, rfl, rfl, rfl, rfl, trivial⟩ rfl)
      ·refine tr1 rfl (aE (v := .d (.lit (.bool b74))) (aA rfl) rfl rfl) ?_
       obtain ⟨b76, h77, h⟩ := bind_some h
       refine cK 6 [4, 6, 8, 13, 14, 15, 16] 128 b76 ?_ ?_
       ·refine bM (b74) (fun c79 => ?_) (fun c79 => ?_)
        ·have h77 := bD c79 h77
         refine aQ rfl rfl (aA rfl) rfl c79 (aS (aA rfl) rfl iH) ?_
         refine aQ rfl rfl (aA rfl) rfl c79 (aU (aA rfl) rfl (i := 5) rfl rfl aZ) ?_
         refine aQ rfl rfl (aA rfl) rfl c79 (aS (aA rfl) rfl iH) ?_
         refine aQ rfl rfl (aA rfl) rfl c79 (aU (aA rfl) rfl (i := 4) rfl rfl aZ) ?_
         refine aQ rfl rfl (aA rfl) rfl c79 (bE (aA rfl) rfl rfl rfl) ?_
         refine tr1 rfl (bO (v := .d (.lit (.bool ((decide (x71.Place = x64.Place)))))) (aA rfl) rfl c79 rfl rfl) ?_
         have h77 := Option.some.inj h77
         subst h77
         refine aJ (bN rfl ⟨rfl, rfl, rfl, rfl, rfl, rfl, rfl, trivial⟩ rfl)
        ·have h77 := bB c79 h77
         refine aV rfl rfl (aA rfl) rfl (aA rfl) rfl c79 ?_
         refine aV rfl rfl (aA rfl) rfl (aA rfl) rfl c79 ?_
         refine aV rfl rfl (aA rfl) rfl (aA rfl) rfl c79 ?_
         refine aV rfl rfl (aA rfl) rfl (aA rfl) rfl c79 ?_
         refine aV rfl rfl (aA rfl) rfl (aA rfl) rfl c79 ?_
         refine tr1 rfl (bH (v := .d (.lit (.bool false))) (aA rfl) rfl c79 rfl rfl) ?_
         have h77 := Option.some.inj h77
         subst h77
         refine aJ (bN rfl ⟨rfl, rfl, rfl, rfl, rfl, rfl, rfl, trivial⟩ rfl)
       ·refine aJ ?_
        refine bY rfl (fun c78 => ?_) (fun c78 => ?_)
        ·have h := bD c78 h
         refine aK ?_
         refine aH ?_
         refine tr1 rfl (fN (aA rfl) yR (zs := [.sl 1 ((([] : List Int)).map aO), .sl 1 ((([] : List (List Int))).map cG)]) rfl rfl rfl rfl (es := [.sl 1 ((([] : List Int)).map aO), .sl 1 ((([] : List (List Int))).map cG)]) rfl) ?_
         refine tr1 rfl (cO (i := 0) rfl rfl rfl rfl rfl Try.sizeOf89 rfl (aA rfl) (Nat.le_of_ble_eq_true rfl) (ds' := (cP (aW.mk ([] : List Int) ([] : List (List Int))))) rfl) ?_
         refine tr1 rfl (aL (v := .d (.lit (.bool false))) (aA rfl) rfl rfl) ?_
         refine aJ ?_
         have h := Option.some.inj h
         subst h
         exact bV ⟨rfl, _, [.box b2 0 (cP (aW.mk ([] : List Int) ([] : List (List Int)))), .fam 3 1 vs61 (d_4_60.map fun r => r.map aO), .arr w9 22 1 (vs61.map fun v => [.lit v]), .box b6 0 [.sl 1 (d_0_7_2.map aO), .lit w9], .box b66 0 (aP x64), .box b73 0 (aP x71)], .two (.cell 4 89 rfl (i := 0) rfl vG (es := (cP (aW.mk ([] : List Int) ([] : List (List Int))))) rfl rfl) (.tmp 5 (v := .d (.lit (.bool false))) rfl), .refl _, .same _⟩
        ·have h := bB c78 h
         refine eH ?_
         refine aH ?_
         refine tr1 rfl (aE (v := .d (.lit (.int .i64 k_6_68))) (aA rfl) rfl rfl) ?_
         refine tr1 rfl (bL (aA rfl) rfl rfl rfl) ?_
         refine tr1 rfl (aL (v := .d (.lit (.int .i64 ((w64 (k_6_68 + 1)))))) (aA rfl) rfl rfl) ?_
         refine aJ ?_
         exact ⟨(w64 (k_6_68 + 1), o4_6_68), h, bK [0, 1, 2, 3, 4] rfl rfl (aX rfl (bF ⟨rfl, rfl, rfl, rfl, rfl, rfl, trivial⟩))⟩
     ·have h := bB c70 h
      refine dB ?_
      refine .inl ⟨rfl, ?_⟩
      simp only [mG] at h
      refine aK ?_
      refine aH ?_
      refine tr1 rfl (aL (v := .d (.lit (.int .i64 (-1)))) (aA rfl) rfl rfl) ?_
      refine aJ ?_
      refine aK ?_
      refine aK ?_
      refine aH ?_
      refine tr1 rfl (aL (v := .d (.lit (.int .i64 0))) (aA rfl) rfl rfl) ?_
      refine aJ ?_
      refine cF ?_
      refine dJ [4, 6, 8, 13, 14, 15] (fun (s81 : Int × Int) => [(18, .d (.lit (.int .i64 s81.1))), (19, .d (.lit (.int .i64 s81.2)))]) (fun (s81 : Int × Int) => [.box b2 0 (cP o4_6_68), .fam 3 1 vs61 (d_4_60.map fun r => r.map aO), .arr w9 22 1 (vs61.map fun v => [.lit v]), .box b6 0 [.sl 1 (d_0_7_2.map aO), .lit w9], .box b66 0 (aP x64)]) (fun (k : Nat) (s81 : Int × Int) => dU (dH r3.1 r58 d_0_7_2 k62) r3.1 r58 i_4_60 o4_6_68 d_4_60 d_0_7_2 x64 k s81.1 s81.2) (fun _ => rfl) ((-1), 0) h (bK [0, 1, 2, 3, 4] rfl rfl (aX rfl (aX rfl (bF ⟨rfl, rfl, rfl, rfl, rfl, rfl, trivial⟩)))) ?_
      rintro k82 ⟨atv_8_81, s_8_81⟩ h
      simp only [dU] at h
      refine aK ?_
      refine aK ?_
      refine aH ?_
      refine tr1 rfl (aE (v := .d (.lit (.int .i64 s_8_81))) (aA rfl) rfl rfl) ?_
      refine tr1 rfl (aE (v := .d (.sl 1 (r3.1.map aO))) (aA rfl) rfl rfl) ?_
      refine tr1 rfl (dR (aA rfl) rfl bP.of) ?_
      refine tr1 rfl (bE (aA rfl) rfl rfl rfl) ?_
      refine aJ ?_
      refine bY rfl (fun c83 => ?_) (fun c83 => ?_)
      ·have h := bD c83 h
       refine bU ?_
       refine aK ?_
       refine cF ?_
       refine aK ?_
       obtain ⟨x84, h85, h⟩ := bind_some h
       refine dN mix 6 [4, 6, 8, 13, 14, 15, 18, 19] [(139, .d (.lit (.int .i64 x84))), (141, .d (.lit (.int .i64 x64.Player)))] ?_ ?_
       ·refine ⟨[(136, 0, .d (.sl 1 (r3.1.map aO))), (137, 1, .d (.lit (.int .i64 s_8_81))), (138, 2, .cp [.lit (.int .i64 x84)]), (139, 3, .d (.lit (.int .i64 x84))), (140, 4, .bp b66 0 3), (141, 5, .d (.lit (.int .i64 x64.Player)))], ?_, ?_⟩
        · exact ⟨by kernel_rfl, by kernel_rfl, by kernel_rfl, by kernel_rfl, by kernel_rfl, [([], []), ([], []), ([0, 1], []), ([2], []), ([], []), ([4], [])], by kernel_rfl, ⟨fun S hS => aB rfl (aR rfl (aE (v := .d (.sl 1 (r3.1.map aO))) (aA rfl) (aC hS rfl) rfl)),
      fun S hS => aB rfl (aR rfl (aE (v := .d (.lit (.int .i64 s_8_81))) (aA rfl) (aC hS rfl) rfl)),
      fun S hS => aB rfl (aR rfl (bA (aA rfl) (aC hS rfl) (aC hS rfl) bP.of (bJ aO h85))),
      fun S hS => aB rfl (aR rfl (bC (aA rfl) (aC hS rfl) aZ)),
      fun S hS => aB rfl (aR rfl (aS (aA rfl) (aC hS rfl) lT)),
      fun S hS => aB rfl (aR rfl (aU (aA rfl) (aC hS rfl) (i := 4) rfl rfl aZ)), trivial⟩⟩
        · exact cL (aX rfl (aX rfl (bF ⟨rfl, rfl, rfl, rfl, rfl, rfl, rfl, rfl, trivial⟩)))
       ·refine tr1 rfl (bE (aA rfl) rfl rfl rfl) ?_
        refine aJ ?_
        refine bY rfl (fun c86 => ?_) (fun c86 => ?_)
        ·have h := bD c86 h
         refine aH ?_
         refine tr1 rfl (aE (v := .d (.lit (.int .i64 s_8_81))) (aA rfl) rfl rfl) ?_
         refine tr1 rfl (aL (v := .d (.lit (.int .i64 s_8_81))) (aA rfl) rfl rfl) ?_
         refine eY ?_
         refine aH ?_
         refine tr1 rfl (aE (v := .d (.lit (.int .i64 s_8_81))) (aA rfl) rfl rfl) ?_
         refine tr1 rfl (bL (aA rfl) rfl rfl rfl) ?_
         refine tr1 rfl (aL (v := .d (.lit (.int .i64 ((w64 (s_8_81 + 1)))))) (aA rfl) rfl rfl) ?_
         refine aJ ?_
         exact ⟨(s_8_81, w64 (s_8_81 + 1)), h, bK [0, 1, 2, 3, 4] rfl rfl (aX rfl (aX rfl (bF ⟨rfl, rfl, rfl, rfl, rfl, rfl, trivial⟩)))⟩
        ·have h := bB c86 h
         refine eH ?_
         refine aH ?_
         refine tr1 rfl (aE (v := .d (.lit (.int .i64 s_8_81))) (aA rfl) rfl rfl) ?_
         refine tr1 rfl (bL (aA rfl) rfl rfl rfl) ?_
         refine tr1 rfl (aL (v := .d (.lit (.int .i64 ((w64 (s_8_81 + 1)))))) (aA rfl) rfl rfl) ?_
         refine aJ ?_
         exact ⟨(atv_8_81, w64 (s_8_81 + 1)), h, bK [0, 1, 2, 3, 4] rfl rfl (aX rfl (aX rfl (bF ⟨rfl, rfl, rfl, rfl, rfl, rfl, trivial⟩)))⟩
      ·have h := bB c83 h
       refine dB ?_
       refine .inl ⟨rfl, ?_⟩
       simp only [fY] at h
       refine aK ?_
       refine aK ?_
       refine aH ?_
       refine tr1 rfl (aE (v := .d (.lit (.int .i64 atv_8_81))) (aA rfl) rfl rfl) ?_
       refine tr1 rfl (bE (aA rfl) rfl rfl rfl) ?_
       refine tr1 rfl (aE (v := .d (.lit (.bool ((decide (atv_8_81 < 0)))))) (aA rfl) rfl rfl) ?_
       obtain ⟨b87, h88, h⟩ := bind_some h
       refine cK 10 [4, 6, 8, 13, 14, 15, 18] 156 b87 ?_ ?_
       ·refine bM (decide (atv_8_81 < 0)) (fun c112 => ?_) (fun c112 => ?_)
        ·have h88 := bD c112 h88
         refine aV rfl rfl (aA rfl) rfl (aA rfl) rfl c112 ?_
         refine aV rfl rfl (aA rfl) rfl (aA rfl) rfl c112 ?_
         refine aV rfl rfl (aA rfl) rfl (aA rfl) rfl c112 ?_
         refine aV rfl rfl (aA rfl) rfl (aA rfl) rfl c112 ?_
         refine aV rfl rfl (aA rfl) rfl (aA rfl) rfl c112 ?_
         refine aV rfl rfl (aA rfl) rfl (aA rfl) rfl c112 ?_
         refine aV rfl rfl (aA rfl) rfl (aA rfl) rfl c112 ?_
         refine aV rfl rfl (aA rfl) rfl (aA rfl) rfl c112 ?_
         refine aV rfl rfl (aA rfl) rfl (aA rfl) rfl c112 ?_
         refine tr1 rfl (bO (v := .d (.lit (.bool true))) (aA rfl) rfl c112 rfl rfl) ?_
         have h88 := Option.some.inj h88
         subst h88
         refine aJ (bN rfl ⟨rfl, rfl, rfl, rfl, rfl, rfl, rfl, trivial⟩ rfl)
        ·have h88 := bB c112 h88
         refine aQ rfl rfl (aA rfl) rfl c112 (aE (v := .d (.lit (.int .i64 atv_8_81))) (aA rfl) rfl rfl) ?_
         refine aQ rfl rfl (aA rfl) rfl c112 (aS (aA rfl) rfl lE) ?_
         refine aQ rfl rfl (aA rfl) rfl c112 (aU (aA rfl) rfl (i := 4) rfl rfl aZ) ?_
         refine aQ rfl rfl (aA rfl) rfl c112 (bL (aA rfl) rfl rfl rfl) ?_
         refine aQ rfl rfl (aA rfl) rfl c112 (yM (aA rfl) rfl Try.runUnderlying3 Try.runUnderlying45) ?_
         obtain ⟨u113, h114, h88⟩ := bind_some h88
         refine aQ rfl rfl (aA rfl) rfl c112 (yY (aA rfl) rfl rfl (tJ h114)) ?_
         refine aQ rfl rfl (aA rfl) rfl c112 (aS (aA rfl) rfl iH) ?_
         refine aQ rfl rfl (aA rfl) rfl c112 (aU (aA rfl) rfl (i := 4) rfl rfl aZ) ?_
         refine aQ rfl rfl (aA rfl) rfl c112 (bE (aA rfl) rfl rfl rfl) ?_
         refine tr1 rfl (bH (v := .d (.lit (.bool ((!decide ((atv_8_81.fdiv (2 ^ (min (IntKind.u64.wrap (w64 (x64.Round + 1))).toNat 64))) = x64.Place)))))) (aA rfl) rfl c112 rfl rfl) ?_
         have h88 := Option.some.inj h88
         subst h88
         refine aJ (bN rfl ⟨rfl, rfl, rfl, rfl, rfl, rfl, rfl, trivial⟩ rfl)
       ·refine aJ ?_
        refine bY rfl (fun c89 => ?_) (fun c89 => ?_)
        ·have h := bD c89 h
         refine aK ?_
         refine aH ?_
         refine tr1 rfl (fN (aA rfl) yR (zs := [.sl 1 ((([] : List Int)).map aO), .sl 1 ((([] : List (List Int))).map cG)]) rfl rfl rfl rfl (es := [.sl 1 ((([] : List Int)).map aO), .sl 1 ((([] : List (List Int))).map cG)]) rfl) ?_
         refine tr1 rfl (cO (i := 0) rfl rfl rfl rfl rfl Try.sizeOf89 rfl (aA rfl) (Nat.le_of_ble_eq_true rfl) (ds' := (cP (aW.mk ([] : List Int) ([] : List (List Int))))) rfl) ?_
         refine tr1 rfl (aL (v := .d (.lit (.bool false))) (aA rfl) rfl rfl) ?_
         refine aJ ?_
         have h := Option.some.inj h
         subst h
         exact bV ⟨rfl, _, [.box b2 0 (cP (aW.mk ([] : List Int) ([] : List (List Int)))), .fam 3 1 vs61 (d_4_60.map fun r => r.map aO), .arr w9 22 1 (vs61.map fun v => [.lit v]), .box b6 0 [.sl 1 (d_0_7_2.map aO), .lit w9], .box b66 0 (aP x64)], .two (.cell 4 89 rfl (i := 0) rfl vG (es := (cP (aW.mk ([] : List Int) ([] : List (List Int))))) rfl rfl) (.tmp 5 (v := .d (.lit (.bool false))) rfl), .refl _, .same _⟩
        ·have h := bB c89 h
         refine bU ?_
         refine aK ?_
         refine aH ?_
         refine tr1 rfl (aL (v := .d (.lit (.int .i64 0))) (aA rfl) rfl rfl) ?_
         refine aJ ?_
         refine zA ?_
         refine dJ [4, 6, 8, 13, 14, 15, 18] (fun (s90 : Int × aW × (List (List Int)) × (List Value)) => [(20, .d (.lit (.int .i64 s90.1)))]) (fun (s90 : Int × aW × (List (List Int)) × (List Value)) => [.box b2 0 (cP s90.2.1), .fam 3 1 s90.2.2.2 (s90.2.2.1.map fun r => r.map aO), .arr w9 22 1 (s90.2.2.2.map fun v => [.lit v]), .box b6 0 [.sl 1 (d_0_7_2.map aO), .lit w9], .box b66 0 (aP x64)]) (fun (k : Nat) (s90 : Int × aW × (List (List Int)) × (List Value)) => fQ (dH r3.1 r58 d_0_7_2 k62) r3.1 r58 i_4_60 atv_8_81 d_0_7_2 x64 k s90.1 s90.2.1 s90.2.2.1) (fun _ => rfl) (0, o4_6_68, d_4_60, vs61) h (bK [0, 1, 2, 3, 4] rfl rfl (aX rfl (bF ⟨rfl, rfl, rfl, rfl, rfl, rfl, rfl, trivial⟩))) ?_
         rintro k92 ⟨r_10_90, o4_10_90, d_10_90, vs91⟩ h
         simp only [fQ] at h
         refine aK ?_
         refine aK ?_
         refine aH ?_
         refine tr1 rfl (aE (v := .d (.lit (.int .i64 r_10_90))) (aA rfl) rfl rfl) ?_
         refine tr1 rfl (aS (aA rfl) rfl lE) ?_
         refine tr1 rfl (aU (aA rfl) rfl (i := 4) rfl rfl aZ) ?_
         refine tr1 rfl (bE (aA rfl) rfl rfl rfl) ?_
         refine aJ ?_
         refine bY rfl (fun c93 => ?_) (fun c93 => ?_)
         ·have h := bD c93 h
          refine bU ?_
          refine aK ?_
          refine cF ?_
          refine aK ?_
          refine aH ?_
          refine tr1 rfl (aE (v := .d (.lit (.int .i64 atv_8_81))) (aA rfl) rfl rfl) ?_
          refine tr1 rfl (aE (v := .d (.lit (.int .i64 r_10_90))) (aA rfl) rfl rfl) ?_
          refine tr1 rfl (bL (aA rfl) rfl rfl rfl) ?_
          refine tr1 rfl (yM (aA rfl) rfl Try.runUnderlying3 Try.runUnderlying45) ?_
          obtain ⟨u94, h95, h⟩ := bind_some h
          refine tr1 rfl (yY (aA rfl) rfl rfl (tJ h95)) ?_
          refine tr1 rfl (aL (v := .d (.lit (.int .i64 ((atv_8_81.fdiv (2 ^ (min (IntKind.u64.wrap (w64 (r_10_90 + 1))).toNat 64))))))) (aA rfl) rfl rfl) ?_
          refine aJ ?_
          refine aK ?_
          refine aK ?_
          obtain ⟨x96, h97, h⟩ := bind_some h
          obtain ⟨x98, h99, h⟩ := bind_some h
          obtain ⟨b100, h101, h⟩ := bind_some h
          refine dN mix 22 [4, 6, 8, 13, 14, 15, 18, 20, 21] [(190, .d (.lit (.bool b100)))] ?_ ?_
          ·refine bM (!decide (x98 = (-2))) (fun c102 => ?_) (fun c102 => ?_)
           ·have h101 := bD c102 h101
            obtain ⟨x103, h104, h101⟩ := bind_some h101
            obtain ⟨x105, h106, h101⟩ := bind_some h101
            have h101 := Option.some.inj h101
            subst h101
            refine ⟨[(169, 0, .bp b6 0 1), (170, 1, .d (.lit w9)), (171, 2, .d (.lit (.int .i64 r_10_90))), (172, 3, .ep w9 1 r_10_90.toNat 0), (173, 4, .d (.lit (qD vs91 r_10_90))), (174, 5, .d (.lit (.int .i64 ((atv_8_81.fdiv (2 ^ (min (IntKind.u64.wrap (w64 (r_10_90 + 1))).toNat 64))))))), (175, 6, .ep (qD vs91 r_10_90) 1 (atv_8_81.fdiv (2 ^ (min (IntKind.u64.wrap (w64 (r_10_90 + 1))).toNat 64))).toNat 0), (176, 7, .d (.lit (.int .i64 x98))), (177, 8, .d (.lit (.bool ((!decide (x98 = (-2))))))), (178, 9, .d (.lit (.bool ((!decide (x98 = (-2))))))), (179, 10, .bp b6 0 1), (180, 11, .d (.lit w9)), (181, 12, .d (.lit (.int .i64 r_10_90))), (182, 13, .ep w9 1 r_10_90.toNat 0), (183, 14, .d (.lit (qD vs91 r_10_90))), (184, 15, .d (.lit (.int .i64 ((atv_8_81.fdiv (2 ^ (min (IntKind.u64.wrap (w64 (r_10_90 + 1))).toNat 64))))))), (185, 16, .ep (qD vs91 r_10_90) 1 (atv_8_81.fdiv (2 ^ (min (IntKind.u64.wrap (w64 (r_10_90 + 1))).toNat 64))).toNat 0), (186, 17, .d (.lit (.int .i64 x105))), (187, 18, .bp b66 0 3), (188, 19, .d (.lit (.int .i64 x64.Player))), (189, 20, .d (.lit (.bool ((!decide (x105 = x64.Player)))))), (190, 21, .d (.lit (.bool ((!decide (x105 = x64.Player))))))], ?_, ?_⟩
            · exact ⟨by kernel_rfl, by kernel_rfl, by kernel_rfl, by kernel_rfl, by kernel_rfl, [([], []), ([0], []), ([], []), ([1, 2], []), ([3], []), ([], []), ([4, 5], []), ([6], []), ([7], []), ([8], []), ([9], []), ([9, 10], []), ([9], []), ([9, 11, 12], []), ([9, 13], []), ([9], []), ([9, 14, 15], []), ([9, 16], []), ([9], []), ([9, 18], []), ([9, 17, 19], []), ([9, 20], [])], by kernel_rfl, ⟨fun S hS => aB rfl (aR rfl (aS (aA rfl) (aC hS rfl) rW)),
      fun S hS => aB rfl (aR rfl (aU (aA rfl) (aC hS rfl) (i := 3) rfl rfl yJ)),
      fun S hS => aB rfl (aR rfl (aE (v := .d (.lit (.int .i64 r_10_90))) (aA rfl) (aC hS rfl) rfl)),
      fun S hS => aB rfl (aR rfl (rG (m := 2) (f := 1) (aA rfl) (aC hS rfl) rfl rfl (aC hS rfl) jG.of h97)),
      fun S hS => aB rfl (aR rfl (sE (m := 2) (f := 1) (aA rfl) (aC hS rfl) rfl rfl h97 cU)),
      fun S hS => aB rfl (aR rfl (aE (v := .d (.lit (.int .i64 ((atv_8_81.fdiv (2 ^ (min (IntKind.u64.wrap (w64 (r_10_90 + 1))).toNat 64))))))) (aA rfl) (aC hS rfl) rfl)),
      fun S hS => aB rfl (aR rfl (sD (f := 1) (g := aO) (aA rfl) (aC hS rfl) rfl h97 (aC hS rfl) bP.of h99)),
      fun S hS => aB rfl (aR rfl (wV (f := 1) (g := aO) (aA rfl) (aC hS rfl) rfl h97 h99 rfl aZ)),
      fun S hS => aB rfl (aR rfl (bE (aA rfl) (aC hS rfl) rfl rfl)),
      fun S hS => aB rfl (aR rfl (aE (v := .d (.lit (.bool ((!decide (x98 = (-2))))))) (aA rfl) (aC hS rfl) rfl)),
      fun S hS => aB rfl (aG rfl rfl (aA rfl) (aD hS rfl) c102 (aS (aA rfl) (aC hS rfl) rW)),
      fun S hS => aB rfl (aG rfl rfl (aA rfl) (aD hS rfl) c102 (aU (aA rfl) (aC hS rfl) (i := 3) rfl rfl yJ)),
      fun S hS => aB rfl (aG rfl rfl (aA rfl) (aD hS rfl) c102 (aE (v := .d (.lit (.int .i64 r_10_90))) (aA rfl) (aC hS rfl) rfl)),
      fun S hS => aB rfl (aG rfl rfl (aA rfl) (aD hS rfl) c102 (rG (m := 2) (f := 1) (aA rfl) (aC hS rfl) rfl rfl (aC hS rfl) jG.of h104)),
      fun S hS => aB rfl (aG rfl rfl (aA rfl) (aD hS rfl) c102 (sE (m := 2) (f := 1) (aA rfl) (aC hS rfl) rfl rfl h104 cU)),
      fun S hS => aB rfl (aG rfl rfl (aA rfl) (aD hS rfl) c102 (aE (v := .d (.lit (.int .i64 ((atv_8_81.fdiv (2 ^ (min (IntKind.u64.wrap (w64 (r_10_90 + 1))).toNat 64))))))) (aA rfl) (aC hS rfl) rfl)),
      fun S hS => aB rfl (aG rfl rfl (aA rfl) (aD hS rfl) c102 (sD (f := 1) (g := aO) (aA rfl) (aC hS rfl) rfl h104 (aC hS rfl) bP.of h106)),
      fun S hS => aB rfl (aG rfl rfl (aA rfl) (aD hS rfl) c102 (wV (f := 1) (g := aO) (aA rfl) (aC hS rfl) rfl h104 h106 rfl aZ)),
      fun S hS => aB rfl (aG rfl rfl (aA rfl) (aD hS rfl) c102 (aS (aA rfl) (aC hS rfl) lT)),
      fun S hS => aB rfl (aG rfl rfl (aA rfl) (aD hS rfl) c102 (aU (aA rfl) (aC hS rfl) (i := 4) rfl rfl aZ)),
      fun S hS => aB rfl (aG rfl rfl (aA rfl) (aD hS rfl) c102 (bE (aA rfl) (aC hS rfl) (aC hS rfl) rfl)),
      fun S hS => aB rfl (aR rfl (bO (v := .d (.lit (.bool ((!decide (x105 = x64.Player)))))) (aA rfl) (aC hS rfl) c102 (aC hS rfl) rfl)), trivial⟩⟩
            · exact cL (aX rfl (bF ⟨rfl, rfl, rfl, rfl, rfl, rfl, rfl, rfl, rfl, trivial⟩))
           ·have h101 := bB c102 h101
            have h101 := Option.some.inj h101
            subst h101
            refine ⟨[(169, 0, .bp b6 0 1), (170, 1, .d (.lit w9)), (171, 2, .d (.lit (.int .i64 r_10_90))), (172, 3, .ep w9 1 r_10_90.toNat 0), (173, 4, .d (.lit (qD vs91 r_10_90))), (174, 5, .d (.lit (.int .i64 ((atv_8_81.fdiv (2 ^ (min (IntKind.u64.wrap (w64 (r_10_90 + 1))).toNat 64))))))), (175, 6, .ep (qD vs91 r_10_90) 1 (atv_8_81.fdiv (2 ^ (min (IntKind.u64.wrap (w64 (r_10_90 + 1))).toNat 64))).toNat 0), (176, 7, .d (.lit (.int .i64 x98))), (177, 8, .d (.lit (.bool ((!decide (x98 = (-2))))))), (178, 9, .d (.lit (.bool ((!decide (x98 = (-2))))))), (179, 10, .tup []), (180, 11, .tup []), (181, 12, .tup []), (182, 13, .tup []), (183, 14, .tup []), (184, 15, .tup []), (185, 16, .tup []), (186, 17, .tup []), (187, 18, .tup []), (188, 19, .tup []), (189, 20, .tup []), (190, 21, .d (.lit (.bool false)))], ?_, ?_⟩
            · exact ⟨by kernel_rfl, by kernel_rfl, by kernel_rfl, by kernel_rfl, by kernel_rfl, [([], []), ([0], []), ([], []), ([1, 2], []), ([3], []), ([], []), ([4, 5], []), ([6], []), ([7], []), ([8], []), ([9], []), ([9, 10], []), ([9], []), ([9, 11, 12], []), ([9, 13], []), ([9], []), ([9, 14, 15], []), ([9, 16], []), ([9], []), ([9, 18], []), ([9, 17, 19], []), ([9, 20], [])], by kernel_rfl, ⟨fun S hS => aB rfl (aR rfl (aS (aA rfl) (aC hS rfl) rW)),
      fun S hS => aB rfl (aR rfl (aU (aA rfl) (aC hS rfl) (i := 3) rfl rfl yJ)),
      fun S hS => aB rfl (aR rfl (aE (v := .d (.lit (.int .i64 r_10_90))) (aA rfl) (aC hS rfl) rfl)),
      fun S hS => aB rfl (aR rfl (rG (m := 2) (f := 1) (aA rfl) (aC hS rfl) rfl rfl (aC hS rfl) jG.of h97)),
      fun S hS => aB rfl (aR rfl (sE (m := 2) (f := 1) (aA rfl) (aC hS rfl) rfl rfl h97 cU)),
      fun S hS => aB rfl (aR rfl (aE (v := .d (.lit (.int .i64 ((atv_8_81.fdiv (2 ^ (min (IntKind.u64.wrap (w64 (r_10_90 + 1))).toNat 64))))))) (aA rfl) (aC hS rfl) rfl)),
      fun S hS => aB rfl (aR rfl (sD (f := 1) (g := aO) (aA rfl) (aC hS rfl) rfl h97 (aC hS rfl) bP.of h99)),
      fun S hS => aB rfl (aR rfl (wV (f := 1) (g := aO) (aA rfl) (aC hS rfl) rfl h97 h99 rfl aZ)),
      fun S hS => aB rfl (aR rfl (bE (aA rfl) (aC hS rfl) rfl rfl)),
      fun S hS => aB rfl (aR rfl (aE (v := .d (.lit (.bool ((!decide (x98 = (-2))))))) (aA rfl) (aC hS rfl) rfl)),
      fun S hS => aB rfl (aM rfl rfl (aA rfl) rfl (aA rfl) (aD hS rfl) c102),
      fun S hS => aB rfl (aM rfl rfl (aA rfl) rfl (aA rfl) (aD hS rfl) c102),
      fun S hS => aB rfl (aM rfl rfl (aA rfl) rfl (aA rfl) (aD hS rfl) c102),
      fun S hS => aB rfl (aM rfl rfl (aA rfl) rfl (aA rfl) (aD hS rfl) c102),
      fun S hS => aB rfl (aM rfl rfl (aA rfl) rfl (aA rfl) (aD hS rfl) c102),
      fun S hS => aB rfl (aM rfl rfl (aA rfl) rfl (aA rfl) (aD hS rfl) c102),
      fun S hS => aB rfl (aM rfl rfl (aA rfl) rfl (aA rfl) (aD hS rfl) c102),
      fun S hS => aB rfl (aM rfl rfl (aA rfl) rfl (aA rfl) (aD hS rfl) c102),
      fun S hS => aB rfl (aM rfl rfl (aA rfl) rfl (aA rfl) (aD hS rfl) c102),
      fun S hS => aB rfl (aM rfl rfl (aA rfl) rfl (aA rfl) (aD hS rfl) c102),
      fun S hS => aB rfl (aM rfl rfl (aA rfl) rfl (aA rfl) (aD hS rfl) c102),
      fun S hS => aB rfl (aR rfl (bH (v := .d (.lit (.bool false))) (aA rfl) (aC hS rfl) c102 rfl rfl)), trivial⟩⟩
            · exact cL (aX rfl (bF ⟨rfl, rfl, rfl, rfl, rfl, rfl, rfl, rfl, rfl, trivial⟩))
          ·refine aJ ?_
           refine bY rfl (fun c107 => ?_) (fun c107 => ?_)
           ·have h := bD c107 h
            refine aK ?_
            refine aH ?_
            refine tr1 rfl (fN (aA rfl) yR (zs := [.sl 1 ((([] : List Int)).map aO), .sl 1 ((([] : List (List Int))).map cG)]) rfl rfl rfl rfl (es := [.sl 1 ((([] : List Int)).map aO), .sl 1 ((([] : List (List Int))).map cG)]) rfl) ?_
            refine tr1 rfl (cO (i := 0) rfl rfl rfl rfl rfl Try.sizeOf89 rfl (aA rfl) (Nat.le_of_ble_eq_true rfl) (ds' := (cP (aW.mk ([] : List Int) ([] : List (List Int))))) rfl) ?_
            refine tr1 rfl (aL (v := .d (.lit (.bool false))) (aA rfl) rfl rfl) ?_
            refine aJ ?_
            have h := Option.some.inj h
            subst h
            exact bV ⟨rfl, _, [.box b2 0 (cP (aW.mk ([] : List Int) ([] : List (List Int)))), .fam 3 1 vs91 (d_10_90.map fun r => r.map aO), .arr w9 22 1 (vs91.map fun v => [.lit v]), .box b6 0 [.sl 1 (d_0_7_2.map aO), .lit w9], .box b66 0 (aP x64)], .two (.cell 4 89 rfl (i := 0) rfl vG (es := (cP (aW.mk ([] : List Int) ([] : List (List Int))))) rfl rfl) (.tmp 5 (v := .d (.lit (.bool false))) rfl), .refl _, .same _⟩
           ·have h := bB c107 h
            refine bU ?_
            obtain ⟨x108, h109, h⟩ := bind_some h
            refine dN mix 8 [4, 6, 8, 13, 14, 15, 18, 20] [(196, .d (.lit (qD vs91 r_10_90))), (197, .d (.lit (.int .i64 ((atv_8_81.fdiv (2 ^ (min (IntKind.u64.wrap (w64 (r_10_90 + 1))).toNat 64))))))), (199, .d (.lit (.int .i64 x64.Player)))] ?_ ?_
            ·refine ⟨[(192, 0, .bp b6 0 1), (193, 1, .d (.lit w9)), (194, 2, .d (.lit (.int .i64 r_10_90))), (195, 3, .ep w9 1 r_10_90.toNat 0), (196, 4, .d (.lit (qD vs91 r_10_90))), (197, 5, .d (.lit (.int .i64 ((atv_8_81.fdiv (2 ^ (min (IntKind.u64.wrap (w64 (r_10_90 + 1))).toNat 64))))))), (198, 6, .bp b66 0 3), (199, 7, .d (.lit (.int .i64 x64.Player)))], ?_, ?_⟩
             · exact ⟨by kernel_rfl, by kernel_rfl, by kernel_rfl, by kernel_rfl, by kernel_rfl, [([], []), ([0], []), ([], []), ([1, 2], []), ([3], []), ([], []), ([], []), ([6], [])], by kernel_rfl, ⟨fun S hS => aB rfl (aR rfl (aS (aA rfl) (aC hS rfl) rW)),
      fun S hS => aB rfl (aR rfl (aU (aA rfl) (aC hS rfl) (i := 3) rfl rfl yJ)),
      fun S hS => aB rfl (aR rfl (aE (v := .d (.lit (.int .i64 r_10_90))) (aA rfl) (aC hS rfl) rfl)),
      fun S hS => aB rfl (aR rfl (rG (m := 2) (f := 1) (aA rfl) (aC hS rfl) rfl rfl (aC hS rfl) jG.of h109)),
      fun S hS => aB rfl (aR rfl (sE (m := 2) (f := 1) (aA rfl) (aC hS rfl) rfl rfl h109 cU)),
      fun S hS => aB rfl (aR rfl (aE (v := .d (.lit (.int .i64 ((atv_8_81.fdiv (2 ^ (min (IntKind.u64.wrap (w64 (r_10_90 + 1))).toNat 64))))))) (aA rfl) (aC hS rfl) rfl)),
      fun S hS => aB rfl (aR rfl (aS (aA rfl) (aC hS rfl) lT)),
      fun S hS => aB rfl (aR rfl (aU (aA rfl) (aC hS rfl) (i := 4) rfl rfl aZ)), trivial⟩⟩
             · exact cL (aX rfl (aX rfl (aX rfl (bF ⟨rfl, rfl, rfl, rfl, rfl, rfl, rfl, rfl, trivial⟩))))
            ·obtain ⟨x110, h111, h⟩ := bind_some h
             refine tr1 rfl (sD (f := 1) (g := aO) (aA rfl) rfl rfl h109 rfl bP.of h111) ?_
             refine tr1 rfl (aFv (f := 1) (g := aO) rfl rfl h109 h111 rfl rfl rfl Try.sizeOf3 rfl (aA rfl) (Nat.le_of_ble_eq_true rfl) (a' := x64.Player) rfl (c' := (d_10_90.set r_10_90.toNat (x108.set (atv_8_81.fdiv (2 ^ (min (IntKind.u64.wrap (w64 (r_10_90 + 1))).toNat 64))).toNat x64.Player))) rfl) ?_
             refine eY ?_
             refine aH ?_
             refine tr1 rfl (aE (v := .d (.lit (.int .i64 r_10_90))) (aA rfl) rfl rfl) ?_
             refine tr1 rfl (bL (aA rfl) rfl rfl rfl) ?_
             refine tr1 rfl (aL (v := .d (.lit (.int .i64 ((w64 (r_10_90 + 1)))))) (aA rfl) rfl rfl) ?_
             refine aJ ?_
             exact ⟨(w64 (r_10_90 + 1), o4_10_90, (d_10_90.set r_10_90.toNat (x108.set (atv_8_81.fdiv (2 ^ (min (IntKind.u64.wrap (w64 (r_10_90 + 1))).toNat 64))).toNat x64.Player)), vs91), h, bK [0, 1, 2, 3, 4] rfl rfl (aX rfl (bF ⟨rfl, rfl, rfl, rfl, rfl, rfl, rfl, trivial⟩))⟩
         ·have h := bB c93 h
          refine dB ?_
          refine .inl ⟨rfl, ?_⟩
          simp only [oC] at h
          simp only [jC] at h
          refine aH ?_
          refine tr1 rfl (aE (v := .d (.lit (.int .i64 i_4_60))) (aA rfl) rfl rfl) ?_
          refine tr1 rfl (bL (aA rfl) rfl rfl rfl) ?_
          refine tr1 rfl (aL (v := .d (.lit (.int .i64 ((w64 (i_4_60 + 1)))))) (aA rfl) rfl rfl) ?_
          refine aJ ?_
          exact ⟨(w64 (i_4_60 + 1), o4_10_90, d_10_90, vs91), h, bK [0, 1, 2, 3] rfl rfl (aX rfl (bF ⟨rfl, rfl, rfl, rfl, trivial⟩))⟩
   ·have h := bB c63 h
    refine dB ?_
    refine .inl ⟨rfl, ?_⟩
    simp only [oQ] at h
    refine aK ?_
    refine aH ?_
    refine tr1 rfl (bW (aA rfl) rfl (i := 3) rfl vG (es := [.sl 1 (d_0_7_2.map aO), .lit w9]) rfl rfl) ?_
    refine tr1 rfl (cO (i := 0) rfl rfl rfl rfl rfl Try.sizeOf89 rfl (aA rfl) (Nat.le_of_ble_eq_true rfl) (ds' := [.sl 1 (d_0_7_2.map aO), .lit w9]) rfl) ?_
    refine tr1 rfl (aL (v := .d (.lit (.bool true))) (aA rfl) rfl rfl) ?_
    refine aJ ?_
    have h := Option.some.inj h
    subst h
    exact bV ⟨rfl, _, [.box b2 0 [.sl 1 (d_0_7_2.map aO), .lit w9], .fam 3 1 vs61 (d_4_60.map fun r => r.map aO), .arr w9 22 1 (vs61.map fun v => [.lit v]), .box b6 0 [.sl 1 (d_0_7_2.map aO), .lit w9]], .two (.cell 4 89 rfl (i := 0) rfl vG (es := [.sl 1 (d_0_7_2.map aO), .lit w9]) rfl rfl) (.tmp 5 (v := .d (.lit (.bool true))) rfl), .refl _, tR (.cons (.agg (dvc (.same _) (dvc (aMh 2 1 rfl rfl (h := cG) (fun _ => rfl)) dvn))) (.cons (.same _) .nil))⟩

theorem xS (t_0 : aT) (l_1 : List aI) {r : Int} (h : eT t_0 l_1 = some r) : Fn Try.prog 29 [.agg (aY t_0), .d (.sl 5 (l_1.map aP))] (.d (.lit (.int .i64 r))) := by
 unfold eT at h
 refine Fn.of_tr Try.func29 rfl (rs := [.tmp 4]) Try.results29 Try.ntmps29 (Nat.le_of_ble_eq_true rfl) ?_
 refine aK ?_
 refine aH ?_
 refine cE rfl (gL (v := .agg (aY t_0)) (aA rfl) rfl rfl rfl) ?_
 rintro _ ⟨b1, rfl⟩
 refine tr1 rfl (aL (v := .d (.lit (.int .i64 0))) (aA rfl) rfl rfl) ?_
 refine aJ ?_
 refine aK ?_
 refine aK ?_
 refine aH ?_
 refine tr1 rfl (bW (aA rfl) rfl (i := 0) rfl dX (es := (aY t_0)) rfl rfl) ?_
 obtain ⟨r2, h3, h⟩ := bind_some h
 refine tr1 rfl (cZ (aA rfl) (.func _ _ Try.call53) rfl rfl (BVs.refl _ _) (xD _ h3) rfl) ?_
 refine tr1 rfl (fJ (aA rfl) rfl) ?_
 refine aJ ?_
 refine bY rfl (fun c4 => ?_) (fun c4 => ?_)
 ·have h := bD c4 h
  refine aK ?_
  refine aH ?_
  refine tr1 rfl (aL (v := .d (.lit (.int .i64 70))) (aA rfl) rfl rfl) ?_
  refine aJ ?_
  have h := Option.some.inj h
  subst h
  refine cR (cQ (cX (l := [4]) ⟨rfl, trivial⟩)) ?_
  exact bV ⟨rfl, _, .one _, rfl, rfl⟩
 ·have h := bB c4 h
  refine bU ?_
  refine aK ?_
  refine aK ?_
  refine aH ?_
  refine tr1 rfl (aE (v := .d (.sl 5 (l_1.map aP))) (aA rfl) rfl rfl) ?_
  refine tr1 rfl (dR (aA rfl) rfl fT.of) ?_
  refine tr1 rfl (bE (aA rfl) rfl rfl rfl) ?_
  refine aJ ?_
  refine bY rfl (fun c5 => ?_) (fun c5 => ?_)
  ·have h := bD c5 h
   refine aK ?_
   refine aH ?_
   refine tr1 rfl (aL (v := .d (.lit (.int .i64 71))) (aA rfl) rfl rfl) ?_
   refine aJ ?_
   have h := Option.some.inj h
   subst h
   refine cR (cQ (cX (l := [4]) ⟨rfl, trivial⟩)) ?_
   exact bV ⟨rfl, _, .one _, rfl, rfl⟩
  ·have h := bB c5 h
   refine bU ?_
   refine aK ?_
   refine aK ?_
   refine aH ?_
   refine tr1 rfl (aL (v := .d (.lit (.int .i64 0))) (aA rfl) rfl rfl) ?_
   refine aJ ?_
   refine cF ?_
   refine dJ [1, 2] (fun (s6 : Int) => [(5, .d (.lit (.int .i64 s6)))]) (fun (s6 : Int) => [.box b1 0 (aY t_0)]) (fun (k : Nat) (s6 : Int) => fP l_1 t_0 k s6) (fun _ => rfl) (0) h (bK [0] rfl rfl (aX rfl (bF ⟨rfl, rfl, trivial⟩))) ?_
   rintro k7 i_0_6 h
   simp only [fP] at h
   refine aK ?_
   refine aK ?_
   refine aH ?_
   refine tr1 rfl (aE (v := .d (.lit (.int .i64 i_0_6))) (aA rfl) rfl rfl) ?_
   refine tr1 rfl (aE (v := .d (.sl 5 (l_1.map aP))) (aA rfl) rfl rfl) ?_
   refine tr1 rfl (dR (aA rfl) rfl fT.of) ?_
   refine tr1 rfl (bE (aA rfl) rfl rfl rfl) ?_
   refine aJ ?_
   refine bY rfl (fun c8 => ?_) (fun c8 => ?_)
   ·have h := bD c8 h
    refine bU ?_
    refine aK ?_
    refine cF ?_
    refine aK ?_
    obtain ⟨x9, h10, h⟩ := bind_some h
    refine dN mix 5 [1, 2, 5] [(20, .agg (aY t_0)), (24, .agg (aP x9))] ?_ ?_
    ·refine ⟨[(20, 0, .agg (aY t_0)), (21, 1, .d (.sl 5 (l_1.map aP))), (22, 2, .d (.lit (.int .i64 i_0_6))), (23, 3, .cp [.lit (.int .i64 x9.Kind), .lit (.int .i64 x9.Round), .lit (.int .i64 x9.Place), .lit (.int .i64 x9.Player), .lit (.int .i64 x9.Old)]), (24, 4, .agg (aP x9))], ?_, ?_⟩
     · exact ⟨by kernel_rfl, by kernel_rfl, by kernel_rfl, by kernel_rfl, by kernel_rfl, [([], []), ([], []), ([], []), ([1, 2], []), ([3], [])], by kernel_rfl, ⟨fun S hS => aB rfl (aR rfl (bW (aA rfl) (aC hS rfl) (i := 0) rfl dX (es := (aY t_0)) rfl rfl)),
      fun S hS => aB rfl (aR rfl (aE (v := .d (.sl 5 (l_1.map aP))) (aA rfl) (aC hS rfl) rfl)),
      fun S hS => aB rfl (aR rfl (aE (v := .d (.lit (.int .i64 i_0_6))) (aA rfl) (aC hS rfl) rfl)),
      fun S hS => aB rfl (aR rfl (bA (aA rfl) (aC hS rfl) (aC hS rfl) fT.of (bJ aP h10))),
      fun S hS => aB rfl (aR rfl (jP (aA rfl) (aC hS rfl) kC (es := (aP x9)) rfl rfl)), trivial⟩⟩
     · exact cL (aX rfl (aX rfl (bF ⟨rfl, rfl, rfl, trivial⟩)))
    ·obtain ⟨r11, h12, h⟩ := bind_some h
     refine tr1 rfl (cZ (aA rfl) (.func _ _ Try.call54) rfl rfl (BVs.refl _ _) (xF _ _ h12) rfl) ?_
     refine tr1 rfl (fJ (aA rfl) rfl) ?_
     refine aJ ?_
     refine bY rfl (fun c13 => ?_) (fun c13 => ?_)
     ·have h := bD c13 h
      refine aK ?_
      refine aH ?_
      refine tr1 rfl (aL (v := .d (.lit (.int .i64 71))) (aA rfl) rfl rfl) ?_
      refine aJ ?_
      have h := Option.some.inj h
      subst h
      refine cR (cQ (cX (l := [4]) ⟨rfl, trivial⟩)) ?_
      exact bV ⟨rfl, _, .one _, rfl, rfl⟩
     ·have h := bB c13 h
      refine eH ?_
      refine aH ?_
      refine tr1 rfl (aE (v := .d (.lit (.int .i64 i_0_6))) (aA rfl) rfl rfl) ?_
      refine tr1 rfl (bL (aA rfl) rfl rfl rfl) ?_
      refine tr1 rfl (aL (v := .d (.lit (.int .i64 ((w64 (i_0_6 + 1)))))) (aA rfl) rfl rfl) ?_
      refine aJ ?_
      exact ⟨(w64 (i_0_6 + 1)), h, bK [0] rfl rfl (aX rfl (bF ⟨rfl, rfl, trivial⟩))⟩
   ·have h := bB c8 h
    refine dB ?_
    refine .inl ⟨rfl, ?_⟩
    simp only [iO] at h
    refine aK ?_
    refine aK ?_
    refine aH ?_
    refine tr1 rfl (bW (aA rfl) rfl (i := 0) rfl dX (es := (aY t_0)) rfl rfl) ?_
    refine tr1 rfl (aE (v := .d (.sl 5 (l_1.map aP))) (aA rfl) rfl rfl) ?_
    obtain ⟨r14, h15, h⟩ := bind_some h
    refine tr1 rfl (gN (aA rfl) (.func _ _ Try.call55) rfl rfl (zE _ _ h15)) ?_
    refine tr1 rfl (aE (v := .tup [.agg (cP r14.1), .d (.lit (.bool r14.2))]) (aA rfl) rfl rfl) ?_
    refine tr1 rfl (bX (aA rfl) rfl rfl) ?_
    refine tr1 rfl (bX (aA rfl) rfl rfl) ?_
    refine cE rfl (eD (zs := [.sl 1 ((([] : List Int)).map aO), .sl 1 ((([] : List (List Int))).map cG)]) (aA rfl) Try.zeroValue89 rfl rfl) ?_
    rintro _ ⟨b16, rfl⟩
    refine tr1 rfl (cO (i := 1) rfl rfl rfl rfl rfl Try.sizeOf89 rfl (aA rfl) (Nat.le_of_ble_eq_true rfl) (ds' := (cP r14.1)) rfl) ?_
    refine tr1 rfl (aL (v := .d (.lit (.bool r14.2))) (aA rfl) rfl rfl) ?_
    refine aJ ?_
    refine aK ?_
    refine aH ?_
    refine tr1 rfl (aE (v := .d (.lit (.bool r14.2))) (aA rfl) rfl rfl) ?_
    refine tr1 rfl (fJ (aA rfl) rfl) ?_
    refine aJ ?_
    refine bY rfl (fun c17 => ?_) (fun c17 => ?_)
    ·have h := bD c17 h
     refine aK ?_
     refine aH ?_
     refine tr1 rfl (aL (v := .d (.lit (.int .i64 72))) (aA rfl) rfl rfl) ?_
     refine aJ ?_
     have h := Option.some.inj h
     subst h
     refine cR (cQ (cX (l := [4]) ⟨rfl, trivial⟩)) ?_
     exact bV ⟨rfl, _, .one _, rfl, rfl⟩
    ·have h := bB c17 h
     refine bU ?_
     refine aK ?_
     refine aH ?_
     refine tr1 rfl (aL (v := .d (.lit (.int .i64 0))) (aA rfl) rfl rfl) ?_
     refine aJ ?_
     have h := Option.some.inj h
     subst h
     refine cR (cQ (cX (l := [4]) ⟨rfl, trivial⟩)) ?_
     exact bV ⟨rfl, _, .one _, rfl, rfl⟩

theorem uK (a0 : aT) (a1 : List aI) {r : (List bS) × Int} (h : mF a0 a1 = some r) : Fn Try.prog 30 [.agg (aY a0), .d (.sl 5 (a1.map aP))] ((fun x : (List bS) × Int => .tup [.d (.sl 4 (x.1.map cC)), .d (.lit (.int .i64 x.2))]) r) := tU (enc := fun x : (List bS) × Int => .tup [.d (.sl 4 (x.1.map cC)), .d (.lit (.int .i64 x.2))]) (aAq a0 a1 (zC a0 a1 h (fun x => x = r) rfl))

theorem sX (a0 : aT) (a1 : List aI) (a2 : Int) (a3 : Int) {r : (List Int) × Int} (h : jV a0 a1 a2 a3 = some r) : Fn Try.prog 15 [.agg (aY a0), .d (.sl 5 (a1.map aP)), .d (.lit (.int .i64 a2)), .d (.lit (.int .i64 a3))] ((fun x : (List Int) × Int => .tup [.d (.sl 1 (x.1.map aO)), .d (.lit (.int .i64 x.2))]) r) := tU (enc := fun x : (List Int) × Int => .tup [.d (.sl 1 (x.1.map aO)), .d (.lit (.int .i64 x.2))]) (aDa a0 a1 a2 a3 (aAr a0 a1 a2 a3 h (fun x => x = r) rfl))

theorem aBw (a0 : aT) (a1 : List aI) {r : Int × Int} (h : rU a0 a1 = some r) : Fn Try.prog 34 [.agg (aY a0), .d (.sl 5 (a1.map aP))] ((fun x : Int × Int => .tup [.d (.lit (.int .i64 x.1)), .d (.lit (.int .i64 x.2))]) r) := tU (enc := fun x : Int × Int => .tup [.d (.lit (.int .i64 x.1)), .d (.lit (.int .i64 x.2))]) (aBv a0 a1 (zS a0 a1 h (fun x => x = r) rfl))

theorem tD (a0 : aT) (a1 : List aI) (a2 : Int) {r : dP × Int} (h : lH a0 a1 a2 = some r) : Fn Try.prog 17 [.agg (aY a0), .d (.sl 5 (a1.map aP)), .d (.lit (.int .i64 a2))] ((fun x : dP × Int => .tup [.agg (dO x.1), .d (.lit (.int .i64 x.2))]) r) := tU (enc := fun x : dP × Int => .tup [.agg (dO x.1), .d (.lit (.int .i64 x.2))]) (zD a0 a1 a2 (xC a0 a1 a2 h (fun x => x = r) rfl))

theorem oN {r : Bool} (h : kJ = some r) : Fn Try.prog 14 [] (.d (.lit (.bool r))) := by
 unfold kJ at h
 refine Fn.of_tr Try.func14 rfl (rs := [.tmp 0]) Try.results14 Try.ntmps14 (Nat.le_of_ble_eq_true rfl) ?_
 refine aK ?_
 refine aH ?_
 refine tr1 rfl (aL (v := .d (.lit (.bool false))) (aA rfl) rfl rfl) ?_
 refine aJ ?_
 refine aK ?_
 refine aH ?_
 obtain ⟨r1, h2, h⟩ := bind_some h
 refine tr1 rfl (gN (aA rfl) (.func _ _ Try.call43) rfl rfl (wC h2)) ?_
 refine tr1 rfl (aE (v := .tup [.agg (aY r1.1), .d (.sl 5 (r1.2.map aP))]) (aA rfl) rfl rfl) ?_
 refine tr1 rfl (bX (aA rfl) rfl rfl) ?_
 refine tr1 rfl (bX (aA rfl) rfl rfl) ?_
 refine cE rfl (eD (zs := [.lit (.int .i64 0), .sl 1 ((([] : List Int)).map aO)]) (aA rfl) Try.zeroValue24 rfl rfl) ?_
 rintro _ ⟨b3, rfl⟩
 refine tr1 rfl (cO (i := 0) rfl rfl rfl rfl rfl Try.sizeOf24 rfl (aA rfl) (Nat.le_of_ble_eq_true rfl) (ds' := (aY r1.1)) rfl) ?_
 refine tr1 rfl (aL (v := .d (.sl 5 (r1.2.map aP))) (aA rfl) rfl rfl) ?_
 refine aJ ?_
 refine aK ?_
 refine aH ?_
 refine tr1 rfl (bW (aA rfl) rfl (i := 0) rfl dX (es := (aY r1.1)) rfl rfl) ?_
 refine tr1 rfl (aE (v := .d (.sl 5 (r1.2.map aP))) (aA rfl) rfl rfl) ?_
 obtain ⟨r4, h5, h⟩ := bind_some h
 refine tr1 rfl (gN (aA rfl) (.func _ _ Try.call30) rfl rfl (uK _ _ h5)) ?_
 refine tr1 rfl (aE (v := .tup [.d (.sl 4 (r4.1.map cC)), .d (.lit (.int .i64 r4.2))]) (aA rfl) rfl rfl) ?_
 refine tr1 rfl (bX (aA rfl) rfl rfl) ?_
 refine tr1 rfl (bX (aA rfl) rfl rfl) ?_
 refine tr1 rfl (aL (v := .d (.sl 4 (r4.1.map cC))) (aA rfl) rfl rfl) ?_
 refine tr1 rfl (aL (v := .d (.lit (.int .i64 r4.2))) (aA rfl) rfl rfl) ?_
 refine aJ ?_
 refine aK ?_
 refine aH ?_
 refine tr1 rfl (bW (aA rfl) rfl (i := 0) rfl dX (es := (aY r1.1)) rfl rfl) ?_
 refine tr1 rfl (aE (v := .d (.sl 5 (r1.2.map aP))) (aA rfl) rfl rfl) ?_
 obtain ⟨r6, h7, h⟩ := bind_some h
 refine tr1 rfl (gN (aA rfl) (.func _ _ Try.call15) rfl rfl (sX _ _ _ _ h7)) ?_
 refine tr1 rfl (aE (v := .tup [.d (.sl 1 (r6.1.map aO)), .d (.lit (.int .i64 r6.2))]) (aA rfl) rfl rfl) ?_
 refine tr1 rfl (bX (aA rfl) rfl rfl) ?_
 refine tr1 rfl (bX (aA rfl) rfl rfl) ?_
 refine tr1 rfl (aL (v := .d (.sl 1 (r6.1.map aO))) (aA rfl) rfl rfl) ?_
 refine tr1 rfl (aL (v := .d (.lit (.int .i64 r6.2))) (aA rfl) rfl rfl) ?_
 refine aJ ?_
 refine aK ?_
 refine aH ?_
 refine tr1 rfl (bW (aA rfl) rfl (i := 0) rfl dX (es := (aY r1.1)) rfl rfl) ?_
 refine tr1 rfl (aE (v := .d (.sl 5 (r1.2.map aP))) (aA rfl) rfl rfl) ?_
 obtain ⟨r8, h9, h⟩ := bind_some h
 refine tr1 rfl (cZ (aA rfl) (.func _ _ Try.call34) rfl rfl (BVs.refl _ _) (aBw _ _ h9) rfl) ?_
 refine tr1 rfl (aE (v := .tup [.d (.lit (.int .i64 r8.1)), .d (.lit (.int .i64 r8.2))]) (aA rfl) rfl rfl) ?_
 refine tr1 rfl (bX (aA rfl) rfl rfl) ?_
 refine tr1 rfl (bX (aA rfl) rfl rfl) ?_
 refine tr1 rfl (aL (v := .d (.lit (.int .i64 r8.1))) (aA rfl) rfl rfl) ?_
 refine tr1 rfl (aL (v := .d (.lit (.int .i64 r8.2))) (aA rfl) rfl rfl) ?_
 refine aJ ?_
 refine aK ?_
 refine aH ?_
 refine tr1 rfl (bW (aA rfl) rfl (i := 0) rfl dX (es := (aY r1.1)) rfl rfl) ?_
 refine tr1 rfl (aE (v := .d (.sl 5 (r1.2.map aP))) (aA rfl) rfl rfl) ?_
 obtain ⟨r10, h11, h⟩ := bind_some h
 refine tr1 rfl (gN (aA rfl) (.func _ _ Try.call17) rfl rfl (tD _ _ _ h11)) ?_
 refine tr1 rfl (aE (v := .tup [.agg (dO r10.1), .d (.lit (.int .i64 r10.2))]) (aA rfl) rfl rfl) ?_
 refine tr1 rfl (bX (aA rfl) rfl rfl) ?_
 refine tr1 rfl (bX (aA rfl) rfl rfl) ?_
 refine cE rfl (eD (zs := [.lit (.int .i64 0), .lit (.int .i64 0)]) (aA rfl) Try.zeroValue39 rfl rfl) ?_
 rintro _ ⟨b12, rfl⟩
 refine tr1 rfl (cO (i := 1) rfl rfl rfl rfl rfl Try.sizeOf39 rfl (aA rfl) (Nat.le_of_ble_eq_true rfl) (ds' := (dO r10.1)) rfl) ?_
 refine tr1 rfl (aL (v := .d (.lit (.int .i64 r10.2))) (aA rfl) rfl rfl) ?_
 refine aJ ?_
 refine aK ?_
 refine aH ?_
 refine tr1 rfl (aE (v := .d (.lit (.int .i64 r4.2))) (aA rfl) rfl rfl) ?_
 refine tr1 rfl (bE (aA rfl) rfl rfl rfl) ?_
 refine tr1 rfl (aE (v := .d (.lit (.bool ((decide (r4.2 = 0)))))) (aA rfl) rfl rfl) ?_
 obtain ⟨b13, h14, h⟩ := bind_some h
 refine cK 3 [3, 5, 7, 8, 9, 10] 44 b13 ?_ ?_
 ·refine bM (decide (r4.2 = 0)) (fun c45 => ?_) (fun c45 => ?_)
  ·have h14 := bD c45 h14
   refine aQ rfl rfl (aA rfl) rfl c45 (aE (v := .d (.lit (.int .i64 r6.2))) (aA rfl) rfl rfl) ?_
   refine aQ rfl rfl (aA rfl) rfl c45 (bE (aA rfl) rfl rfl rfl) ?_
   refine tr1 rfl (bO (v := .d (.lit (.bool ((decide (r6.2 = 0)))))) (aA rfl) rfl c45 rfl rfl) ?_
   have h14 := Option.some.inj h14
   subst h14
   refine aJ (bN rfl ⟨rfl, rfl, rfl, rfl, rfl, rfl, trivial⟩ rfl)
  ·have h14 := bB c45 h14
   refine aV rfl rfl (aA rfl) rfl (aA rfl) rfl c45 ?_
   refine aV rfl rfl (aA rfl) rfl (aA rfl) rfl c45 ?_
   refine tr1 rfl (bH (v := .d (.lit (.bool false))) (aA rfl) rfl c45 rfl rfl) ?_
   have h14 := Option.some.inj h14
   subst h14
   refine aJ (bN rfl ⟨rfl, rfl, rfl, rfl, rfl, rfl, trivial⟩ rfl)
 ·refine tr1 rfl (aE (v := .d (.lit (.bool b13))) (aA rfl) rfl rfl) ?_
  obtain ⟨b15, h16, h⟩ := bind_some h
  refine cK 3 [3, 5, 7, 9, 10] 48 b15 ?_ ?_
  ·refine bM (b13) (fun c44 => ?_) (fun c44 => ?_)
   ·have h16 := bD c44 h16
    refine aQ rfl rfl (aA rfl) rfl c44 (aE (v := .d (.lit (.int .i64 r8.2))) (aA rfl) rfl rfl) ?_
    refine aQ rfl rfl (aA rfl) rfl c44 (bE (aA rfl) rfl rfl rfl) ?_
    refine tr1 rfl (bO (v := .d (.lit (.bool ((decide (r8.2 = 0)))))) (aA rfl) rfl c44 rfl rfl) ?_
    have h16 := Option.some.inj h16
    subst h16
    refine aJ (bN rfl ⟨rfl, rfl, rfl, rfl, rfl, trivial⟩ rfl)
   ·have h16 := bB c44 h16
    refine aV rfl rfl (aA rfl) rfl (aA rfl) rfl c44 ?_
    refine aV rfl rfl (aA rfl) rfl (aA rfl) rfl c44 ?_
    refine tr1 rfl (bH (v := .d (.lit (.bool false))) (aA rfl) rfl c44 rfl rfl) ?_
    have h16 := Option.some.inj h16
    subst h16
    refine aJ (bN rfl ⟨rfl, rfl, rfl, rfl, rfl, trivial⟩ rfl)
  ·refine tr1 rfl (aE (v := .d (.lit (.bool b15))) (aA rfl) rfl rfl) ?_
   obtain ⟨b17, h18, h⟩ := bind_some h
   refine cK 3 [3, 5, 7, 9] 52 b17 ?_ ?_
   ·refine bM (b15) (fun c43 => ?_) (fun c43 => ?_)
    ·have h18 := bD c43 h18
     refine aQ rfl rfl (aA rfl) rfl c43 (aE (v := .d (.lit (.int .i64 r10.2))) (aA rfl) rfl rfl) ?_
     refine aQ rfl rfl (aA rfl) rfl c43 (bE (aA rfl) rfl rfl rfl) ?_
     refine tr1 rfl (bO (v := .d (.lit (.bool ((decide (r10.2 = 0)))))) (aA rfl) rfl c43 rfl rfl) ?_
     have h18 := Option.some.inj h18
     subst h18
     refine aJ (bN rfl ⟨rfl, rfl, rfl, rfl, trivial⟩ rfl)
    ·have h18 := bB c43 h18
     refine aV rfl rfl (aA rfl) rfl (aA rfl) rfl c43 ?_
     refine aV rfl rfl (aA rfl) rfl (aA rfl) rfl c43 ?_
     refine tr1 rfl (bH (v := .d (.lit (.bool false))) (aA rfl) rfl c43 rfl rfl) ?_
     have h18 := Option.some.inj h18
     subst h18
     refine aJ (bN rfl ⟨rfl, rfl, rfl, rfl, trivial⟩ rfl)
   ·refine tr1 rfl (aE (v := .d (.lit (.bool b17))) (aA rfl) rfl rfl) ?_
    obtain ⟨b19, h20, h⟩ := bind_some h
    refine cK 4 [3, 5, 7, 9] 57 b19 ?_ ?_
    ·refine bM (b17) (fun c42 => ?_) (fun c42 => ?_)
     ·have h20 := bD c42 h20
      refine aQ rfl rfl (aA rfl) rfl c42 (aE (v := .d (.sl 4 (r4.1.map cC))) (aA rfl) rfl rfl) ?_
      refine aQ rfl rfl (aA rfl) rfl c42 (dR (aA rfl) rfl rI.of) ?_
      refine aQ rfl rfl (aA rfl) rfl c42 (bE (aA rfl) rfl rfl rfl) ?_
      refine tr1 rfl (bO (v := .d (.lit (.bool ((decide ((r4.1.length : Int) = 7)))))) (aA rfl) rfl c42 rfl rfl) ?_
      have h20 := Option.some.inj h20
      subst h20
      refine aJ (bN rfl ⟨rfl, rfl, rfl, rfl, trivial⟩ rfl)
     ·have h20 := bB c42 h20
      refine aV rfl rfl (aA rfl) rfl (aA rfl) rfl c42 ?_
      refine aV rfl rfl (aA rfl) rfl (aA rfl) rfl c42 ?_
      refine aV rfl rfl (aA rfl) rfl (aA rfl) rfl c42 ?_
      refine tr1 rfl (bH (v := .d (.lit (.bool false))) (aA rfl) rfl c42 rfl rfl) ?_
      have h20 := Option.some.inj h20
      subst h20
      refine aJ (bN rfl ⟨rfl, rfl, rfl, rfl, trivial⟩ rfl)
    ·refine tr1 rfl (aE (v := .d (.lit (.bool b19))) (aA rfl) rfl rfl) ?_
     obtain ⟨b21, h22, h⟩ := bind_some h
     refine cK 6 [3, 5, 7, 9] 64 b21 ?_ ?_
     ·refine bM (b19) (fun c39 => ?_) (fun c39 => ?_)
      ·have h22 := bD c39 h22
       refine aQ rfl rfl (aA rfl) rfl c39 (aE (v := .d (.sl 4 (r4.1.map cC))) (aA rfl) rfl rfl) ?_
       obtain ⟨x40, h41, h22⟩ := bind_some h22
       refine aQ rfl rfl (aA rfl) rfl c39 (bA (aA rfl) rfl rfl rI.of (bJ cC h41)) ?_
       refine aQ rfl rfl (aA rfl) rfl c39 (jP (aA rfl) rfl aAo (es := (cC x40)) rfl rfl) ?_
       refine aQ rfl rfl (aA rfl) rfl c39 (fN (aA rfl) aEu (zs := [.lit (.int .i64 0), .lit (.int .i64 0), .lit (.int .i64 0), .lit (.int .i64 0)]) rfl rfl rfl rfl (es := [.lit (.int .i64 1), .lit (.int .i64 0), .lit (.int .i64 1), .lit (.int .i64 2)]) rfl) ?_
       refine aQ rfl rfl (aA rfl) rfl c39 (yX (a := x40) (b := (bS.mk 1 0 1 2)) (aA rfl) rfl rfl rfl rfl Try.eqGuardType57 aIn) ?_
       refine tr1 rfl (bO (v := .d (.lit (.bool ((decide (x40 = (bS.mk 1 0 1 2))))))) (aA rfl) rfl c39 rfl rfl) ?_
       have h22 := Option.some.inj h22
       subst h22
       refine aJ (bN rfl ⟨rfl, rfl, rfl, rfl, trivial⟩ rfl)
      ·have h22 := bB c39 h22
       refine aV rfl rfl (aA rfl) rfl (aA rfl) rfl c39 ?_
       refine aV rfl rfl (aA rfl) rfl (aA rfl) rfl c39 ?_
       refine aV rfl rfl (aA rfl) rfl (aA rfl) rfl c39 ?_
       refine aV rfl rfl (aA rfl) rfl (aA rfl) rfl c39 ?_
       refine aV rfl rfl (aA rfl) rfl (aA rfl) rfl c39 ?_
       refine tr1 rfl (bH (v := .d (.lit (.bool false))) (aA rfl) rfl c39 rfl rfl) ?_
       have h22 := Option.some.inj h22
       subst h22
       refine aJ (bN rfl ⟨rfl, rfl, rfl, rfl, trivial⟩ rfl)
     ·refine tr1 rfl (aE (v := .d (.lit (.bool b21))) (aA rfl) rfl rfl) ?_
      obtain ⟨b23, h24, h⟩ := bind_some h
      refine cK 6 [5, 7, 9] 71 b23 ?_ ?_
      ·refine bM (b21) (fun c36 => ?_) (fun c36 => ?_)
       ·have h24 := bD c36 h24
        refine aQ rfl rfl (aA rfl) rfl c36 (aE (v := .d (.sl 4 (r4.1.map cC))) (aA rfl) rfl rfl) ?_
        obtain ⟨x37, h38, h24⟩ := bind_some h24
        refine aQ rfl rfl (aA rfl) rfl c36 (bA (aA rfl) rfl rfl rI.of (bJ cC h38)) ?_
        refine aQ rfl rfl (aA rfl) rfl c36 (jP (aA rfl) rfl aAo (es := (cC x37)) rfl rfl) ?_
        refine aQ rfl rfl (aA rfl) rfl c36 (fN (aA rfl) aEu (zs := [.lit (.int .i64 0), .lit (.int .i64 0), .lit (.int .i64 0), .lit (.int .i64 0)]) rfl rfl rfl rfl (es := [.lit (.int .i64 2), .lit (.int .i64 0), .lit (.int .i64 2), .lit (.int .i64 (-2))]) rfl) ?_
        refine aQ rfl rfl (aA rfl) rfl c36 (yX (a := x37) (b := (bS.mk 2 0 2 (-2))) (aA rfl) rfl rfl rfl rfl Try.eqGuardType57 aIn) ?_
        refine tr1 rfl (bO (v := .d (.lit (.bool ((decide (x37 = (bS.mk 2 0 2 (-2)))))))) (aA rfl) rfl c36 rfl rfl) ?_
        have h24 := Option.some.inj h24
        subst h24
        refine aJ (bN rfl ⟨rfl, rfl, rfl, trivial⟩ rfl)
       ·have h24 := bB c36 h24
        refine aV rfl rfl (aA rfl) rfl (aA rfl) rfl c36 ?_
        refine aV rfl rfl (aA rfl) rfl (aA rfl) rfl c36 ?_
        refine aV rfl rfl (aA rfl) rfl (aA rfl) rfl c36 ?_
        refine aV rfl rfl (aA rfl) rfl (aA rfl) rfl c36 ?_
        refine aV rfl rfl (aA rfl) rfl (aA rfl) rfl c36 ?_
        refine tr1 rfl (bH (v := .d (.lit (.bool false))) (aA rfl) rfl c36 rfl rfl) ?_
        have h24 := Option.some.inj h24
        subst h24
        refine aJ (bN rfl ⟨rfl, rfl, rfl, trivial⟩ rfl)
      ·refine tr1 rfl (aE (v := .d (.lit (.bool b23))) (aA rfl) rfl rfl) ?_
       obtain ⟨b25, h26, h⟩ := bind_some h
       refine cK 4 [7, 9] 76 b25 ?_ ?_
       ·refine bM (b23) (fun c33 => ?_) (fun c33 => ?_)
        ·have h26 := bD c33 h26
         refine aQ rfl rfl (aA rfl) rfl c33 (aE (v := .d (.sl 1 (r6.1.map aO))) (aA rfl) rfl rfl) ?_
         refine aQ rfl rfl (aA rfl) rfl c33 (gM (aA rfl) bP rfl rfl (rows := ([2, 5, 7, 8]).map aO) rfl (dV (f := aO) fun _ => rfl) rfl (by decide)) ?_
         obtain ⟨r34, h35, h26⟩ := bind_some h26
         refine aQ rfl rfl (aA rfl) rfl c33 (cZ (aA rfl) (.func _ _ Try.call23) rfl rfl (BVs.refl _ _) (vJ _ _ h35) rfl) ?_
         refine tr1 rfl (bO (v := .d (.lit (.bool r34))) (aA rfl) rfl c33 rfl rfl) ?_
         have h26 := Option.some.inj h26
         subst h26
         refine aJ (bN rfl ⟨rfl, rfl, trivial⟩ rfl)
        ·have h26 := bB c33 h26
         refine aV rfl rfl (aA rfl) rfl (aA rfl) rfl c33 ?_
         refine aV rfl rfl (aA rfl) rfl (aA rfl) rfl c33 ?_
         refine aV rfl rfl (aA rfl) rfl (aA rfl) rfl c33 ?_
         refine tr1 rfl (bH (v := .d (.lit (.bool false))) (aA rfl) rfl c33 rfl rfl) ?_
         have h26 := Option.some.inj h26
         subst h26
         refine aJ (bN rfl ⟨rfl, rfl, trivial⟩ rfl)
       ·refine tr1 rfl (aE (v := .d (.lit (.bool b25))) (aA rfl) rfl rfl) ?_
        obtain ⟨b27, h28, h⟩ := bind_some h
        refine cK 3 [9] 80 b27 ?_ ?_
        ·refine bM (b25) (fun c32 => ?_) (fun c32 => ?_)
         ·have h28 := bD c32 h28
          refine aQ rfl rfl (aA rfl) rfl c32 (aE (v := .d (.lit (.int .i64 r8.1))) (aA rfl) rfl rfl) ?_
          refine aQ rfl rfl (aA rfl) rfl c32 (bE (aA rfl) rfl rfl rfl) ?_
          refine tr1 rfl (bO (v := .d (.lit (.bool ((decide (r8.1 = 3)))))) (aA rfl) rfl c32 rfl rfl) ?_
          have h28 := Option.some.inj h28
          subst h28
          refine aJ (bN rfl ⟨rfl, trivial⟩ rfl)
         ·have h28 := bB c32 h28
          refine aV rfl rfl (aA rfl) rfl (aA rfl) rfl c32 ?_
          refine aV rfl rfl (aA rfl) rfl (aA rfl) rfl c32 ?_
          refine tr1 rfl (bH (v := .d (.lit (.bool false))) (aA rfl) rfl c32 rfl rfl) ?_
          have h28 := Option.some.inj h28
          subst h28
          refine aJ (bN rfl ⟨rfl, trivial⟩ rfl)
        ·refine tr1 rfl (aE (v := .d (.lit (.bool b27))) (aA rfl) rfl rfl) ?_
         obtain ⟨b29, h30, h⟩ := bind_some h
         refine cK 4 [] 85 b29 ?_ ?_
         ·refine bM (b27) (fun c31 => ?_) (fun c31 => ?_)
          ·have h30 := bD c31 h30
           refine aQ rfl rfl (aA rfl) rfl c31 (bW (aA rfl) rfl (i := 1) rfl aAn (es := (dO r10.1)) rfl rfl) ?_
           refine aQ rfl rfl (aA rfl) rfl c31 (fN (aA rfl) aBt (zs := [.lit (.int .i64 0), .lit (.int .i64 0)]) rfl rfl rfl rfl (es := [.lit (.int .i64 2), .lit (.int .i64 3)]) rfl) ?_
           refine aQ rfl rfl (aA rfl) rfl c31 (yX (a := r10.1) (b := (dP.mk 2 3)) (aA rfl) rfl rfl rfl rfl Try.eqGuardType39 aMi) ?_
           refine tr1 rfl (bO (v := .d (.lit (.bool ((decide (r10.1 = (dP.mk 2 3))))))) (aA rfl) rfl c31 rfl rfl) ?_
           have h30 := Option.some.inj h30
           subst h30
           refine aJ (bN rfl trivial rfl)
          ·have h30 := bB c31 h30
           refine aV rfl rfl (aA rfl) rfl (aA rfl) rfl c31 ?_
           refine aV rfl rfl (aA rfl) rfl (aA rfl) rfl c31 ?_
           refine aV rfl rfl (aA rfl) rfl (aA rfl) rfl c31 ?_
           refine tr1 rfl (bH (v := .d (.lit (.bool false))) (aA rfl) rfl c31 rfl rfl) ?_
           have h30 := Option.some.inj h30
           subst h30
           refine aJ (bN rfl trivial rfl)
         ·refine tr1 rfl (aL (v := .d (.lit (.bool b29))) (aA rfl) rfl rfl) ?_
          refine aJ ?_
          have h := Option.some.inj h
          subst h
          refine cR (cQ (cX (l := [0]) ⟨rfl, trivial⟩)) ?_
          exact bV ⟨rfl, _, .one _, rfl, rfl⟩

theorem zT (t_0 : aT) (l_1 : List aI) (round_2 : Int) (place_3 : Int) {Q : (Int × Int) → Prop} (h : mW t_0 l_1 round_2 place_3 Q) : fE Try.prog 20 [.agg (aY t_0), .d (.sl 5 (l_1.map aP)), .d (.lit (.int .i64 round_2)), .d (.lit (.int .i64 place_3))] [] (fun r' o' => ∃ (r : Int × Int), Q r ∧ r' = .tup [.d (.lit (.int .i64 r.1)), .d (.lit (.int .i64 r.2))] ∧ o' = []) := by
 unfold mW at h
 refine gX Try.func20 rfl (rs := [.tmp 8, .tmp 9]) Try.results20 Try.ntmps20 (Nat.le_of_ble_eq_true rfl) ?_
 refine aK ?_
 refine aH ?_
 refine cE rfl (gL (v := .agg (aY t_0)) (aA rfl) rfl rfl rfl) ?_
 rintro _ ⟨b1, rfl⟩
 refine tr1 rfl (aL (v := .d (.lit (.int .i64 0))) (aA rfl) rfl rfl) ?_
 refine tr1 rfl (aL (v := .d (.lit (.int .i64 0))) (aA rfl) rfl rfl) ?_
 refine aJ ?_
 refine aK ?_
 refine aH ?_
 refine tr1 rfl (bW (aA rfl) rfl (i := 0) rfl dX (es := (aY t_0)) rfl rfl) ?_
 refine tr1 rfl (aE (v := .d (.sl 5 (l_1.map aP))) (aA rfl) rfl rfl) ?_
 refine tr1 rfl (aE (v := .d (.lit (.int .i64 round_2))) (aA rfl) rfl rfl) ?_
 refine tr1 rfl (aE (v := .d (.lit (.int .i64 place_3))) (aA rfl) rfl rfl) ?_
 refine cE rfl (nY (aA rfl) (.func _ _ Try.call44) rfl rfl (xN _ _ _ _ h)) ?_
 rintro _ ⟨_, _, ⟨r2, h, rfl, rfl⟩, rfl⟩
 refine tr1 rfl (aE (v := .tup [cV bG r2.1, .agg (aN r2.2.1), .d (.lit (.int .i64 r2.2.2))]) (aA rfl) rfl rfl) ?_
 refine tr1 rfl (bX (aA rfl) rfl rfl) ?_
 refine tr1 rfl (bX (aA rfl) rfl rfl) ?_
 refine tr1 rfl (bX (aA rfl) rfl rfl) ?_
 refine cE rfl (eD (zs := [.lit (.int .i64 0), .lit (.int .i64 0)]) (aA rfl) Try.zeroValue70 rfl rfl) ?_
 rintro _ ⟨b3, rfl⟩
 refine tr1 rfl (aL (v := cV bG r2.1) (aA rfl) rfl rfl) ?_
 refine tr1 rfl (cO (i := 1) rfl rfl rfl rfl rfl Try.sizeOf70 rfl (aA rfl) (Nat.le_of_ble_eq_true rfl) (ds' := (aN r2.2.1)) rfl) ?_
 refine tr1 rfl (aL (v := .d (.lit (.int .i64 r2.2.2))) (aA rfl) rfl rfl) ?_
 refine aJ ?_
 refine aK ?_
 refine aK ?_
 refine aH ?_
 refine tr1 rfl (aE (v := .d (.lit (.int .i64 r2.2.2))) (aA rfl) rfl rfl) ?_
 refine tr1 rfl (bE (aA rfl) rfl rfl rfl) ?_
 refine aJ ?_
 refine bY rfl (fun c4 => ?_) (fun c4 => ?_)
 ·have h := eN c4 h
  refine aK ?_
  refine aH ?_
  refine tr1 rfl (aE (v := .d (.lit (.int .i64 r2.2.2))) (aA rfl) rfl rfl) ?_
  refine tr1 rfl (aL (v := .d (.lit (.int .i64 0))) (aA rfl) rfl rfl) ?_
  refine tr1 rfl (aL (v := .d (.lit (.int .i64 r2.2.2))) (aA rfl) rfl rfl) ?_
  refine aJ ?_
  exact bV ⟨rfl, _, [], [.box b1 0 (aY t_0), .box b3 0 (aN r2.2.1)], _, .two (.tmp 8 (v := .d (.lit (.int .i64 0))) rfl) (.tmp 9 (v := .d (.lit (.int .i64 r2.2.2))) rfl), .refl _, .same _, (0, r2.2.2), h, rfl, rfl⟩
 ·have h := eM c4 h
  refine bU ?_
  refine aK ?_
  obtain ⟨x5, h6, h⟩ := dM h
  refine dN mix 10 [] [(13, .d (.lit (.int .i64 ((cN r2.2.1 0 x5.won))))), (35, .d (.lit (.bool ((cY r2.2.1 x5.won)))))] ?_ ?_
  ·refine ⟨[(28, 0, cV bG r2.1), (29, 1, .cp [.lit (.int .i64 x5.Tree.Rounds), .sl 1 (x5.Tree.Slots.map aO), .sl 1 (x5.players.map aO), .mp false (x5.won.map fun p : aF × Int => ((fun a : aF => Value.agg ((aN a).map bQ).toArray) p.1, aO p.2))]), (30, 2, .cp [.mp false (x5.won.map fun p : aF × Int => ((fun a : aF => Value.agg ((aN a).map bQ).toArray) p.1, aO p.2))]), (31, 3, .d (.mp false (x5.won.map fun p : aF × Int => ((fun a : aF => Value.agg ((aN a).map bQ).toArray) p.1, aO p.2)))), (32, 4, .agg (aN r2.2.1)), (33, 5, .tup [.d (.lit (.int .i64 ((cN r2.2.1 0 x5.won)))), .d (.lit (.bool ((cY r2.2.1 x5.won))))]), (27, 6, .tup [.d (.lit (.int .i64 ((cN r2.2.1 0 x5.won)))), .d (.lit (.bool ((cY r2.2.1 x5.won))))]), (34, 7, .d (.lit (.int .i64 ((cN r2.2.1 0 x5.won))))), (35, 8, .d (.lit (.bool ((cY r2.2.1 x5.won))))), (13, 9, .d (.lit (.int .i64 ((cN r2.2.1 0 x5.won)))))], ?_, ?_⟩
   · exact ⟨by kernel_rfl, by kernel_rfl, by kernel_rfl, by kernel_rfl, by kernel_rfl, [([], []), ([0], []), ([1], []), ([2], []), ([], []), ([3, 4], []), ([5], []), ([6], []), ([6], []), ([7], [])], by kernel_rfl, ⟨fun S hS => aB rfl (aR rfl (aE (v := cV bG r2.1) (aA rfl) (aC hS rfl) rfl)),
      fun S hS => aB rfl (aR rfl (pQ (enc := bG) (aA rfl) (aC hS rfl) h6)),
      fun S hS => aB rfl (aR rfl (cW (aA rfl) (aC hS rfl) qG (es := [.mp false (x5.won.map fun p : aF × Int => ((fun a : aF => Value.agg ((aN a).map bQ).toArray) p.1, aO p.2))]) rfl)),
      fun S hS => aB rfl (aR rfl (bC (aA rfl) (aC hS rfl) uB)),
      fun S hS => aB rfl (aR rfl (bW (aA rfl) (aC hS rfl) (i := 1) rfl jI (es := (aN r2.2.1)) rfl rfl)),
      fun S hS => aB rfl (aR rfl (pW (enc := aO) (agg := false) (l := x5.won) (z := 0) (a := r2.2.1) (aA rfl) sP Try.underlying73 Try.zeroValue3 (fun _ _ => .d (.lit _ rfl)) (aC hS rfl) rfl rfl (aC hS rfl) (kU (enc := aN) r2.2.1 rfl))),
      fun S hS => aB rfl (aR rfl (aE (v := .tup [.d (.lit (.int .i64 ((cN r2.2.1 0 x5.won)))), .d (.lit (.bool ((cY r2.2.1 x5.won))))]) (aA rfl) (aC hS rfl) rfl)),
      fun S hS => aB rfl (aR rfl (bX (aA rfl) (aC hS rfl) rfl)),
      fun S hS => aB rfl (aR rfl (bX (aA rfl) (aC hS rfl) rfl)),
      fun S hS => aB rfl (aR rfl (aL (v := .d (.lit (.int .i64 ((cN r2.2.1 0 x5.won))))) (aA rfl) (aC hS rfl) rfl)), trivial⟩⟩
   · exact cL (aX rfl (aX rfl (bF trivial)))
  ·refine tr1 rfl (aL (v := .d (.lit (.bool ((cY r2.2.1 x5.won))))) (aA rfl) rfl rfl) ?_
   refine aJ ?_
   refine aK ?_
   refine aK ?_
   refine aH ?_
   refine tr1 rfl (aE (v := .d (.lit (.bool ((cY r2.2.1 x5.won))))) (aA rfl) rfl rfl) ?_
   refine tr1 rfl (fJ (aA rfl) rfl) ?_
   refine aJ ?_
   refine bY rfl (fun c7 => ?_) (fun c7 => ?_)
   ·have h := eN c7 h
    refine aK ?_
    refine aH ?_
    refine tr1 rfl (aL (v := .d (.lit (.int .i64 0))) (aA rfl) rfl rfl) ?_
    refine tr1 rfl (aL (v := .d (.lit (.int .i64 3))) (aA rfl) rfl rfl) ?_
    refine aJ ?_
    exact bV ⟨rfl, _, [], [.box b1 0 (aY t_0), .box b3 0 (aN r2.2.1)], _, .two (.tmp 8 (v := .d (.lit (.int .i64 0))) rfl) (.tmp 9 (v := .d (.lit (.int .i64 3))) rfl), .refl _, .same _, (0, 3), h, rfl, rfl⟩
   ·have h := eM c7 h
    refine bU ?_
    refine aK ?_
    refine aH ?_
    refine tr1 rfl (aE (v := .d (.lit (.int .i64 ((cN r2.2.1 0 x5.won))))) (aA rfl) rfl rfl) ?_
    refine tr1 rfl (aL (v := .d (.lit (.int .i64 ((cN r2.2.1 0 x5.won))))) (aA rfl) rfl rfl) ?_
    refine tr1 rfl (aL (v := .d (.lit (.int .i64 0))) (aA rfl) rfl rfl) ?_
    refine aJ ?_
    exact bV ⟨rfl, _, [], [.box b1 0 (aY t_0), .box b3 0 (aN r2.2.1)], _, .two (.tmp 8 (v := .d (.lit (.int .i64 ((cN r2.2.1 0 x5.won))))) rfl) (.tmp 9 (v := .d (.lit (.int .i64 0))) rfl), .refl _, .same _, (cN r2.2.1 0 x5.won, 0), h, rfl, rfl⟩

theorem zU (a0 : aT) (a1 : List aI) (a2 : Int) (a3 : Int) {r : Int × Int} (h : nM a0 a1 a2 a3 = some r) : Fn Try.prog 20 [.agg (aY a0), .d (.sl 5 (a1.map aP)), .d (.lit (.int .i64 a2)), .d (.lit (.int .i64 a3))] ((fun x : Int × Int => .tup [.d (.lit (.int .i64 x.1)), .d (.lit (.int .i64 x.2))]) r) := tU (enc := fun x : Int × Int => .tup [.d (.lit (.int .i64 x.1)), .d (.lit (.int .i64 x.2))]) (zT a0 a1 a2 a3 (xM a0 a1 a2 a3 h (fun x => x = r) rfl))

theorem xR (t_0 : aT) (l_1 : List aI) {r : Bool} (h : kI t_0 l_1 = some r) : Fn Try.prog 12 [.agg (aY t_0), .d (.sl 5 (l_1.map aP))] (.d (.lit (.bool r))) := by
 unfold kI at h
 refine Fn.of_tr Try.func12 rfl (rs := [.tmp 4]) Try.results12 Try.ntmps12 (Nat.le_of_ble_eq_true rfl) ?_
 refine aK ?_
 refine aH ?_
 refine cE rfl (gL (v := .agg (aY t_0)) (aA rfl) rfl rfl rfl) ?_
 rintro _ ⟨b1, rfl⟩
 refine tr1 rfl (aL (v := .d (.lit (.bool false))) (aA rfl) rfl rfl) ?_
 refine aJ ?_
 refine aK ?_
 refine aH ?_
 refine tr1 rfl (bW (aA rfl) rfl (i := 0) rfl dX (es := (aY t_0)) rfl rfl) ?_
 refine tr1 rfl (aE (v := .d (.sl 5 (l_1.map aP))) (aA rfl) rfl rfl) ?_
 obtain ⟨r2, h3, h⟩ := bind_some h
 refine tr1 rfl (cZ (aA rfl) (.func _ _ Try.call27) rfl rfl (BVs.refl _ _) (zY _ _ h3) rfl) ?_
 refine tr1 rfl (fJ (aA rfl) rfl) ?_
 refine tr1 rfl (aE (v := .d (.lit (.bool (!r2)))) (aA rfl) rfl rfl) ?_
 obtain ⟨b4, h5, h⟩ := bind_some h
 refine cK 5 [] 14 b4 ?_ ?_
 ·refine bM (!r2) (fun c6 => ?_) (fun c6 => ?_)
  ·have h5 := bD c6 h5
   refine aQ rfl rfl (aA rfl) rfl c6 (bW (aA rfl) rfl (i := 0) rfl dX (es := (aY t_0)) rfl rfl) ?_
   refine aQ rfl rfl (aA rfl) rfl c6 (aE (v := .d (.sl 5 (l_1.map aP))) (aA rfl) rfl rfl) ?_
   obtain ⟨r7, h8, h5⟩ := bind_some h5
   refine aQ rfl rfl (aA rfl) rfl c6 (cZ (aA rfl) (.func _ _ Try.call29) rfl rfl (BVs.refl _ _) (xS _ _ h8) rfl) ?_
   refine aQ rfl rfl (aA rfl) rfl c6 (bE (aA rfl) rfl rfl rfl) ?_
   refine tr1 rfl (bO (v := .d (.lit (.bool ((decide (r7 = 0)))))) (aA rfl) rfl c6 rfl rfl) ?_
   have h5 := Option.some.inj h5
   subst h5
   refine aJ (bN rfl trivial rfl)
  ·have h5 := bB c6 h5
   refine aV rfl rfl (aA rfl) rfl (aA rfl) rfl c6 ?_
   refine aV rfl rfl (aA rfl) rfl (aA rfl) rfl c6 ?_
   refine aV rfl rfl (aA rfl) rfl (aA rfl) rfl c6 ?_
   refine aV rfl rfl (aA rfl) rfl (aA rfl) rfl c6 ?_
   refine tr1 rfl (bH (v := .d (.lit (.bool false))) (aA rfl) rfl c6 rfl rfl) ?_
   have h5 := Option.some.inj h5
   subst h5
   refine aJ (bN rfl trivial rfl)
 ·refine tr1 rfl (aL (v := .d (.lit (.bool b4))) (aA rfl) rfl rfl) ?_
  refine aJ ?_
  have h := Option.some.inj h
  subst h
  refine cR (cQ (cX (l := [4]) ⟨rfl, trivial⟩)) ?_
  exact bV ⟨rfl, _, .one _, rfl, rfl⟩

theorem zZ (t_0 : aT) (l_1 : List aI) {r : (List bS) × (List Int) × Bool} (h : mZ t_0 l_1 = some r) : Fn Try.prog 21 [.agg (aY t_0), .d (.sl 5 (l_1.map aP))] (.tup [.d (.sl 4 (r.1.map cC)), .d (.sl 1 (r.2.1.map aO)), .d (.lit (.bool r.2.2))]) := by
 unfold mZ at h
 refine Fn.of_tr Try.func21 rfl (rs := [.tmp 4, .tmp 5, .tmp 6]) Try.results21 Try.ntmps21 (Nat.le_of_ble_eq_true rfl) ?_
 refine aK ?_
 refine aH ?_
 refine cE rfl (gL (v := .agg (aY t_0)) (aA rfl) rfl rfl rfl) ?_
 rintro _ ⟨b1, rfl⟩
 refine tr1 rfl (rH 4 (aA rfl)) ?_
 refine tr1 rfl (jE 3 1 (.inl rfl) (aA rfl)) ?_
 refine tr1 rfl (aL (v := .d (.lit (.bool false))) (aA rfl) rfl rfl) ?_
 refine aJ ?_
 refine aK ?_
 refine aH ?_
 refine tr1 rfl (bW (aA rfl) rfl (i := 0) rfl dX (es := (aY t_0)) rfl rfl) ?_
 refine tr1 rfl (aE (v := .d (.sl 5 (l_1.map aP))) (aA rfl) rfl rfl) ?_
 obtain ⟨r3, h4, h⟩ := bind_some h
 refine tr1 rfl (gN (aA rfl) (.func _ _ Try.call30) rfl rfl (uK _ _ h4)) ?_
 refine tr1 rfl (aE (v := .tup [.d (.sl 4 (r3.1.map cC)), .d (.lit (.int .i64 r3.2))]) (aA rfl) rfl rfl) ?_
 refine tr1 rfl (bX (aA rfl) rfl rfl) ?_
 refine tr1 rfl (bX (aA rfl) rfl rfl) ?_
 refine tr1 rfl (aL (v := .d (.sl 4 (r3.1.map cC))) (aA rfl) rfl rfl) ?_
 refine tr1 rfl (aL (v := .d (.lit (.int .i64 r3.2))) (aA rfl) rfl rfl) ?_
 refine aJ ?_
 refine aK ?_
 refine aK ?_
 refine aH ?_
 refine tr1 rfl (aE (v := .d (.lit (.int .i64 r3.2))) (aA rfl) rfl rfl) ?_
 refine tr1 rfl (bE (aA rfl) rfl rfl rfl) ?_
 refine tr1 rfl (aE (v := .d (.lit (.bool ((!decide (r3.2 = 0)))))) (aA rfl) rfl rfl) ?_
 obtain ⟨b5, h6, h⟩ := bind_some h
 refine cK 8 [1, 2, 4, 5] 27 b5 ?_ ?_
 ·refine bM (!decide (r3.2 = 0)) (fun c28 => ?_) (fun c28 => ?_)
  ·have h6 := bD c28 h6
   refine aV rfl rfl (aA rfl) rfl (aA rfl) rfl c28 ?_
   refine aV rfl rfl (aA rfl) rfl (aA rfl) rfl c28 ?_
   refine aV rfl rfl (aA rfl) rfl (aA rfl) rfl c28 ?_
   refine aV rfl rfl (aA rfl) rfl (aA rfl) rfl c28 ?_
   refine aV rfl rfl (aA rfl) rfl (aA rfl) rfl c28 ?_
   refine aV rfl rfl (aA rfl) rfl (aA rfl) rfl c28 ?_
   refine aV rfl rfl (aA rfl) rfl (aA rfl) rfl c28 ?_
   refine tr1 rfl (bO (v := .d (.lit (.bool true))) (aA rfl) rfl c28 rfl rfl) ?_
   have h6 := Option.some.inj h6
   subst h6
   refine aJ (bN rfl ⟨rfl, rfl, rfl, rfl, trivial⟩ rfl)
  ·have h6 := bB c28 h6
   refine aQ rfl rfl (aA rfl) rfl c28 (aE (v := .d (.sl 4 (r3.1.map cC))) (aA rfl) rfl rfl) ?_
   refine aQ rfl rfl (aA rfl) rfl c28 (dR (aA rfl) rfl rI.of) ?_
   refine aQ rfl rfl (aA rfl) rfl c28 (aS (aA rfl) rfl dZ) ?_
   refine aQ rfl rfl (aA rfl) rfl c28 (aU (aA rfl) rfl (i := 0) rfl rfl cU) ?_
   refine aQ rfl rfl (aA rfl) rfl c28 (dR (aA rfl) rfl bP.of) ?_
   refine aQ rfl rfl (aA rfl) rfl c28 (bL (aA rfl) rfl rfl rfl) ?_
   refine aQ rfl rfl (aA rfl) rfl c28 (bE (aA rfl) rfl rfl rfl) ?_
   refine tr1 rfl (bH (v := .d (.lit (.bool ((!decide ((r3.1.length : Int) = (w64 ((t_0.Slots.length : Int) - 1)))))))) (aA rfl) rfl c28 rfl rfl) ?_
   have h6 := Option.some.inj h6
   subst h6
   refine aJ (bN rfl ⟨rfl, rfl, rfl, rfl, trivial⟩ rfl)
 ·refine aJ ?_
  refine bY rfl (fun c7 => ?_) (fun c7 => ?_)
  ·have h := bD c7 h
   refine aK ?_
   refine aH ?_
   refine tr1 rfl (rH 4 (aA rfl)) ?_
   refine tr1 rfl (jE 3 1 (.inl rfl) (aA rfl)) ?_
   refine tr1 rfl (aL (v := .d (.lit (.bool false))) (aA rfl) rfl rfl) ?_
   refine aJ ?_
   have h := Option.some.inj h
   subst h
   refine cR (cQ (mC (k := 6) (v := .d (.lit (.bool false))) (.same _) (mC (k := 5) (v := .d (.sl 1 ((([] : List Int)).map aO))) (.d (mH 2 rfl (dV (f := aO) fun _ => rfl))) (mC (k := 4) (v := .d (.sl 4 ((([] : List bS)).map cC))) (.same _) (vH))))) ?_
   exact bV ⟨rfl, _, .three _ _ _, rfl, rfl⟩
  ·have h := bB c7 h
   refine bU ?_
   refine aK ?_
   refine aK ?_
   refine aH ?_
   refine tr1 rfl (aL (v := .d (.lit (.int .i64 0))) (aA rfl) rfl rfl) ?_
   refine aJ ?_
   refine cF ?_
   refine dJ [1, 2] (fun (s9 : (List bS) × Int × (List Int) × Value) => [(4, .d (.sl 4 (s9.1.map cC))), (5, .d (.lit s9.2.2.2)), (8, .d (.lit (.int .i64 s9.2.1)))]) (fun (s9 : (List bS) × Int × (List Int) × Value) => [.box b1 0 (aY t_0), .arr s9.2.2.2 3 1 (s9.2.2.1.map aO)]) (fun (k : Nat) (s9 : (List bS) × Int × (List Int) × Value) => fS l_1 t_0 k s9.1 s9.2.1 s9.2.2.1) (fun _ => rfl) (r3.1, 0, ([] : List Int), (.slice none 0 0)) h (bK [0, 1] rfl rfl (aX rfl (aX rfl (aX rfl (bF ⟨rfl, rfl, trivial⟩))))) ?_
   rintro k11 ⟨bouts_0_9, i_0_9, winners_0_9, w10⟩ h
   simp only [fS] at h
   refine aK ?_
   refine aK ?_
   refine aH ?_
   refine tr1 rfl (aE (v := .d (.lit (.int .i64 i_0_9))) (aA rfl) rfl rfl) ?_
   refine tr1 rfl (aE (v := .d (.sl 4 (bouts_0_9.map cC))) (aA rfl) rfl rfl) ?_
   refine tr1 rfl (dR (aA rfl) rfl rI.of) ?_
   refine tr1 rfl (bE (aA rfl) rfl rfl rfl) ?_
   refine aJ ?_
   refine bY rfl (fun c12 => ?_) (fun c12 => ?_)
   ·have h := bD c12 h
    refine bU ?_
    refine aK ?_
    refine cF ?_
    refine aK ?_
    obtain ⟨x13, h14, h⟩ := bind_some h
    obtain ⟨x15, h16, h⟩ := bind_some h
    obtain ⟨r17, h18, h⟩ := bind_some h
    refine dN mix 17 [1, 2, 4, 5, 8] [(9, .d (.lit (.int .i64 r17.1))), (49, .d (.lit (.int .i64 r17.2)))] ?_ ?_
    ·refine ⟨[(35, 0, .agg (aY t_0)), (36, 1, .d (.sl 5 (l_1.map aP))), (37, 2, .d (.sl 4 (bouts_0_9.map cC))), (38, 3, .d (.lit (.int .i64 i_0_9))), (39, 4, .cp [.lit (.int .i64 x13.Round), .lit (.int .i64 x13.Place), .lit (.int .i64 x13.One), .lit (.int .i64 x13.Two)]), (40, 5, .cp [.lit (.int .i64 x13.Round)]), (41, 6, .d (.lit (.int .i64 x13.Round))), (42, 7, .d (.sl 4 (bouts_0_9.map cC))), (43, 8, .d (.lit (.int .i64 i_0_9))), (44, 9, .cp [.lit (.int .i64 x15.Round), .lit (.int .i64 x15.Place), .lit (.int .i64 x15.One), .lit (.int .i64 x15.Two)]), (45, 10, .cp [.lit (.int .i64 x15.Place)]), (46, 11, .d (.lit (.int .i64 x15.Place))), (47, 12, .tup [.d (.lit (.int .i64 r17.1)), .d (.lit (.int .i64 r17.2))]), (34, 13, .tup [.d (.lit (.int .i64 r17.1)), .d (.lit (.int .i64 r17.2))]), (48, 14, .d (.lit (.int .i64 r17.1))), (49, 15, .d (.lit (.int .i64 r17.2))), (9, 16, .d (.lit (.int .i64 r17.1)))], ?_, ?_⟩
     · exact ⟨by kernel_rfl, by kernel_rfl, by kernel_rfl, by kernel_rfl, by kernel_rfl, [([], []), ([], []), ([], []), ([], []), ([2, 3], []), ([4], []), ([5], []), ([], []), ([], []), ([7, 8], []), ([9], []), ([10], []), ([0, 1, 6, 11], []), ([12], []), ([13], []), ([13], []), ([14], [])], by kernel_rfl, ⟨fun S hS => aB rfl (aR rfl (bW (aA rfl) (aC hS rfl) (i := 0) rfl dX (es := (aY t_0)) rfl rfl)),
      fun S hS => aB rfl (aR rfl (aE (v := .d (.sl 5 (l_1.map aP))) (aA rfl) (aC hS rfl) rfl)),
      fun S hS => aB rfl (aR rfl (aE (v := .d (.sl 4 (bouts_0_9.map cC))) (aA rfl) (aC hS rfl) rfl)),
      fun S hS => aB rfl (aR rfl (aE (v := .d (.lit (.int .i64 i_0_9))) (aA rfl) (aC hS rfl) rfl)),
      fun S hS => aB rfl (aR rfl (bA (aA rfl) (aC hS rfl) (aC hS rfl) rI.of (bJ cC h14))),
      fun S hS => aB rfl (aR rfl (cW (aA rfl) (aC hS rfl) iT (es := [.lit (.int .i64 x13.Round)]) rfl)),
      fun S hS => aB rfl (aR rfl (bC (aA rfl) (aC hS rfl) aZ)),
      fun S hS => aB rfl (aR rfl (aE (v := .d (.sl 4 (bouts_0_9.map cC))) (aA rfl) (aC hS rfl) rfl)),
      fun S hS => aB rfl (aR rfl (aE (v := .d (.lit (.int .i64 i_0_9))) (aA rfl) (aC hS rfl) rfl)),
      fun S hS => aB rfl (aR rfl (bA (aA rfl) (aC hS rfl) (aC hS rfl) rI.of (bJ cC h16))),
      fun S hS => aB rfl (aR rfl (cW (aA rfl) (aC hS rfl) dE (es := [.lit (.int .i64 x15.Place)]) rfl)),
      fun S hS => aB rfl (aR rfl (bC (aA rfl) (aC hS rfl) aZ)),
      fun S hS => aB rfl (aR rfl (cZ (aA rfl) (.func _ _ Try.call20) (ev2 (aC hS rfl) (ev2 (aC hS rfl) (ev2 (aC hS rfl) (ev2 (aC hS rfl) evn)))) rfl (BVs.refl _ _) (zU _ _ _ _ h18) rfl)),
      fun S hS => aB rfl (aR rfl (aE (v := .tup [.d (.lit (.int .i64 r17.1)), .d (.lit (.int .i64 r17.2))]) (aA rfl) (aC hS rfl) rfl)),
      fun S hS => aB rfl (aR rfl (bX (aA rfl) (aC hS rfl) rfl)),
      fun S hS => aB rfl (aR rfl (bX (aA rfl) (aC hS rfl) rfl)),
      fun S hS => aB rfl (aR rfl (aL (v := .d (.lit (.int .i64 r17.1))) (aA rfl) (aC hS rfl) rfl)), trivial⟩⟩
     · exact cL (aX rfl (aX rfl (bF ⟨rfl, rfl, rfl, rfl, rfl, trivial⟩)))
    ·refine tr1 rfl (aL (v := .d (.lit (.int .i64 r17.2))) (aA rfl) rfl rfl) ?_
     refine aJ ?_
     refine aK ?_
     refine aK ?_
     refine aH ?_
     refine tr1 rfl (aE (v := .d (.lit (.int .i64 r17.2))) (aA rfl) rfl rfl) ?_
     refine tr1 rfl (bE (aA rfl) rfl rfl rfl) ?_
     refine aJ ?_
     refine bY rfl (fun c19 => ?_) (fun c19 => ?_)
     ·have h := bD c19 h
      refine aH ?_
      refine tr1 rfl (aL (v := .d (.lit (.int .i64 (-2)))) (aA rfl) rfl rfl) ?_
      refine aJ ?_
      refine aH ?_
      refine tr1 rfl (aE (v := .d (.lit w10)) (aA rfl) rfl rfl) ?_
      refine tr1 rfl (aE (v := .d (.lit (.int .i64 (-2)))) (aA rfl) rfl rfl) ?_
      refine tr1 rfl (gM (aA rfl) bP rfl rfl (rows := ([(-2)]).map aO) rfl (dV (f := aO) fun _ => rfl) rfl (by decide)) ?_
      obtain ⟨x20, h21, h⟩ := bind_some h
      refine cE rfl (gC (i := 1) (aA rfl) bP rfl rfl rfl (fun _ => rfl) h21 rfl) ?_
      rintro _ ⟨v22, rfl⟩
      refine tr1 rfl (aL (v := .d (.lit v22)) (aA rfl) rfl rfl) ?_
      refine eY ?_
      refine aH ?_
      refine tr1 rfl (aE (v := .d (.lit (.int .i64 i_0_9))) (aA rfl) rfl rfl) ?_
      refine tr1 rfl (bL (aA rfl) rfl rfl rfl) ?_
      refine tr1 rfl (aL (v := .d (.lit (.int .i64 ((w64 (i_0_9 + 1)))))) (aA rfl) rfl rfl) ?_
      refine aJ ?_
      exact ⟨(bouts_0_9, w64 (i_0_9 + 1), x20, v22), h, bK [0, 1] rfl rfl (aX rfl (aX rfl (aX rfl (bF ⟨rfl, rfl, trivial⟩))))⟩
     ·have h := bB c19 h
      refine aK ?_
      refine aH ?_
      refine tr1 rfl (aE (v := .d (.lit (.int .i64 r17.2))) (aA rfl) rfl rfl) ?_
      refine tr1 rfl (bE (aA rfl) rfl rfl rfl) ?_
      refine aJ ?_
      refine bY rfl (fun c23 => ?_) (fun c23 => ?_)
      ·have h := bD c23 h
       refine aK ?_
       refine aH ?_
       refine tr1 rfl (rH 4 (aA rfl)) ?_
       refine tr1 rfl (jE 3 1 (.inl rfl) (aA rfl)) ?_
       refine tr1 rfl (aL (v := .d (.lit (.bool false))) (aA rfl) rfl rfl) ?_
       refine aJ ?_
       have h := Option.some.inj h
       subst h
       refine cR (cQ (mC (k := 6) (v := .d (.lit (.bool false))) (.same _) (mC (k := 5) (v := .d (.sl 1 ((([] : List Int)).map aO))) (.d (mH 2 rfl (dV (f := aO) fun _ => rfl))) (mC (k := 4) (v := .d (.sl 4 ((([] : List bS)).map cC))) (.same _) (vH))))) ?_
       exact bV ⟨rfl, _, .three _ _ _, rfl, rfl⟩
      ·have h := bB c23 h
       refine bU ?_
       refine aH ?_
       refine tr1 rfl (aE (v := .d (.lit w10)) (aA rfl) rfl rfl) ?_
       refine tr1 rfl (aE (v := .d (.lit (.int .i64 r17.1))) (aA rfl) rfl rfl) ?_
       refine tr1 rfl (gM (aA rfl) bP rfl rfl (rows := ([r17.1]).map aO) rfl (dV (f := aO) fun _ => rfl) rfl (by decide)) ?_
       obtain ⟨x25, h26, h⟩ := bind_some h
       refine cE rfl (gC (i := 1) (aA rfl) bP rfl rfl rfl (fun _ => rfl) h26 rfl) ?_
       rintro _ ⟨v27, rfl⟩
       refine tr1 rfl (aL (v := .d (.lit v27)) (aA rfl) rfl rfl) ?_
       refine eY ?_
       refine aH ?_
       refine tr1 rfl (aE (v := .d (.lit (.int .i64 i_0_9))) (aA rfl) rfl rfl) ?_
       refine tr1 rfl (bL (aA rfl) rfl rfl rfl) ?_
       refine tr1 rfl (aL (v := .d (.lit (.int .i64 ((w64 (i_0_9 + 1)))))) (aA rfl) rfl rfl) ?_
       refine aJ ?_
       exact ⟨(bouts_0_9, w64 (i_0_9 + 1), x25, v27), h, bK [0, 1] rfl rfl (aX rfl (aX rfl (aX rfl (bF ⟨rfl, rfl, trivial⟩))))⟩
   ·have h := bB c12 h
    refine dB ?_
    refine .inl ⟨rfl, ?_⟩
    simp only [pK] at h
    refine aK ?_
    refine aH ?_
    refine tr1 rfl (aE (v := .d (.sl 4 (bouts_0_9.map cC))) (aA rfl) rfl rfl) ?_
    refine tr1 rfl (aE (v := .d (.lit w10)) (aA rfl) rfl rfl) ?_
    refine tr1 rfl (aL (v := .d (.sl 4 (bouts_0_9.map cC))) (aA rfl) rfl rfl) ?_
    refine tr1 rfl (aL (v := .d (.lit w10)) (aA rfl) rfl rfl) ?_
    refine tr1 rfl (aL (v := .d (.lit (.bool true))) (aA rfl) rfl rfl) ?_
    refine aJ ?_
    have h := Option.some.inj h
    subst h
    refine cR (cQ (mC (k := 6) (v := .d (.lit (.bool true))) (.same _) (mC (k := 5) (v := .d (.sl 1 (winners_0_9.map aO))) (.d (mH 1 rfl (dV (f := aO) fun _ => rfl))) (mC (k := 4) (v := .d (.sl 4 (bouts_0_9.map cC))) (.same _) (vH))))) ?_
    exact bV ⟨rfl, _, .three _ _ _, rfl, rfl⟩

theorem vK (t_0 : aT) (slots_1 : List Int) (course_2 : List (List Int)) {r : Bool} (h : gU t_0 slots_1 course_2 = some r) : Fn Try.prog 24 [.agg (aY t_0), .d (.sl 1 (slots_1.map aO)), .d (.sl 1 (course_2.map cG))] (.d (.lit (.bool r))) := by
 unfold gU at h
 refine Fn.of_tr Try.func24 rfl (rs := [.tmp 6]) Try.results24 Try.ntmps24 (Nat.le_of_ble_eq_true rfl) ?_
 refine aK ?_
 refine aH ?_
 refine cE rfl (gL (v := .agg (aY t_0)) (aA rfl) rfl rfl rfl) ?_
 rintro _ ⟨b1, rfl⟩
 refine tr1 rfl (aL (v := .d (.lit (.bool false))) (aA rfl) rfl rfl) ?_
 refine aJ ?_
 refine aK ?_
 refine aK ?_
 refine aH ?_
 refine tr1 rfl (aE (v := .d (.sl 1 (course_2.map cG))) (aA rfl) rfl rfl) ?_
 refine tr1 rfl (dR (aA rfl) rfl jG.of) ?_
 refine tr1 rfl (aS (aA rfl) rfl gK) ?_
 refine tr1 rfl (aU (aA rfl) rfl (i := 0) rfl rfl aZ) ?_
 refine tr1 rfl (bE (aA rfl) rfl rfl rfl) ?_
 refine tr1 rfl (aE (v := .d (.lit (.bool ((!decide ((course_2.length : Int) = t_0.Rounds)))))) (aA rfl) rfl rfl) ?_
 obtain ⟨b2, h3, h⟩ := bind_some h
 refine cK 7 [1, 2, 3] 25 b2 ?_ ?_
 ·refine bM (!decide ((course_2.length : Int) = t_0.Rounds)) (fun c35 => ?_) (fun c35 => ?_)
  ·have h3 := bD c35 h3
   refine aV rfl rfl (aA rfl) rfl (aA rfl) rfl c35 ?_
   refine aV rfl rfl (aA rfl) rfl (aA rfl) rfl c35 ?_
   refine aV rfl rfl (aA rfl) rfl (aA rfl) rfl c35 ?_
   refine aV rfl rfl (aA rfl) rfl (aA rfl) rfl c35 ?_
   refine aV rfl rfl (aA rfl) rfl (aA rfl) rfl c35 ?_
   refine aV rfl rfl (aA rfl) rfl (aA rfl) rfl c35 ?_
   refine tr1 rfl (bO (v := .d (.lit (.bool true))) (aA rfl) rfl c35 rfl rfl) ?_
   have h3 := Option.some.inj h3
   subst h3
   refine aJ (bN rfl ⟨rfl, rfl, rfl, trivial⟩ rfl)
  ·have h3 := bB c35 h3
   refine aQ rfl rfl (aA rfl) rfl c35 (aE (v := .d (.sl 1 (slots_1.map aO))) (aA rfl) rfl rfl) ?_
   refine aQ rfl rfl (aA rfl) rfl c35 (dR (aA rfl) rfl bP.of) ?_
   refine aQ rfl rfl (aA rfl) rfl c35 (aS (aA rfl) rfl dZ) ?_
   refine aQ rfl rfl (aA rfl) rfl c35 (aU (aA rfl) rfl (i := 0) rfl rfl cU) ?_
   refine aQ rfl rfl (aA rfl) rfl c35 (dR (aA rfl) rfl bP.of) ?_
   refine aQ rfl rfl (aA rfl) rfl c35 (bE (aA rfl) rfl rfl rfl) ?_
   refine tr1 rfl (bH (v := .d (.lit (.bool ((!decide ((slots_1.length : Int) = (t_0.Slots.length : Int))))))) (aA rfl) rfl c35 rfl rfl) ?_
   have h3 := Option.some.inj h3
   subst h3
   refine aJ (bN rfl ⟨rfl, rfl, rfl, trivial⟩ rfl)
 ·refine aJ ?_
  refine bY rfl (fun c4 => ?_) (fun c4 => ?_)
  ·have h := bD c4 h
   refine aK ?_
   refine aH ?_
   refine tr1 rfl (aL (v := .d (.lit (.bool false))) (aA rfl) rfl rfl) ?_
   refine aJ ?_
   have h := Option.some.inj h
   subst h
   refine cR (cQ (cX (l := [6]) ⟨rfl, trivial⟩)) ?_
   exact bV ⟨rfl, _, .one _, rfl, rfl⟩
  ·have h := bB c4 h
   refine bU ?_
   refine aK ?_
   refine aH ?_
   refine tr1 rfl (aE (v := .d (.sl 1 (slots_1.map aO))) (aA rfl) rfl rfl) ?_
   refine tr1 rfl (aL (v := .d (.sl 1 (slots_1.map aO))) (aA rfl) rfl rfl) ?_
   refine aJ ?_
   refine aK ?_
   refine aK ?_
   refine aH ?_
   refine tr1 rfl (aL (v := .d (.lit (.int .i64 0))) (aA rfl) rfl rfl) ?_
   refine aJ ?_
   refine cF ?_
   refine dJ [2, 3] (fun (s5 : (List Int) × Int) => [(7, .d (.sl 1 (s5.1.map aO))), (8, .d (.lit (.int .i64 s5.2)))]) (fun (s5 : (List Int) × Int) => [.box b1 0 (aY t_0)]) (fun (k : Nat) (s5 : (List Int) × Int) => eG course_2 t_0 k s5.1 s5.2) (fun _ => rfl) (slots_1, 0) h (bK [0] rfl rfl (aX rfl (aX rfl (bF ⟨rfl, rfl, trivial⟩)))) ?_
   rintro k6 ⟨before_0_5, r_0_5⟩ h
   simp only [eG] at h
   refine aK ?_
   refine aK ?_
   refine aH ?_
   refine tr1 rfl (aE (v := .d (.lit (.int .i64 r_0_5))) (aA rfl) rfl rfl) ?_
   refine tr1 rfl (aS (aA rfl) rfl gK) ?_
   refine tr1 rfl (aU (aA rfl) rfl (i := 0) rfl rfl aZ) ?_
   refine tr1 rfl (bE (aA rfl) rfl rfl rfl) ?_
   refine aJ ?_
   refine bY rfl (fun c7 => ?_) (fun c7 => ?_)
   ·have h := bD c7 h
    refine bU ?_
    refine aK ?_
    refine cF ?_
    refine aK ?_
    refine aK ?_
    obtain ⟨x8, h9, h⟩ := bind_some h
    obtain ⟨r10, h11, h⟩ := bind_some h
    refine dN mix 8 [2, 3, 7, 8] [(37, .d (.lit (.int .i64 ((x8.length : Int))))), (40, .d (.lit (.int .i64 r10)))] ?_ ?_
    ·refine ⟨[(33, 0, .d (.sl 1 (course_2.map cG))), (34, 1, .d (.lit (.int .i64 r_0_5))), (35, 2, .cp [.sl 1 (x8.map aO)]), (36, 3, .d (.sl 1 (x8.map aO))), (37, 4, .d (.lit (.int .i64 ((x8.length : Int))))), (38, 5, .agg (aY t_0)), (39, 6, .d (.lit (.int .i64 r_0_5))), (40, 7, .d (.lit (.int .i64 r10)))], ?_, ?_⟩
     · exact ⟨by kernel_rfl, by kernel_rfl, by kernel_rfl, by kernel_rfl, by kernel_rfl, [([], []), ([], []), ([0, 1], []), ([2], []), ([3], []), ([], []), ([], []), ([5, 6], [])], by kernel_rfl, ⟨fun S hS => aB rfl (aR rfl (aE (v := .d (.sl 1 (course_2.map cG))) (aA rfl) (aC hS rfl) rfl)),
      fun S hS => aB rfl (aR rfl (aE (v := .d (.lit (.int .i64 r_0_5))) (aA rfl) (aC hS rfl) rfl)),
      fun S hS => aB rfl (aR rfl (bA (aA rfl) (aC hS rfl) (aC hS rfl) jG.of (bJ cG h9))),
      fun S hS => aB rfl (aR rfl (bC (aA rfl) (aC hS rfl) cU)),
      fun S hS => aB rfl (aR rfl (dR (aA rfl) (aC hS rfl) bP.of)),
      fun S hS => aB rfl (aR rfl (bW (aA rfl) (aC hS rfl) (i := 0) rfl dX (es := (aY t_0)) rfl rfl)),
      fun S hS => aB rfl (aR rfl (aE (v := .d (.lit (.int .i64 r_0_5))) (aA rfl) (aC hS rfl) rfl)),
      fun S hS => aB rfl (aR rfl (cZ (aA rfl) (.func _ _ Try.call42) (ev2 (aC hS rfl) (ev2 (aC hS rfl) evn)) rfl (BVs.refl _ _) (lX _ _ h11) rfl)), trivial⟩⟩
     · exact cL (aX rfl (aX rfl (bF ⟨rfl, rfl, rfl, rfl, trivial⟩)))
    ·refine tr1 rfl (bE (aA rfl) rfl rfl rfl) ?_
     refine aJ ?_
     refine bY rfl (fun c12 => ?_) (fun c12 => ?_)
     ·have h := bD c12 h
      refine aK ?_
      refine aH ?_
      refine tr1 rfl (aL (v := .d (.lit (.bool false))) (aA rfl) rfl rfl) ?_
      refine aJ ?_
      have h := Option.some.inj h
      subst h
      refine cR (cQ (cX (l := [6]) ⟨rfl, trivial⟩)) ?_
      exact bV ⟨rfl, _, .one _, rfl, rfl⟩
     ·have h := bB c12 h
      refine bU ?_
      refine aK ?_
      refine aK ?_
      refine aH ?_
      refine tr1 rfl (aL (v := .d (.lit (.int .i64 0))) (aA rfl) rfl rfl) ?_
      refine aJ ?_
      refine cF ?_
      refine dJ [2, 3, 7, 8] (fun (s13 : Int) => [(9, .d (.lit (.int .i64 s13)))]) (fun (s13 : Int) => [.box b1 0 (aY t_0)]) (fun (k : Nat) (s13 : Int) => fK (eG course_2 t_0 k6) course_2 before_0_5 r_0_5 t_0 k s13) (fun _ => rfl) (0) h (bK [0] rfl rfl (aX rfl (bF ⟨rfl, rfl, rfl, rfl, trivial⟩))) ?_
      rintro k14 p_2_13 h
      simp only [fK] at h
      refine aK ?_
      refine aK ?_
      refine aH ?_
      refine tr1 rfl (aE (v := .d (.lit (.int .i64 p_2_13))) (aA rfl) rfl rfl) ?_
      refine tr1 rfl (bW (aA rfl) rfl (i := 0) rfl dX (es := (aY t_0)) rfl rfl) ?_
      refine tr1 rfl (aE (v := .d (.lit (.int .i64 r_0_5))) (aA rfl) rfl rfl) ?_
      obtain ⟨r15, h16, h⟩ := bind_some h
      refine tr1 rfl (cZ (aA rfl) (.func _ _ Try.call42) rfl rfl (BVs.refl _ _) (lX _ _ h16) rfl) ?_
      refine tr1 rfl (bE (aA rfl) rfl rfl rfl) ?_
      refine aJ ?_
      refine bY rfl (fun c17 => ?_) (fun c17 => ?_)
      ·have h := bD c17 h
       refine bU ?_
       refine aK ?_
       refine cF ?_
       refine aK ?_
       obtain ⟨x18, h19, h⟩ := bind_some h
       obtain ⟨x20, h21, h⟩ := bind_some h
       obtain ⟨x22, h23, h⟩ := bind_some h
       obtain ⟨x24, h25, h⟩ := bind_some h
       refine dN mix 20 [2, 3, 7, 8, 9] [(10, .d (.lit (.int .i64 x18))), (11, .d (.lit (.int .i64 x20))), (66, .d (.lit (.int .i64 x24)))] ?_ ?_
       ·refine ⟨[(49, 0, .d (.sl 1 (before_0_5.map aO))), (50, 1, .d (.lit (.int .i64 p_2_13))), (51, 2, .d (.lit (.int .i64 ((w64 (2 * p_2_13)))))), (52, 3, .cp [.lit (.int .i64 x18)]), (53, 4, .d (.lit (.int .i64 x18))), (54, 5, .d (.sl 1 (before_0_5.map aO))), (55, 6, .d (.lit (.int .i64 p_2_13))), (56, 7, .d (.lit (.int .i64 ((w64 (2 * p_2_13)))))), (57, 8, .d (.lit (.int .i64 ((w64 ((w64 (2 * p_2_13)) + 1)))))), (58, 9, .cp [.lit (.int .i64 x20)]), (59, 10, .d (.lit (.int .i64 x20))), (60, 11, .d (.sl 1 (course_2.map cG))), (61, 12, .d (.lit (.int .i64 r_0_5))), (62, 13, .cp [.sl 1 (x22.map aO)]), (63, 14, .d (.sl 1 (x22.map aO))), (64, 15, .d (.lit (.int .i64 p_2_13))), (65, 16, .cp [.lit (.int .i64 x24)]), (66, 17, .d (.lit (.int .i64 x24))), (10, 18, .d (.lit (.int .i64 x18))), (11, 19, .d (.lit (.int .i64 x20)))], ?_, ?_⟩
        · exact ⟨by kernel_rfl, by kernel_rfl, by kernel_rfl, by kernel_rfl, by kernel_rfl, [([], []), ([], []), ([1], []), ([0, 2], []), ([3], []), ([], []), ([], []), ([6], []), ([7], []), ([5, 8], []), ([9], []), ([], []), ([], []), ([11, 12], []), ([13], []), ([], []), ([14, 15], []), ([16], []), ([4], []), ([10], [])], by kernel_rfl, ⟨fun S hS => aB rfl (aR rfl (aE (v := .d (.sl 1 (before_0_5.map aO))) (aA rfl) (aC hS rfl) rfl)),
      fun S hS => aB rfl (aR rfl (aE (v := .d (.lit (.int .i64 p_2_13))) (aA rfl) (aC hS rfl) rfl)),
      fun S hS => aB rfl (aR rfl (bL (aA rfl) rfl (aC hS rfl) rfl)),
      fun S hS => aB rfl (aR rfl (bA (aA rfl) (aC hS rfl) (aC hS rfl) bP.of (bJ aO h19))),
      fun S hS => aB rfl (aR rfl (bC (aA rfl) (aC hS rfl) aZ)),
      fun S hS => aB rfl (aR rfl (aE (v := .d (.sl 1 (before_0_5.map aO))) (aA rfl) (aC hS rfl) rfl)),
      fun S hS => aB rfl (aR rfl (aE (v := .d (.lit (.int .i64 p_2_13))) (aA rfl) (aC hS rfl) rfl)),
      fun S hS => aB rfl (aR rfl (bL (aA rfl) rfl (aC hS rfl) rfl)),
      fun S hS => aB rfl (aR rfl (bL (aA rfl) (aC hS rfl) rfl rfl)),
      fun S hS => aB rfl (aR rfl (bA (aA rfl) (aC hS rfl) (aC hS rfl) bP.of (bJ aO h21))),
      fun S hS => aB rfl (aR rfl (bC (aA rfl) (aC hS rfl) aZ)),
      fun S hS => aB rfl (aR rfl (aE (v := .d (.sl 1 (course_2.map cG))) (aA rfl) (aC hS rfl) rfl)),
      fun S hS => aB rfl (aR rfl (aE (v := .d (.lit (.int .i64 r_0_5))) (aA rfl) (aC hS rfl) rfl)),
      fun S hS => aB rfl (aR rfl (bA (aA rfl) (aC hS rfl) (aC hS rfl) jG.of (bJ cG h23))),
      fun S hS => aB rfl (aR rfl (bC (aA rfl) (aC hS rfl) cU)),
      fun S hS => aB rfl (aR rfl (aE (v := .d (.lit (.int .i64 p_2_13))) (aA rfl) (aC hS rfl) rfl)),
      fun S hS => aB rfl (aR rfl (bA (aA rfl) (aC hS rfl) (aC hS rfl) bP.of (bJ aO h25))),
      fun S hS => aB rfl (aR rfl (bC (aA rfl) (aC hS rfl) aZ)),
      fun S hS => aB rfl (aR rfl (aL (v := .d (.lit (.int .i64 x18))) (aA rfl) (aC hS rfl) rfl)),
      fun S hS => aB rfl (aR rfl (aL (v := .d (.lit (.int .i64 x20))) (aA rfl) (aC hS rfl) rfl)), trivial⟩⟩
        · exact cL (aX rfl (aX rfl (aX rfl (bF ⟨rfl, rfl, rfl, rfl, rfl, trivial⟩))))
       ·refine tr1 rfl (aL (v := .d (.lit (.int .i64 x24))) (aA rfl) rfl rfl) ?_
        refine aJ ?_
        refine aK ?_
        refine aH ?_
        refine tr1 rfl (aE (v := .d (.lit (.int .i64 x24))) (aA rfl) rfl rfl) ?_
        refine tr1 rfl (bE (aA rfl) rfl rfl rfl) ?_
        refine tr1 rfl (aE (v := .d (.lit (.bool ((decide (x24 = (-1))))))) (aA rfl) rfl rfl) ?_
        obtain ⟨b26, h27, h⟩ := bind_some h
        refine cK 9 [2, 3, 7, 8, 9] 78 b26 ?_ ?_
        ·refine bM (decide (x24 = (-1))) (fun c29 => ?_) (fun c29 => ?_)
         ·have h27 := bD c29 h27
          refine aV rfl rfl (aA rfl) rfl (aA rfl) rfl c29 ?_
          refine aV rfl rfl (aA rfl) rfl (aA rfl) rfl c29 ?_
          refine aV rfl rfl (aA rfl) rfl (aA rfl) rfl c29 ?_
          refine aV rfl rfl (aA rfl) rfl (aA rfl) rfl c29 ?_
          refine dW rfl rfl (aA rfl) rfl (aA rfl) rfl ?_
          refine dW rfl rfl (aA rfl) rfl (aA rfl) rfl ?_
          refine dW rfl rfl (aA rfl) rfl (aA rfl) rfl ?_
          refine aV rfl rfl (aA rfl) rfl (aA rfl) rfl c29 ?_
          refine tr1 rfl (bO (v := .d (.lit (.bool true))) (aA rfl) rfl c29 rfl rfl) ?_
          have h27 := Option.some.inj h27
          subst h27
          refine aJ (bN rfl ⟨rfl, rfl, rfl, rfl, rfl, trivial⟩ rfl)
         ·have h27 := bB c29 h27
          refine aQ rfl rfl (aA rfl) rfl c29 (aE (v := .d (.lit (.int .i64 x24))) (aA rfl) rfl rfl) ?_
          refine aQ rfl rfl (aA rfl) rfl c29 (aE (v := .d (.lit (.int .i64 x18))) (aA rfl) rfl rfl) ?_
          refine aQ rfl rfl (aA rfl) rfl c29 (bE (aA rfl) rfl rfl rfl) ?_
          refine aQ rfl rfl (aA rfl) rfl c29 (aE (v := .d (.lit (.bool ((!decide (x24 = x18)))))) (aA rfl) rfl rfl) ?_
          obtain ⟨b30, h31, h27⟩ := bind_some h27
          refine cK 4 [2, 3, 7, 8, 9, 69, 70, 71, 72, 73] 77 b30 ?_ ?_
          ·refine bM (!decide (x24 = x18)) (fun c32 => ?_) (fun c32 => ?_)
           ·have h31 := bD c32 h31
            refine aQ rfl rfl (aA rfl) rfl c32 (aE (v := .d (.lit (.int .i64 x24))) (aA rfl) rfl rfl) ?_
            refine aQ rfl rfl (aA rfl) rfl c32 (aE (v := .d (.lit (.int .i64 x20))) (aA rfl) rfl rfl) ?_
            refine aQ rfl rfl (aA rfl) rfl c32 (bE (aA rfl) rfl rfl rfl) ?_
            refine aQ rfl rfl (aA rfl) rfl c29 (bO (v := .d (.lit (.bool ((!decide (x24 = x20)))))) (aA rfl) rfl c32 rfl rfl) ?_
            have h31 := Option.some.inj h31
            subst h31
            refine aJ (bN rfl ⟨rfl, rfl, rfl, rfl, rfl, rfl, rfl, rfl, rfl, rfl, trivial⟩ rfl)
           ·have h31 := bB c32 h31
            refine aV rfl rfl (aA rfl) rfl (aA rfl) rfl c32 ?_
            refine aV rfl rfl (aA rfl) rfl (aA rfl) rfl c32 ?_
            refine aV rfl rfl (aA rfl) rfl (aA rfl) rfl c32 ?_
            refine aQ rfl rfl (aA rfl) rfl c29 (bH (v := .d (.lit (.bool false))) (aA rfl) rfl c32 rfl rfl) ?_
            have h31 := Option.some.inj h31
            subst h31
            refine aJ (bN rfl ⟨rfl, rfl, rfl, rfl, rfl, rfl, rfl, rfl, rfl, rfl, trivial⟩ rfl)
          ·refine tr1 rfl (bH (v := .d (.lit (.bool b30))) (aA rfl) rfl c29 rfl rfl) ?_
           have h27 := Option.some.inj h27
           subst h27
           refine aJ (bN rfl ⟨rfl, rfl, rfl, rfl, rfl, trivial⟩ rfl)
        ·refine aJ ?_
         refine bY rfl (fun c28 => ?_) (fun c28 => ?_)
         ·have h := bD c28 h
          refine aK ?_
          refine aH ?_
          refine tr1 rfl (aL (v := .d (.lit (.bool false))) (aA rfl) rfl rfl) ?_
          refine aJ ?_
          have h := Option.some.inj h
          subst h
          refine cR (cQ (cX (l := [6]) ⟨rfl, trivial⟩)) ?_
          exact bV ⟨rfl, _, .one _, rfl, rfl⟩
         ·have h := bB c28 h
          refine eH ?_
          refine aH ?_
          refine tr1 rfl (aE (v := .d (.lit (.int .i64 p_2_13))) (aA rfl) rfl rfl) ?_
          refine tr1 rfl (bL (aA rfl) rfl rfl rfl) ?_
          refine tr1 rfl (aL (v := .d (.lit (.int .i64 ((w64 (p_2_13 + 1)))))) (aA rfl) rfl rfl) ?_
          refine aJ ?_
          exact ⟨(w64 (p_2_13 + 1)), h, bK [0] rfl rfl (aX rfl (bF ⟨rfl, rfl, rfl, rfl, trivial⟩))⟩
      ·have h := bB c17 h
       refine dB ?_
       refine .inl ⟨rfl, ?_⟩
       simp only [mN] at h
       refine aH ?_
       refine tr1 rfl (aE (v := .d (.sl 1 (course_2.map cG))) (aA rfl) rfl rfl) ?_
       refine tr1 rfl (aE (v := .d (.lit (.int .i64 r_0_5))) (aA rfl) rfl rfl) ?_
       obtain ⟨x33, h34, h⟩ := bind_some h
       refine tr1 rfl (bA (aA rfl) rfl rfl jG.of (bJ cG h34)) ?_
       refine tr1 rfl (bC (aA rfl) rfl cU) ?_
       refine tr1 rfl (aL (v := .d (.sl 1 (x33.map aO))) (aA rfl) rfl rfl) ?_
       refine eY ?_
       simp only [mM] at h
       refine aH ?_
       refine tr1 rfl (aE (v := .d (.lit (.int .i64 r_0_5))) (aA rfl) rfl rfl) ?_
       refine tr1 rfl (bL (aA rfl) rfl rfl rfl) ?_
       refine tr1 rfl (aL (v := .d (.lit (.int .i64 ((w64 (r_0_5 + 1)))))) (aA rfl) rfl rfl) ?_
       refine aJ ?_
       exact ⟨(x33, w64 (r_0_5 + 1)), h, bK [0] rfl rfl (aX rfl (aX rfl (bF ⟨rfl, rfl, trivial⟩)))⟩
   ·have h := bB c7 h
    refine dB ?_
    refine .inl ⟨rfl, ?_⟩
    simp only [mL] at h
    refine aK ?_
    refine aH ?_
    refine tr1 rfl (aL (v := .d (.lit (.bool true))) (aA rfl) rfl rfl) ?_
    refine aJ ?_
    have h := Option.some.inj h
    subst h
    refine cR (cQ (cX (l := [6]) ⟨rfl, trivial⟩)) ?_
    exact bV ⟨rfl, _, .one _, rfl, rfl⟩

theorem xE (t_0 : aT) (l_1 : List aI) (course_2 : List (List Int)) {r : Bool} (h : jU t_0 l_1 course_2 = some r) : Fn Try.prog 25 [.agg (aY t_0), .d (.sl 5 (l_1.map aP)), .d (.sl 1 (course_2.map cG))] (.d (.lit (.bool r))) := by
 unfold jU at h
 refine Fn.of_tr Try.func25 rfl (rs := [.tmp 6]) Try.results25 Try.ntmps25 (Nat.le_of_ble_eq_true rfl) ?_
 refine aK ?_
 refine aH ?_
 refine cE rfl (gL (v := .agg (aY t_0)) (aA rfl) rfl rfl rfl) ?_
 rintro _ ⟨b1, rfl⟩
 refine tr1 rfl (aL (v := .d (.lit (.bool false))) (aA rfl) rfl rfl) ?_
 refine aJ ?_
 refine aK ?_
 refine aK ?_
 refine aH ?_
 refine tr1 rfl (aL (v := .d (.lit (.int .i64 0))) (aA rfl) rfl rfl) ?_
 refine aJ ?_
 refine cF ?_
 refine dJ [1, 2] (fun (s2 : Int) => [(7, .d (.lit (.int .i64 s2)))]) (fun (s2 : Int) => []) (fun (k : Nat) (s2 : Int) => gJ l_1 course_2 k s2) (fun _ => rfl) (0) h (bK [] rfl rfl (aX rfl (bF ⟨rfl, rfl, trivial⟩))) ?_
 rintro k3 i_0_2 h
 simp only [gJ] at h
 refine aK ?_
 refine aK ?_
 refine aH ?_
 refine tr1 rfl (aE (v := .d (.lit (.int .i64 i_0_2))) (aA rfl) rfl rfl) ?_
 refine tr1 rfl (aE (v := .d (.sl 5 (l_1.map aP))) (aA rfl) rfl rfl) ?_
 refine tr1 rfl (dR (aA rfl) rfl fT.of) ?_
 refine tr1 rfl (bE (aA rfl) rfl rfl rfl) ?_
 refine aJ ?_
 refine bY rfl (fun c4 => ?_) (fun c4 => ?_)
 ·have h := bD c4 h
  refine bU ?_
  refine aK ?_
  refine cF ?_
  refine aK ?_
  obtain ⟨x5, h6, h⟩ := bind_some h
  obtain ⟨b7, h8, h⟩ := bind_some h
  refine dN mix 29 [1, 2, 7] [(42, .d (.lit (.bool b7)))] ?_ ?_
  ·refine bM (!decide (x5.Kind = 5)) (fun c9 => ?_) (fun c9 => ?_)
   ·have h8 := bD c9 h8
    obtain ⟨x10, h11, h8⟩ := bind_some h8
    obtain ⟨x12, h13, h8⟩ := bind_some h8
    obtain ⟨x14, h15, h8⟩ := bind_some h8
    obtain ⟨x16, h17, h8⟩ := bind_some h8
    obtain ⟨x18, h19, h8⟩ := bind_some h8
    have h8 := Option.some.inj h8
    subst h8
    refine ⟨[(14, 0, .d (.sl 5 (l_1.map aP))), (15, 1, .d (.lit (.int .i64 i_0_2))), (16, 2, .cp [.lit (.int .i64 x5.Kind), .lit (.int .i64 x5.Round), .lit (.int .i64 x5.Place), .lit (.int .i64 x5.Player), .lit (.int .i64 x5.Old)]), (17, 3, .cp [.lit (.int .i64 x5.Kind)]), (18, 4, .d (.lit (.int .i64 x5.Kind))), (19, 5, .d (.lit (.bool ((!decide (x5.Kind = 5)))))), (20, 6, .d (.lit (.bool ((!decide (x5.Kind = 5)))))), (21, 7, .d (.sl 1 (course_2.map cG))), (22, 8, .d (.sl 5 (l_1.map aP))), (23, 9, .d (.lit (.int .i64 i_0_2))), (24, 10, .cp [.lit (.int .i64 x10.Kind), .lit (.int .i64 x10.Round), .lit (.int .i64 x10.Place), .lit (.int .i64 x10.Player), .lit (.int .i64 x10.Old)]), (25, 11, .cp [.lit (.int .i64 x10.Round)]), (26, 12, .d (.lit (.int .i64 x10.Round))), (27, 13, .cp [.sl 1 (x12.map aO)]), (28, 14, .d (.sl 1 (x12.map aO))), (29, 15, .d (.sl 5 (l_1.map aP))), (30, 16, .d (.lit (.int .i64 i_0_2))), (31, 17, .cp [.lit (.int .i64 x14.Kind), .lit (.int .i64 x14.Round), .lit (.int .i64 x14.Place), .lit (.int .i64 x14.Player), .lit (.int .i64 x14.Old)]), (32, 18, .cp [.lit (.int .i64 x14.Place)]), (33, 19, .d (.lit (.int .i64 x14.Place))), (34, 20, .cp [.lit (.int .i64 x16)]), (35, 21, .d (.lit (.int .i64 x16))), (36, 22, .d (.sl 5 (l_1.map aP))), (37, 23, .d (.lit (.int .i64 i_0_2))), (38, 24, .cp [.lit (.int .i64 x18.Kind), .lit (.int .i64 x18.Round), .lit (.int .i64 x18.Place), .lit (.int .i64 x18.Player), .lit (.int .i64 x18.Old)]), (39, 25, .cp [.lit (.int .i64 x18.Player)]), (40, 26, .d (.lit (.int .i64 x18.Player))), (41, 27, .d (.lit (.bool ((!decide (x16 = x18.Player)))))), (42, 28, .d (.lit (.bool ((!decide (x16 = x18.Player))))))], ?_, ?_⟩
    · exact ⟨by kernel_rfl, by kernel_rfl, by kernel_rfl, by kernel_rfl, by kernel_rfl, [([], []), ([], []), ([0, 1], []), ([2], []), ([3], []), ([4], []), ([5], []), ([6], []), ([6], []), ([6], []), ([6, 8, 9], []), ([6, 10], []), ([6, 11], []), ([6, 7, 12], []), ([6, 13], []), ([6], []), ([6], []), ([6, 15, 16], []), ([6, 17], []), ([6, 18], []), ([6, 14, 19], []), ([6, 20], []), ([6], []), ([6], []), ([6, 22, 23], []), ([6, 24], []), ([6, 25], []), ([6, 21, 26], []), ([6, 27], [])], by kernel_rfl, ⟨fun S hS => aB rfl (aR rfl (aE (v := .d (.sl 5 (l_1.map aP))) (aA rfl) (aC hS rfl) rfl)),
      fun S hS => aB rfl (aR rfl (aE (v := .d (.lit (.int .i64 i_0_2))) (aA rfl) (aC hS rfl) rfl)),
      fun S hS => aB rfl (aR rfl (bA (aA rfl) (aC hS rfl) (aC hS rfl) fT.of (bJ aP h6))),
      fun S hS => aB rfl (aR rfl (cW (aA rfl) (aC hS rfl) lS (es := [.lit (.int .i64 x5.Kind)]) rfl)),
      fun S hS => aB rfl (aR rfl (bC (aA rfl) (aC hS rfl) aZ)),
      fun S hS => aB rfl (aR rfl (bE (aA rfl) (aC hS rfl) rfl rfl)),
      fun S hS => aB rfl (aR rfl (aE (v := .d (.lit (.bool ((!decide (x5.Kind = 5)))))) (aA rfl) (aC hS rfl) rfl)),
      fun S hS => aB rfl (aG rfl rfl (aA rfl) (aD hS rfl) c9 (aE (v := .d (.sl 1 (course_2.map cG))) (aA rfl) (aC hS rfl) rfl)),
      fun S hS => aB rfl (aG rfl rfl (aA rfl) (aD hS rfl) c9 (aE (v := .d (.sl 5 (l_1.map aP))) (aA rfl) (aC hS rfl) rfl)),
      fun S hS => aB rfl (aG rfl rfl (aA rfl) (aD hS rfl) c9 (aE (v := .d (.lit (.int .i64 i_0_2))) (aA rfl) (aC hS rfl) rfl)),
      fun S hS => aB rfl (aG rfl rfl (aA rfl) (aD hS rfl) c9 (bA (aA rfl) (aC hS rfl) (aC hS rfl) fT.of (bJ aP h11))),
      fun S hS => aB rfl (aG rfl rfl (aA rfl) (aD hS rfl) c9 (cW (aA rfl) (aC hS rfl) lE (es := [.lit (.int .i64 x10.Round)]) rfl)),
      fun S hS => aB rfl (aG rfl rfl (aA rfl) (aD hS rfl) c9 (bC (aA rfl) (aC hS rfl) aZ)),
      fun S hS => aB rfl (aG rfl rfl (aA rfl) (aD hS rfl) c9 (bA (aA rfl) (aC hS rfl) (aC hS rfl) jG.of (bJ cG h13))),
      fun S hS => aB rfl (aG rfl rfl (aA rfl) (aD hS rfl) c9 (bC (aA rfl) (aC hS rfl) cU)),
      fun S hS => aB rfl (aG rfl rfl (aA rfl) (aD hS rfl) c9 (aE (v := .d (.sl 5 (l_1.map aP))) (aA rfl) (aC hS rfl) rfl)),
      fun S hS => aB rfl (aG rfl rfl (aA rfl) (aD hS rfl) c9 (aE (v := .d (.lit (.int .i64 i_0_2))) (aA rfl) (aC hS rfl) rfl)),
      fun S hS => aB rfl (aG rfl rfl (aA rfl) (aD hS rfl) c9 (bA (aA rfl) (aC hS rfl) (aC hS rfl) fT.of (bJ aP h15))),
      fun S hS => aB rfl (aG rfl rfl (aA rfl) (aD hS rfl) c9 (cW (aA rfl) (aC hS rfl) iH (es := [.lit (.int .i64 x14.Place)]) rfl)),
      fun S hS => aB rfl (aG rfl rfl (aA rfl) (aD hS rfl) c9 (bC (aA rfl) (aC hS rfl) aZ)),
      fun S hS => aB rfl (aG rfl rfl (aA rfl) (aD hS rfl) c9 (bA (aA rfl) (aC hS rfl) (aC hS rfl) bP.of (bJ aO h17))),
      fun S hS => aB rfl (aG rfl rfl (aA rfl) (aD hS rfl) c9 (bC (aA rfl) (aC hS rfl) aZ)),
      fun S hS => aB rfl (aG rfl rfl (aA rfl) (aD hS rfl) c9 (aE (v := .d (.sl 5 (l_1.map aP))) (aA rfl) (aC hS rfl) rfl)),
      fun S hS => aB rfl (aG rfl rfl (aA rfl) (aD hS rfl) c9 (aE (v := .d (.lit (.int .i64 i_0_2))) (aA rfl) (aC hS rfl) rfl)),
      fun S hS => aB rfl (aG rfl rfl (aA rfl) (aD hS rfl) c9 (bA (aA rfl) (aC hS rfl) (aC hS rfl) fT.of (bJ aP h19))),
      fun S hS => aB rfl (aG rfl rfl (aA rfl) (aD hS rfl) c9 (cW (aA rfl) (aC hS rfl) lT (es := [.lit (.int .i64 x18.Player)]) rfl)),
      fun S hS => aB rfl (aG rfl rfl (aA rfl) (aD hS rfl) c9 (bC (aA rfl) (aC hS rfl) aZ)),
      fun S hS => aB rfl (aG rfl rfl (aA rfl) (aD hS rfl) c9 (bE (aA rfl) (aC hS rfl) (aC hS rfl) rfl)),
      fun S hS => aB rfl (aR rfl (bO (v := .d (.lit (.bool ((!decide (x16 = x18.Player)))))) (aA rfl) (aC hS rfl) c9 (aC hS rfl) rfl)), trivial⟩⟩
    · exact cL (aX rfl (bF ⟨rfl, rfl, rfl, trivial⟩))
   ·have h8 := bB c9 h8
    have h8 := Option.some.inj h8
    subst h8
    refine ⟨[(14, 0, .d (.sl 5 (l_1.map aP))), (15, 1, .d (.lit (.int .i64 i_0_2))), (16, 2, .cp [.lit (.int .i64 x5.Kind), .lit (.int .i64 x5.Round), .lit (.int .i64 x5.Place), .lit (.int .i64 x5.Player), .lit (.int .i64 x5.Old)]), (17, 3, .cp [.lit (.int .i64 x5.Kind)]), (18, 4, .d (.lit (.int .i64 x5.Kind))), (19, 5, .d (.lit (.bool ((!decide (x5.Kind = 5)))))), (20, 6, .d (.lit (.bool ((!decide (x5.Kind = 5)))))), (21, 7, .tup []), (22, 8, .tup []), (23, 9, .tup []), (24, 10, .tup []), (25, 11, .tup []), (26, 12, .tup []), (27, 13, .tup []), (28, 14, .tup []), (29, 15, .tup []), (30, 16, .tup []), (31, 17, .tup []), (32, 18, .tup []), (33, 19, .tup []), (34, 20, .tup []), (35, 21, .tup []), (36, 22, .tup []), (37, 23, .tup []), (38, 24, .tup []), (39, 25, .tup []), (40, 26, .tup []), (41, 27, .tup []), (42, 28, .d (.lit (.bool false)))], ?_, ?_⟩
    · exact ⟨by kernel_rfl, by kernel_rfl, by kernel_rfl, by kernel_rfl, by kernel_rfl, [([], []), ([], []), ([0, 1], []), ([2], []), ([3], []), ([4], []), ([5], []), ([6], []), ([6], []), ([6], []), ([6, 8, 9], []), ([6, 10], []), ([6, 11], []), ([6, 7, 12], []), ([6, 13], []), ([6], []), ([6], []), ([6, 15, 16], []), ([6, 17], []), ([6, 18], []), ([6, 14, 19], []), ([6, 20], []), ([6], []), ([6], []), ([6, 22, 23], []), ([6, 24], []), ([6, 25], []), ([6, 21, 26], []), ([6, 27], [])], by kernel_rfl, ⟨fun S hS => aB rfl (aR rfl (aE (v := .d (.sl 5 (l_1.map aP))) (aA rfl) (aC hS rfl) rfl)),
      fun S hS => aB rfl (aR rfl (aE (v := .d (.lit (.int .i64 i_0_2))) (aA rfl) (aC hS rfl) rfl)),
      fun S hS => aB rfl (aR rfl (bA (aA rfl) (aC hS rfl) (aC hS rfl) fT.of (bJ aP h6))),
      fun S hS => aB rfl (aR rfl (cW (aA rfl) (aC hS rfl) lS (es := [.lit (.int .i64 x5.Kind)]) rfl)),
      fun S hS => aB rfl (aR rfl (bC (aA rfl) (aC hS rfl) aZ)),
      fun S hS => aB rfl (aR rfl (bE (aA rfl) (aC hS rfl) rfl rfl)),
      fun S hS => aB rfl (aR rfl (aE (v := .d (.lit (.bool ((!decide (x5.Kind = 5)))))) (aA rfl) (aC hS rfl) rfl)),
      fun S hS => aB rfl (aM rfl rfl (aA rfl) rfl (aA rfl) (aD hS rfl) c9),
      fun S hS => aB rfl (aM rfl rfl (aA rfl) rfl (aA rfl) (aD hS rfl) c9),
      fun S hS => aB rfl (aM rfl rfl (aA rfl) rfl (aA rfl) (aD hS rfl) c9),
      fun S hS => aB rfl (aM rfl rfl (aA rfl) rfl (aA rfl) (aD hS rfl) c9),
      fun S hS => aB rfl (aM rfl rfl (aA rfl) rfl (aA rfl) (aD hS rfl) c9),
      fun S hS => aB rfl (aM rfl rfl (aA rfl) rfl (aA rfl) (aD hS rfl) c9),
      fun S hS => aB rfl (aM rfl rfl (aA rfl) rfl (aA rfl) (aD hS rfl) c9),
      fun S hS => aB rfl (aM rfl rfl (aA rfl) rfl (aA rfl) (aD hS rfl) c9),
      fun S hS => aB rfl (aM rfl rfl (aA rfl) rfl (aA rfl) (aD hS rfl) c9),
      fun S hS => aB rfl (aM rfl rfl (aA rfl) rfl (aA rfl) (aD hS rfl) c9),
      fun S hS => aB rfl (aM rfl rfl (aA rfl) rfl (aA rfl) (aD hS rfl) c9),
      fun S hS => aB rfl (aM rfl rfl (aA rfl) rfl (aA rfl) (aD hS rfl) c9),
      fun S hS => aB rfl (aM rfl rfl (aA rfl) rfl (aA rfl) (aD hS rfl) c9),
      fun S hS => aB rfl (aM rfl rfl (aA rfl) rfl (aA rfl) (aD hS rfl) c9),
      fun S hS => aB rfl (aM rfl rfl (aA rfl) rfl (aA rfl) (aD hS rfl) c9),
      fun S hS => aB rfl (aM rfl rfl (aA rfl) rfl (aA rfl) (aD hS rfl) c9),
      fun S hS => aB rfl (aM rfl rfl (aA rfl) rfl (aA rfl) (aD hS rfl) c9),
      fun S hS => aB rfl (aM rfl rfl (aA rfl) rfl (aA rfl) (aD hS rfl) c9),
      fun S hS => aB rfl (aM rfl rfl (aA rfl) rfl (aA rfl) (aD hS rfl) c9),
      fun S hS => aB rfl (aM rfl rfl (aA rfl) rfl (aA rfl) (aD hS rfl) c9),
      fun S hS => aB rfl (aM rfl rfl (aA rfl) rfl (aA rfl) (aD hS rfl) c9),
      fun S hS => aB rfl (aR rfl (bH (v := .d (.lit (.bool false))) (aA rfl) (aC hS rfl) c9 rfl rfl)), trivial⟩⟩
    · exact cL (aX rfl (bF ⟨rfl, rfl, rfl, trivial⟩))
  ·refine aJ ?_
   refine bY rfl (fun c20 => ?_) (fun c20 => ?_)
   ·have h := bD c20 h
    refine aK ?_
    refine aH ?_
    refine tr1 rfl (aL (v := .d (.lit (.bool false))) (aA rfl) rfl rfl) ?_
    refine aJ ?_
    have h := Option.some.inj h
    subst h
    exact bV ⟨rfl, _, .one _, rfl, rfl⟩
   ·have h := bB c20 h
    refine eH ?_
    refine aH ?_
    refine tr1 rfl (aE (v := .d (.lit (.int .i64 i_0_2))) (aA rfl) rfl rfl) ?_
    refine tr1 rfl (bL (aA rfl) rfl rfl rfl) ?_
    refine tr1 rfl (aL (v := .d (.lit (.int .i64 ((w64 (i_0_2 + 1)))))) (aA rfl) rfl rfl) ?_
    refine aJ ?_
    exact ⟨(w64 (i_0_2 + 1)), h, bK [] rfl rfl (aX rfl (bF ⟨rfl, rfl, trivial⟩))⟩
 ·have h := bB c4 h
  refine dB ?_
  refine .inl ⟨rfl, ?_⟩
  simp only [nQ] at h
  refine aK ?_
  refine aH ?_
  refine tr1 rfl (aL (v := .d (.lit (.bool true))) (aA rfl) rfl rfl) ?_
  refine aJ ?_
  have h := Option.some.inj h
  subst h
  exact bV ⟨rfl, _, .one _, rfl, rfl⟩

end Go.Am
