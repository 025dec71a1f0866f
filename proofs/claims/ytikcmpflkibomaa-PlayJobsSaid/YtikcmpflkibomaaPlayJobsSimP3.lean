/- The functions compute what the shallow ones say: printed by program. -/
import Derived.Test.YtikcmpflkibomaaPlayJobsSimP2
namespace Go.Am
open Go.Proofs
set_option maxRecDepth 100000
set_option maxHeartbeats 4000000

theorem qS (t_0 : bD) (l_1 : List aK) {r : bB × Bool} (h : eI t_0 l_1 = some r) : Fn Try.prog 99 [.agg (bG t_0), .d (.sl 5 (l_1.map aS))] (.tup [.agg (cP r.1), .d (.lit (.bool r.2))]) := by
 unfold eI at h
 refine rA Try.func99 rfl (rs := [.cell 4 144, .tmp 5]) Try.results99 Try.ntmps99 (Nat.le_of_ble_eq_true rfl) ?_
 refine aF ?_
 refine aC ?_
 refine cE rfl (eC (v := .agg (bG t_0)) (aA rfl) rfl rfl rfl) ?_
 rintro _ ⟨b1, rfl⟩
 refine cE rfl (dM (zs := [.sl 1 ((([] : List Int)).map aP), .sl 1 ((([] : List (List Int))).map jR)]) (aA rfl) Try.zeroValue144 rfl rfl) ?_
 rintro _ ⟨b2, rfl⟩
 refine tr1 rfl (aH (v := .d (.lit (.bool false))) (aA rfl) rfl rfl) ?_
 refine aG ?_
 refine aF ?_
 refine aC ?_
 refine tr1 rfl (bN (aA rfl) rfl (i := 0) rfl fO (es := (bG t_0)) rfl rfl) ?_
 refine tr1 rfl (aD (v := .d (.sl 5 (l_1.map aS))) (aA rfl) rfl rfl) ?_
 obtain ⟨r3, h4, h⟩ := bind_some h
 refine tr1 rfl (fT (aA rfl) (.func _ _ Try.call116) rfl rfl (yL _ _ h4)) ?_
 refine tr1 rfl (aD (v := .tup [.d (.sl 1 (r3.1.map aP)), .d (.lit (.bool r3.2))]) (aA rfl) rfl rfl) ?_
 refine tr1 rfl (cD (aA rfl) rfl rfl) ?_
 refine tr1 rfl (cD (aA rfl) rfl rfl) ?_
 refine tr1 rfl (aH (v := .d (.sl 1 (r3.1.map aP))) (aA rfl) rfl rfl) ?_
 refine tr1 rfl (aH (v := .d (.lit (.bool r3.2))) (aA rfl) rfl rfl) ?_
 refine aG ?_
 refine aF ?_
 refine aF ?_
 refine aC ?_
 refine tr1 rfl (aD (v := .d (.lit (.bool r3.2))) (aA rfl) rfl rfl) ?_
 refine tr1 rfl (dZ (aA rfl) rfl) ?_
 refine aG ?_
 refine cA rfl (fun c5 => ?_) (fun c5 => ?_)
 ·have h := aX c5 h
  refine aF ?_
  refine aC ?_
  refine tr1 rfl (eA (aA rfl) xX (zs := [.sl 1 ((([] : List Int)).map aP), .sl 1 ((([] : List (List Int))).map jR)]) rfl rfl rfl rfl (es := [.sl 1 ((([] : List Int)).map aP), .sl 1 ((([] : List (List Int))).map jR)]) rfl) ?_
  refine tr1 rfl (cM (i := 1) rfl rfl rfl rfl rfl Try.sizeOf144 rfl (aA rfl) (Nat.le_of_ble_eq_true rfl) (ds' := (cP (bB.mk ([] : List Int) ([] : List (List Int))))) rfl) ?_
  refine tr1 rfl (aH (v := .d (.lit (.bool false))) (aA rfl) rfl rfl) ?_
  refine aG ?_
  have h := Option.some.inj h
  subst h
  exact bU ⟨rfl, _, [.box b1 0 (bG t_0), .box b2 0 (cP (bB.mk ([] : List Int) ([] : List (List Int))))], .two (.cell 4 144 rfl (i := 1) rfl qK (es := (cP (bB.mk ([] : List Int) ([] : List (List Int))))) rfl rfl) (.tmp 5 (v := .d (.lit (.bool false))) rfl), .refl _, .same _⟩
 ·have h := aY c5 h
  refine bX ?_
  refine aF ?_
  refine aC ?_
  refine tr1 rfl (aD (v := .d (.sl 1 (r3.1.map aP))) (aA rfl) rfl rfl) ?_
  refine tr1 rfl (eA (aA rfl) xX (zs := [.sl 1 ((([] : List Int)).map aP), .lit (.slice none 0 0)]) rfl rfl rfl rfl (es := [.sl 1 (r3.1.map aP), .lit (.slice none 0 0)]) rfl) ?_
  refine cE rfl (dM (zs := [.sl 1 ((([] : List Int)).map aP), .lit (.slice none 0 0)]) (aA rfl) Try.zeroValue144 rfl rfl) ?_
  rintro _ ⟨b6, rfl⟩
  refine kH (rZ 27 1) ?_
  refine kH (aKe 3 1) ?_
  refine tr1 rfl (cM (i := 2) rfl rfl rfl rfl rfl Try.sizeOf144 rfl (aA rfl) (Nat.le_of_ble_eq_true rfl) (ds' := [.sl 1 (r3.1.map aP), .lit (.slice none 0 0)]) rfl) ?_
  refine aG ?_
  refine aF ?_
  refine aF ?_
  refine aC ?_
  refine tr1 rfl (aH (v := .d (.lit (.int .i64 0))) (aA rfl) rfl rfl) ?_
  refine aG ?_
  refine cO ?_
  refine dG [1, 2, 4, 6, 8] (fun (s7 : Int × (List (List Int)) × (List Int) × (List Value) × Value) => [(9, .d (.lit (.int .i64 s7.1)))]) (fun (s7 : Int × (List (List Int)) × (List Int) × (List Value) × Value) => [.box b1 0 (bG t_0), .box b2 0 (cP (bB.mk ([] : List Int) ([] : List (List Int)))), .fam 3 1 s7.2.2.2.1 (s7.2.1.map fun r => r.map aP), .arr s7.2.2.2.2 27 1 (s7.2.2.2.1.map fun v => [.lit v]), .box b6 0 [.sl 1 (s7.2.2.1.map aP), .lit s7.2.2.2.2]]) (fun (k : Nat) (s7 : Int × (List (List Int)) × (List Int) × (List Value) × Value) => fW l_1 r3.1 t_0 (bB.mk ([] : List Int) ([] : List (List Int))) k s7.1 s7.2.1 s7.2.2.1) (fun _ => rfl) (0, ([] : List (List Int)), r3.1, [], (.slice none 0 0)) h (bE [0, 1, 4, 3, 2] rfl rfl (aU rfl (bC ⟨rfl, rfl, rfl, rfl, rfl, trivial⟩))) ?_
  rintro k10 ⟨r_0_7, d_0_7, d_0_7_2, vs8, w9⟩ h
  simp only [fW] at h
  refine aF ?_
  refine aF ?_
  refine aC ?_
  refine tr1 rfl (aD (v := .d (.lit (.int .i64 r_0_7))) (aA rfl) rfl rfl) ?_
  refine tr1 rfl (aN (aA rfl) rfl kL) ?_
  refine tr1 rfl (aR (aA rfl) rfl (i := 0) rfl rfl bL) ?_
  refine tr1 rfl (bR (aA rfl) rfl rfl rfl) ?_
  refine aG ?_
  refine cA rfl (fun c11 => ?_) (fun c11 => ?_)
  ·have h := aX c11 h
   refine bX ?_
   refine aF ?_
   refine cO ?_
   refine aF ?_
   refine aC ?_
   refine tr1 rfl (gA 3 1 (.inl rfl) (aA rfl)) ?_
   refine aG ?_
   refine aF ?_
   refine aF ?_
   refine aC ?_
   refine tr1 rfl (aH (v := .d (.lit (.int .i64 0))) (aA rfl) rfl rfl) ?_
   refine aG ?_
   refine cO ?_
   refine dG [1, 2, 4, 6, 8, 9] (fun (s13 : Int × (List Int) × Value) => [(10, .d (.lit s13.2.2)), (11, .d (.lit (.int .i64 s13.1)))]) (fun (s13 : Int × (List Int) × Value) => [.box b1 0 (bG t_0), .box b2 0 (cP (bB.mk ([] : List Int) ([] : List (List Int)))), .fam 3 1 vs8 (d_0_7.map fun r => r.map aP), .arr w9 27 1 (vs8.map fun v => [.lit v]), .box b6 0 [.sl 1 (d_0_7_2.map aP), .lit w9], .arr s13.2.2 3 1 (s13.2.1.map aP)]) (fun (k : Nat) (s13 : Int × (List Int) × Value) => eQ (fW l_1 r3.1 t_0 (bB.mk ([] : List Int) ([] : List (List Int))) k10) l_1 r3.1 r_0_7 t_0 (bB.mk ([] : List Int) ([] : List (List Int))) d_0_7 d_0_7_2 k s13.1 s13.2.1) (fun _ => rfl) (0, ([] : List Int), (.slice none 0 0)) h (bE [0, 1, 2, 3, 4, 5] rfl rfl (aU rfl (aU rfl (bC ⟨rfl, rfl, rfl, rfl, rfl, rfl, trivial⟩)))) ?_
   rintro k15 ⟨p_2_13, row_2_13, w14⟩ h
   simp only [eQ] at h
   refine aF ?_
   refine aF ?_
   refine aC ?_
   refine tr1 rfl (aD (v := .d (.lit (.int .i64 p_2_13))) (aA rfl) rfl rfl) ?_
   refine tr1 rfl (bN (aA rfl) rfl (i := 0) rfl fO (es := (bG t_0)) rfl rfl) ?_
   refine tr1 rfl (aD (v := .d (.lit (.int .i64 r_0_7))) (aA rfl) rfl rfl) ?_
   obtain ⟨r16, h17, h⟩ := bind_some h
   refine tr1 rfl (cL (aA rfl) (.func _ _ Try.call117) rfl rfl (BVs.refl _ _) (pH _ _ h17) rfl) ?_
   refine tr1 rfl (bR (aA rfl) rfl rfl rfl) ?_
   refine aG ?_
   refine cA rfl (fun c18 => ?_) (fun c18 => ?_)
   ·have h := aX c18 h
    refine bX ?_
    refine aF ?_
    refine cO ?_
    refine aF ?_
    refine aC ?_
    refine tr1 rfl (aH (v := .d (.lit (.int .i64 (-2)))) (aA rfl) rfl rfl) ?_
    refine aG ?_
    refine aF ?_
    refine aF ?_
    refine aC ?_
    refine tr1 rfl (aD (v := .d (.lit (.int .i64 r_0_7))) (aA rfl) rfl rfl) ?_
    refine tr1 rfl (bR (aA rfl) rfl rfl rfl) ?_
    refine tr1 rfl (aD (v := .d (.lit (.bool ((decide (r_0_7 = 0)))))) (aA rfl) rfl rfl) ?_
    obtain ⟨b19, h20, h⟩ := bind_some h
    refine cS 7 [1, 2, 4, 6, 8, 9, 10, 11, 12] 55 b19 ?_ ?_
    ·refine bY (decide (r_0_7 = 0)) (fun c52 => ?_) (fun c52 => ?_)
     ·have h20 := aX c52 h20
      refine aM rfl rfl (aA rfl) rfl c52 (aD (v := .d (.sl 1 (r3.1.map aP))) (aA rfl) rfl rfl) ?_
      refine aM rfl rfl (aA rfl) rfl c52 (aD (v := .d (.lit (.int .i64 p_2_13))) (aA rfl) rfl rfl) ?_
      refine aM rfl rfl (aA rfl) rfl c52 (bT (aA rfl) rfl rfl rfl) ?_
      obtain ⟨x53, h54, h20⟩ := bind_some h20
      refine aM rfl rfl (aA rfl) rfl c52 (bJ (aA rfl) rfl rfl cT.of (bP aP h54)) ?_
      refine aM rfl rfl (aA rfl) rfl c52 (bZ (aA rfl) rfl bL) ?_
      refine aM rfl rfl (aA rfl) rfl c52 (bR (aA rfl) rfl rfl rfl) ?_
      refine tr1 rfl (cC (v := .d (.lit (.bool ((decide (x53 = (-1))))))) (aA rfl) rfl c52 rfl rfl) ?_
      have h20 := Option.some.inj h20
      subst h20
      refine aG (bM rfl ⟨rfl, rfl, rfl, rfl, rfl, rfl, rfl, rfl, rfl, trivial⟩ rfl)
     ·have h20 := aY c52 h20
      refine aO rfl rfl (aA rfl) rfl (aA rfl) rfl c52 ?_
      refine aO rfl rfl (aA rfl) rfl (aA rfl) rfl c52 ?_
      refine aO rfl rfl (aA rfl) rfl (aA rfl) rfl c52 ?_
      refine aO rfl rfl (aA rfl) rfl (aA rfl) rfl c52 ?_
      refine aO rfl rfl (aA rfl) rfl (aA rfl) rfl c52 ?_
      refine aO rfl rfl (aA rfl) rfl (aA rfl) rfl c52 ?_
      refine tr1 rfl (cB (v := .d (.lit (.bool false))) (aA rfl) rfl c52 rfl rfl) ?_
      have h20 := Option.some.inj h20
      subst h20
      refine aG (bM rfl ⟨rfl, rfl, rfl, rfl, rfl, rfl, rfl, rfl, rfl, trivial⟩ rfl)
    ·refine aG ?_
     refine cA rfl (fun c21 => ?_) (fun c21 => ?_)
     ·have h := aX c21 h
      refine aC ?_
      refine tr1 rfl (aD (v := .d (.sl 1 (r3.1.map aP))) (aA rfl) rfl rfl) ?_
      refine tr1 rfl (aD (v := .d (.lit (.int .i64 p_2_13))) (aA rfl) rfl rfl) ?_
      refine tr1 rfl (bT (aA rfl) rfl rfl rfl) ?_
      refine tr1 rfl (bT (aA rfl) rfl rfl rfl) ?_
      obtain ⟨x22, h23, h⟩ := bind_some h
      refine tr1 rfl (bJ (aA rfl) rfl rfl cT.of (bP aP h23)) ?_
      refine tr1 rfl (bZ (aA rfl) rfl bL) ?_
      refine tr1 rfl (aH (v := .d (.lit (.int .i64 x22))) (aA rfl) rfl rfl) ?_
      refine aG ?_
      refine aF ?_
      refine aF ?_
      refine aC ?_
      refine tr1 rfl (aD (v := .d (.lit (.int .i64 r_0_7))) (aA rfl) rfl rfl) ?_
      refine tr1 rfl (bR (aA rfl) rfl rfl rfl) ?_
      refine tr1 rfl (aD (v := .d (.lit (.bool ((decide (r_0_7 = 0)))))) (aA rfl) rfl rfl) ?_
      obtain ⟨b24, h25, h⟩ := bind_some h
      refine cS 8 [1, 2, 4, 6, 8, 9, 10, 11, 12] 72 b24 ?_ ?_
      ·refine bY (decide (r_0_7 = 0)) (fun c35 => ?_) (fun c35 => ?_)
       ·have h25 := aX c35 h25
        refine aM rfl rfl (aA rfl) rfl c35 (aD (v := .d (.sl 1 (r3.1.map aP))) (aA rfl) rfl rfl) ?_
        refine aM rfl rfl (aA rfl) rfl c35 (aD (v := .d (.lit (.int .i64 p_2_13))) (aA rfl) rfl rfl) ?_
        refine aM rfl rfl (aA rfl) rfl c35 (bT (aA rfl) rfl rfl rfl) ?_
        refine aM rfl rfl (aA rfl) rfl c35 (bT (aA rfl) rfl rfl rfl) ?_
        obtain ⟨x36, h37, h25⟩ := bind_some h25
        refine aM rfl rfl (aA rfl) rfl c35 (bJ (aA rfl) rfl rfl cT.of (bP aP h37)) ?_
        refine aM rfl rfl (aA rfl) rfl c35 (bZ (aA rfl) rfl bL) ?_
        refine aM rfl rfl (aA rfl) rfl c35 (bR (aA rfl) rfl rfl rfl) ?_
        refine tr1 rfl (cC (v := .d (.lit (.bool ((decide (x36 = (-1))))))) (aA rfl) rfl c35 rfl rfl) ?_
        have h25 := Option.some.inj h25
        subst h25
        refine aG (bM rfl ⟨rfl, rfl, rfl, rfl, rfl, rfl, rfl, rfl, rfl, trivial⟩ rfl)
       ·have h25 := aY c35 h25
        refine aO rfl rfl (aA rfl) rfl (aA rfl) rfl c35 ?_
        refine aO rfl rfl (aA rfl) rfl (aA rfl) rfl c35 ?_
        refine aO rfl rfl (aA rfl) rfl (aA rfl) rfl c35 ?_
        refine aO rfl rfl (aA rfl) rfl (aA rfl) rfl c35 ?_
        refine aO rfl rfl (aA rfl) rfl (aA rfl) rfl c35 ?_
        refine aO rfl rfl (aA rfl) rfl (aA rfl) rfl c35 ?_
        refine aO rfl rfl (aA rfl) rfl (aA rfl) rfl c35 ?_
        refine tr1 rfl (cB (v := .d (.lit (.bool false))) (aA rfl) rfl c35 rfl rfl) ?_
        have h25 := Option.some.inj h25
        subst h25
        refine aG (bM rfl ⟨rfl, rfl, rfl, rfl, rfl, rfl, rfl, rfl, rfl, trivial⟩ rfl)
      ·refine aG ?_
       refine cA rfl (fun c26 => ?_) (fun c26 => ?_)
       ·have h := aX c26 h
        refine aC ?_
        refine tr1 rfl (aD (v := .d (.sl 1 (r3.1.map aP))) (aA rfl) rfl rfl) ?_
        refine tr1 rfl (aD (v := .d (.lit (.int .i64 p_2_13))) (aA rfl) rfl rfl) ?_
        refine tr1 rfl (bT (aA rfl) rfl rfl rfl) ?_
        obtain ⟨x27, h28, h⟩ := bind_some h
        refine tr1 rfl (bJ (aA rfl) rfl rfl cT.of (bP aP h28)) ?_
        refine tr1 rfl (bZ (aA rfl) rfl bL) ?_
        refine tr1 rfl (aH (v := .d (.lit (.int .i64 x27))) (aA rfl) rfl rfl) ?_
        refine aG ?_
        refine aC ?_
        refine tr1 rfl (aD (v := .d (.lit w14)) (aA rfl) rfl rfl) ?_
        refine tr1 rfl (aD (v := .d (.lit (.int .i64 x27))) (aA rfl) rfl rfl) ?_
        refine tr1 rfl (eW (aA rfl) cT rfl rfl (rows := ([x27]).map aP) rfl (dD (f := aP) fun _ => rfl) rfl (by decide)) ?_
        obtain ⟨x29, h30, h⟩ := bind_some h
        refine cE rfl (fC (i := 5) (aA rfl) cT rfl rfl rfl (fun _ => rfl) h30 rfl) ?_
        rintro _ ⟨v31, rfl⟩
        refine tr1 rfl (aH (v := .d (.lit v31)) (aA rfl) rfl rfl) ?_
        refine fB ?_
        refine aC ?_
        refine tr1 rfl (aD (v := .d (.lit (.int .i64 p_2_13))) (aA rfl) rfl rfl) ?_
        refine tr1 rfl (bT (aA rfl) rfl rfl rfl) ?_
        refine tr1 rfl (aH (v := .d (.lit (.int .i64 ((w64 (p_2_13 + 1)))))) (aA rfl) rfl rfl) ?_
        refine aG ?_
        exact ⟨(w64 (p_2_13 + 1), x29, v31), h, bE [0, 1, 2, 3, 4, 5] rfl rfl (aU rfl (aU rfl (bC ⟨rfl, rfl, rfl, rfl, rfl, rfl, trivial⟩)))⟩
       ·have h := aY c26 h
        refine bX ?_
        refine aC ?_
        refine tr1 rfl (aD (v := .d (.lit w14)) (aA rfl) rfl rfl) ?_
        refine tr1 rfl (aD (v := .d (.lit (.int .i64 x22))) (aA rfl) rfl rfl) ?_
        refine tr1 rfl (eW (aA rfl) cT rfl rfl (rows := ([x22]).map aP) rfl (dD (f := aP) fun _ => rfl) rfl (by decide)) ?_
        obtain ⟨x32, h33, h⟩ := bind_some h
        refine cE rfl (fC (i := 5) (aA rfl) cT rfl rfl rfl (fun _ => rfl) h33 rfl) ?_
        rintro _ ⟨v34, rfl⟩
        refine tr1 rfl (aH (v := .d (.lit v34)) (aA rfl) rfl rfl) ?_
        refine fB ?_
        refine aC ?_
        refine tr1 rfl (aD (v := .d (.lit (.int .i64 p_2_13))) (aA rfl) rfl rfl) ?_
        refine tr1 rfl (bT (aA rfl) rfl rfl rfl) ?_
        refine tr1 rfl (aH (v := .d (.lit (.int .i64 ((w64 (p_2_13 + 1)))))) (aA rfl) rfl rfl) ?_
        refine aG ?_
        exact ⟨(w64 (p_2_13 + 1), x32, v34), h, bE [0, 1, 2, 3, 4, 5] rfl rfl (aU rfl (aU rfl (bC ⟨rfl, rfl, rfl, rfl, rfl, rfl, trivial⟩)))⟩
     ·have h := aY c21 h
      refine bX ?_
      refine aF ?_
      refine aF ?_
      refine aC ?_
      refine tr1 rfl (aD (v := .d (.lit (.int .i64 r_0_7))) (aA rfl) rfl rfl) ?_
      refine tr1 rfl (bR (aA rfl) rfl rfl rfl) ?_
      refine tr1 rfl (aD (v := .d (.lit (.bool ((decide (r_0_7 = 0)))))) (aA rfl) rfl rfl) ?_
      obtain ⟨b38, h39, h⟩ := bind_some h
      refine cS 8 [1, 2, 4, 6, 8, 9, 10, 11, 12] 72 b38 ?_ ?_
      ·refine bY (decide (r_0_7 = 0)) (fun c49 => ?_) (fun c49 => ?_)
       ·have h39 := aX c49 h39
        refine aM rfl rfl (aA rfl) rfl c49 (aD (v := .d (.sl 1 (r3.1.map aP))) (aA rfl) rfl rfl) ?_
        refine aM rfl rfl (aA rfl) rfl c49 (aD (v := .d (.lit (.int .i64 p_2_13))) (aA rfl) rfl rfl) ?_
        refine aM rfl rfl (aA rfl) rfl c49 (bT (aA rfl) rfl rfl rfl) ?_
        refine aM rfl rfl (aA rfl) rfl c49 (bT (aA rfl) rfl rfl rfl) ?_
        obtain ⟨x50, h51, h39⟩ := bind_some h39
        refine aM rfl rfl (aA rfl) rfl c49 (bJ (aA rfl) rfl rfl cT.of (bP aP h51)) ?_
        refine aM rfl rfl (aA rfl) rfl c49 (bZ (aA rfl) rfl bL) ?_
        refine aM rfl rfl (aA rfl) rfl c49 (bR (aA rfl) rfl rfl rfl) ?_
        refine tr1 rfl (cC (v := .d (.lit (.bool ((decide (x50 = (-1))))))) (aA rfl) rfl c49 rfl rfl) ?_
        have h39 := Option.some.inj h39
        subst h39
        refine aG (bM rfl ⟨rfl, rfl, rfl, rfl, rfl, rfl, rfl, rfl, rfl, trivial⟩ rfl)
       ·have h39 := aY c49 h39
        refine aO rfl rfl (aA rfl) rfl (aA rfl) rfl c49 ?_
        refine aO rfl rfl (aA rfl) rfl (aA rfl) rfl c49 ?_
        refine aO rfl rfl (aA rfl) rfl (aA rfl) rfl c49 ?_
        refine aO rfl rfl (aA rfl) rfl (aA rfl) rfl c49 ?_
        refine aO rfl rfl (aA rfl) rfl (aA rfl) rfl c49 ?_
        refine aO rfl rfl (aA rfl) rfl (aA rfl) rfl c49 ?_
        refine aO rfl rfl (aA rfl) rfl (aA rfl) rfl c49 ?_
        refine tr1 rfl (cB (v := .d (.lit (.bool false))) (aA rfl) rfl c49 rfl rfl) ?_
        have h39 := Option.some.inj h39
        subst h39
        refine aG (bM rfl ⟨rfl, rfl, rfl, rfl, rfl, rfl, rfl, rfl, rfl, trivial⟩ rfl)
      ·refine aG ?_
       refine cA rfl (fun c40 => ?_) (fun c40 => ?_)
       ·have h := aX c40 h
        refine aC ?_
        refine tr1 rfl (aD (v := .d (.sl 1 (r3.1.map aP))) (aA rfl) rfl rfl) ?_
        refine tr1 rfl (aD (v := .d (.lit (.int .i64 p_2_13))) (aA rfl) rfl rfl) ?_
        refine tr1 rfl (bT (aA rfl) rfl rfl rfl) ?_
        obtain ⟨x41, h42, h⟩ := bind_some h
        refine tr1 rfl (bJ (aA rfl) rfl rfl cT.of (bP aP h42)) ?_
        refine tr1 rfl (bZ (aA rfl) rfl bL) ?_
        refine tr1 rfl (aH (v := .d (.lit (.int .i64 x41))) (aA rfl) rfl rfl) ?_
        refine aG ?_
        refine aC ?_
        refine tr1 rfl (aD (v := .d (.lit w14)) (aA rfl) rfl rfl) ?_
        refine tr1 rfl (aD (v := .d (.lit (.int .i64 x41))) (aA rfl) rfl rfl) ?_
        refine tr1 rfl (eW (aA rfl) cT rfl rfl (rows := ([x41]).map aP) rfl (dD (f := aP) fun _ => rfl) rfl (by decide)) ?_
        obtain ⟨x43, h44, h⟩ := bind_some h
        refine cE rfl (fC (i := 5) (aA rfl) cT rfl rfl rfl (fun _ => rfl) h44 rfl) ?_
        rintro _ ⟨v45, rfl⟩
        refine tr1 rfl (aH (v := .d (.lit v45)) (aA rfl) rfl rfl) ?_
        refine fB ?_
        refine aC ?_
        refine tr1 rfl (aD (v := .d (.lit (.int .i64 p_2_13))) (aA rfl) rfl rfl) ?_
        refine tr1 rfl (bT (aA rfl) rfl rfl rfl) ?_
        refine tr1 rfl (aH (v := .d (.lit (.int .i64 ((w64 (p_2_13 + 1)))))) (aA rfl) rfl rfl) ?_
        refine aG ?_
        exact ⟨(w64 (p_2_13 + 1), x43, v45), h, bE [0, 1, 2, 3, 4, 5] rfl rfl (aU rfl (aU rfl (bC ⟨rfl, rfl, rfl, rfl, rfl, rfl, trivial⟩)))⟩
       ·have h := aY c40 h
        refine bX ?_
        refine aC ?_
        refine tr1 rfl (aD (v := .d (.lit w14)) (aA rfl) rfl rfl) ?_
        refine tr1 rfl (aD (v := .d (.lit (.int .i64 (-2)))) (aA rfl) rfl rfl) ?_
        refine tr1 rfl (eW (aA rfl) cT rfl rfl (rows := ([(-2)]).map aP) rfl (dD (f := aP) fun _ => rfl) rfl (by decide)) ?_
        obtain ⟨x46, h47, h⟩ := bind_some h
        refine cE rfl (fC (i := 5) (aA rfl) cT rfl rfl rfl (fun _ => rfl) h47 rfl) ?_
        rintro _ ⟨v48, rfl⟩
        refine tr1 rfl (aH (v := .d (.lit v48)) (aA rfl) rfl rfl) ?_
        refine fB ?_
        refine aC ?_
        refine tr1 rfl (aD (v := .d (.lit (.int .i64 p_2_13))) (aA rfl) rfl rfl) ?_
        refine tr1 rfl (bT (aA rfl) rfl rfl rfl) ?_
        refine tr1 rfl (aH (v := .d (.lit (.int .i64 ((w64 (p_2_13 + 1)))))) (aA rfl) rfl rfl) ?_
        refine aG ?_
        exact ⟨(w64 (p_2_13 + 1), x46, v48), h, bE [0, 1, 2, 3, 4, 5] rfl rfl (aU rfl (aU rfl (bC ⟨rfl, rfl, rfl, rfl, rfl, rfl, trivial⟩)))⟩
   ·have h := aY c18 h
    refine dA ?_
    refine .inl ⟨rfl, ?_⟩
    simp only [kD] at h
    refine aC ?_
    refine tr1 rfl (aN (aA rfl) rfl nM) ?_
    refine tr1 rfl (aR (aA rfl) rfl (i := 4) rfl rfl rQ) ?_
    refine tr1 rfl (aD (v := .d (.lit w14)) (aA rfl) rfl rfl) ?_
    refine tr1 rfl (eW (aA rfl) sO rfl rfl (rows := [[.lit w14]]) rfl (fun r hr => by cases hr with | head => rfl | tail _ h => cases h) rfl (by decide)) ?_
    obtain ⟨x55, h56, h⟩ := bind_some h
    refine cE rfl (aHx (m := 3) (f := 2) (aA rfl) sO rfl rfl rfl rfl h56 rfl) ?_
    rintro _ ⟨v57, rfl⟩
    refine kH (aIk (i := 2) [.box b1 0 (bG t_0), .box b2 0 (cP (bB.mk ([] : List Int) ([] : List (List Int)))), .fam 3 1 vs8 (d_0_7.map fun r => r.map aP), .arr v57 27 1 ((vs8 ++ [w14]).map fun v => [.lit v]), .box b6 0 [.sl 1 (d_0_7_2.map aP), .lit w9]] [.box b1 0 (bG t_0), .box b2 0 (cP (bB.mk ([] : List Int) ([] : List (List Int)))), .fam 3 1 (vs8 ++ [w14]) (x55.map fun r => r.map aP), .arr v57 27 1 ((vs8 ++ [w14]).map fun v => [.lit v]), .box b6 0 [.sl 1 (d_0_7_2.map aP), .lit w9]] rfl rfl h56 rfl) ?_
    refine tr1 rfl (aN (aA rfl) rfl nM) ?_
    refine tr1 rfl (cM (i := 4) rfl rfl rfl rfl rfl Try.sizeOf142 rfl (aA rfl) (Nat.le_of_ble_eq_true rfl) (ds' := [.sl 1 (d_0_7_2.map aP), .lit v57]) rfl) ?_
    refine fB ?_
    simp only [pY] at h
    refine aC ?_
    refine tr1 rfl (aD (v := .d (.lit (.int .i64 r_0_7))) (aA rfl) rfl rfl) ?_
    refine tr1 rfl (bT (aA rfl) rfl rfl rfl) ?_
    refine tr1 rfl (aH (v := .d (.lit (.int .i64 ((w64 (r_0_7 + 1)))))) (aA rfl) rfl rfl) ?_
    refine aG ?_
    exact ⟨(w64 (r_0_7 + 1), x55, d_0_7_2, (vs8 ++ [w14]), v57), h, bE [0, 1, 2, 3, 4] rfl rfl (aU rfl (bC ⟨rfl, rfl, rfl, rfl, rfl, trivial⟩))⟩
  ·have h := aY c11 h
   refine dA ?_
   refine .inl ⟨rfl, ?_⟩
   simp only [kC] at h
   refine aF ?_
   refine aC ?_
   refine tr1 rfl (aD (v := .d (.sl 5 (l_1.map aS))) (aA rfl) rfl rfl) ?_
   obtain ⟨r58, h59, h⟩ := bind_some h
   refine tr1 rfl (fT (aA rfl) (.func _ _ Try.call118) rfl rfl (uL _ h59)) ?_
   refine tr1 rfl (aH (v := .d (.sl 5 (r58.map aS))) (aA rfl) rfl rfl) ?_
   refine aG ?_
   refine aF ?_
   refine aF ?_
   refine aC ?_
   refine tr1 rfl (aH (v := .d (.lit (.int .i64 0))) (aA rfl) rfl rfl) ?_
   refine aG ?_
   refine cO ?_
   refine dG [4, 6, 8, 13] (fun (s60 : Int × bB × (List (List Int)) × (List Value)) => [(14, .d (.lit (.int .i64 s60.1)))]) (fun (s60 : Int × bB × (List (List Int)) × (List Value)) => [.box b2 0 (cP s60.2.1), .fam 3 1 s60.2.2.2 (s60.2.2.1.map fun r => r.map aP), .arr w9 27 1 (s60.2.2.2.map fun v => [.lit v]), .box b6 0 [.sl 1 (d_0_7_2.map aP), .lit w9]]) (fun (k : Nat) (s60 : Int × bB × (List (List Int)) × (List Value)) => eB r3.1 r58 d_0_7_2 k s60.1 s60.2.1 s60.2.2.1) (fun _ => rfl) (0, (bB.mk ([] : List Int) ([] : List (List Int))), d_0_7, vs8) h (bE [1, 2, 3, 4] rfl rfl (aU rfl (bC ⟨rfl, rfl, rfl, rfl, trivial⟩))) ?_
   rintro k62 ⟨i_4_60, o4_4_60, d_4_60, vs61⟩ h
   simp only [eB] at h
   refine aF ?_
   refine aF ?_
   refine aC ?_
   refine tr1 rfl (aD (v := .d (.lit (.int .i64 i_4_60))) (aA rfl) rfl rfl) ?_
   refine tr1 rfl (aD (v := .d (.sl 5 (r58.map aS))) (aA rfl) rfl rfl) ?_
   refine tr1 rfl (dC (aA rfl) rfl iW.of) ?_
   refine tr1 rfl (bR (aA rfl) rfl rfl rfl) ?_
   refine aG ?_
   refine cA rfl (fun c63 => ?_) (fun c63 => ?_)
   ·have h := aX c63 h
    refine bX ?_
    refine aF ?_
    refine cO ?_
    refine aF ?_
    refine aC ?_
    refine tr1 rfl (aD (v := .d (.sl 5 (r58.map aS))) (aA rfl) rfl rfl) ?_
    refine tr1 rfl (aD (v := .d (.lit (.int .i64 i_4_60))) (aA rfl) rfl rfl) ?_
    obtain ⟨x64, h65, h⟩ := bind_some h
    refine tr1 rfl (bJ (aA rfl) rfl rfl iW.of (bP aS h65)) ?_
    refine tr1 rfl (dB (aA rfl) rfl jM (es := (aS x64)) rfl rfl) ?_
    refine cE rfl (dM (zs := [.lit (.int .i64 0), .lit (.int .i64 0), .lit (.int .i64 0), .lit (.int .i64 0), .lit (.int .i64 0)]) (aA rfl) Try.zeroValue141 rfl rfl) ?_
    rintro _ ⟨b66, rfl⟩
    refine tr1 rfl (cM (i := 4) rfl rfl rfl rfl rfl Try.sizeOf141 rfl (aA rfl) (Nat.le_of_ble_eq_true rfl) (ds' := (aS x64)) rfl) ?_
    refine aG ?_
    refine aF ?_
    refine aF ?_
    refine aC ?_
    refine tr1 rfl (aN (aA rfl) rfl nL) ?_
    refine tr1 rfl (aR (aA rfl) rfl (i := 4) rfl rfl bL) ?_
    refine tr1 rfl (bR (aA rfl) rfl rfl rfl) ?_
    refine aG ?_
    refine cA rfl (fun c67 => ?_) (fun c67 => ?_)
    ·have h := aX c67 h
     refine dA ?_
     refine .inl ⟨rfl, ?_⟩
     simp only [kE] at h
     refine aC ?_
     refine tr1 rfl (aD (v := .d (.lit (.int .i64 i_4_60))) (aA rfl) rfl rfl) ?_
     refine tr1 rfl (bT (aA rfl) rfl rfl rfl) ?_
     refine tr1 rfl (aH (v := .d (.lit (.int .i64 ((w64 (i_4_60 + 1)))))) (aA rfl) rfl rfl) ?_
     refine aG ?_
     exact ⟨(w64 (i_4_60 + 1), o4_4_60, d_4_60, vs61), h, bE [0, 1, 2, 3] rfl rfl (aU rfl (bC ⟨rfl, rfl, rfl, rfl, trivial⟩))⟩
    ·have h := aY c67 h
     refine bX ?_
     refine aF ?_
     refine aF ?_
     refine aC ?_
     refine tr1 rfl (aH (v := .d (.lit (.int .i64 0))) (aA rfl) rfl rfl) ?_
     refine aG ?_
     refine cO ?_
     refine dG [4, 6, 8, 13, 14, 15] (fun (s68 : Int × bB) => [(16, .d (.lit (.int .i64 s68.1)))]) (fun (s68 : Int × bB) => [.box b2 0 (cP s68.2), .fam 3 1 vs61 (d_4_60.map fun r => r.map aP), .arr w9 27 1 (vs61.map fun v => [.lit v]), .box b6 0 [.sl 1 (d_0_7_2.map aP), .lit w9], .box b66 0 (aS x64)]) (fun (k : Nat) (s68 : Int × bB) => gY (eB r3.1 r58 d_0_7_2 k62) r3.1 r58 i_4_60 d_4_60 d_0_7_2 x64 k s68.1 s68.2) (fun _ => rfl) (0, o4_4_60) h (bE [0, 1, 2, 3, 4] rfl rfl (aU rfl (bC ⟨rfl, rfl, rfl, rfl, rfl, rfl, trivial⟩))) ?_
     rintro k69 ⟨k_6_68, o4_6_68⟩ h
     simp only [gY] at h
     refine aF ?_
     refine aF ?_
     refine aC ?_
     refine tr1 rfl (aD (v := .d (.lit (.int .i64 k_6_68))) (aA rfl) rfl rfl) ?_
     refine tr1 rfl (aD (v := .d (.lit (.int .i64 i_4_60))) (aA rfl) rfl rfl) ?_
     refine tr1 rfl (bR (aA rfl) rfl rfl rfl) ?_
     refine aG ?_
     refine cA rfl (fun c70 => ?_) (fun c70 => ?_)
     ·have h := aX c70 h
      refine bX ?_
      refine aF ?_
      refine cO ?_
      refine aF ?_
      refine aC ?_
      refine tr1 rfl (aD (v := .d (.sl 5 (r58.map aS))) (aA rfl) rfl rfl) ?_
      refine tr1 rfl (aD (v := .d (.lit (.int .i64 k_6_68))) (aA rfl) rfl rfl) ?_
      obtain ⟨x71, h72, h⟩ := bind_some h
      refine tr1 rfl (bJ (aA rfl) rfl rfl iW.of (bP aS h72)) ?_
      refine tr1 rfl (dB (aA rfl) rfl jM (es := (aS x71)) rfl rfl) ?_
      refine cE rfl (dM (zs := [.lit (.int .i64 0), .lit (.int .i64 0), .lit (.int .i64 0), .lit (.int .i64 0), .lit (.int .i64 0)]) (aA rfl) Try.zeroValue141 rfl rfl) ?_
      rintro _ ⟨b73, rfl⟩
      refine tr1 rfl (cM (i := 5) rfl rfl rfl rfl rfl Try.sizeOf141 rfl (aA rfl) (Nat.le_of_ble_eq_true rfl) (ds' := (aS x71)) rfl) ?_
      refine aG ?_
      refine aF ?_
      refine aC ?_
      refine tr1 rfl (aN (aA rfl) rfl nL) ?_
      refine tr1 rfl (aR (aA rfl) rfl (i := 5) rfl rfl bL) ?_
      refine tr1 rfl (bR (aA rfl) rfl rfl rfl) ?_
      refine tr1 rfl (aD (v := .d (.lit (.bool ((!decide (x71.Kind = 5)))))) (aA rfl) rfl rfl) ?_
      obtain ⟨b74, h75, h⟩ := bind_some h
      refine cS 6 [4, 6, 8, 13, 14, 15, 16, 17] 121 b74 ?_ ?_
      ·refine bY (!decide (x71.Kind = 5)) (fun c80 => ?_) (fun c80 => ?_)
       ·have h75 := aX c80 h75
        refine aM rfl rfl (aA rfl) rfl c80 (aN (aA rfl) rfl lO) ?_
        refine aM rfl rfl (aA rfl) rfl c80 (aR (aA rfl) rfl (i := 5) rfl rfl bL) ?_
        refine aM rfl rfl (aA rfl) rfl c80 (aN (aA rfl) rfl lO) ?_
        refine aM rfl rfl (aA rfl) rfl c80 (aR (aA rfl) rfl (i := 4) rfl rfl bL) ?_
        refine aM rfl rfl (aA rfl) rfl c80 (bR (aA rfl) rfl rfl rfl) ?_
        refine tr1 rfl (cC (v := .d (.lit (.bool ((decide (x71.Round = x64.Round)))))) (aA rfl) rfl c80 rfl rfl) ?_
        have h75 := Option.some.inj h75
        subst h75
        refine aG (bM rfl ⟨rfl, rfl, rfl, rfl, rfl, rfl, rfl, rfl, trivial⟩ rfl)
       ·have h75 := aY c80 h75
        refine aO rfl rfl (aA rfl) rfl (aA rfl) rfl c80 ?_
        refine aO rfl rfl (aA rfl) rfl (aA rfl) rfl c80 ?_
        refine aO rfl rfl (aA rfl) rfl (aA rfl) rfl c80 ?_
        refine aO rfl rfl (aA rfl) rfl (aA rfl) rfl c80 ?_
        refine aO rfl rfl (aA rfl) rfl (aA rfl) rfl c80 ?_
        refine tr1 rfl (cB (v := .d (.lit (.bool false))) (aA rfl) rfl c80 rfl rfl) ?_
        have h75 := Option.some.inj h75
        subst h75
        refine aG (bM rfl ⟨rfl, rfl, rfl, rfl, rfl, rfl, rfl, rfl, trivial⟩ rfl)
      ·refine tr1 rfl (aD (v := .d (.lit (.bool b74))) (aA rfl) rfl rfl) ?_
       obtain ⟨b76, h77, h⟩ := bind_some h
       refine cS 6 [4, 6, 8, 13, 14, 15, 16] 128 b76 ?_ ?_
       ·refine bY (b74) (fun c79 => ?_) (fun c79 => ?_)
        ·have h77 := aX c79 h77
         refine aM rfl rfl (aA rfl) rfl c79 (aN (aA rfl) rfl jA) ?_
         refine aM rfl rfl (aA rfl) rfl c79 (aR (aA rfl) rfl (i := 5) rfl rfl bL) ?_
         refine aM rfl rfl (aA rfl) rfl c79 (aN (aA rfl) rfl jA) ?_
         refine aM rfl rfl (aA rfl) rfl c79 (aR (aA rfl) rfl (i := 4) rfl rfl bL) ?_
         refine aM rfl rfl (aA rfl) rfl c79 (bR (aA rfl) rfl rfl rfl) ?_
         refine tr1 rfl (cC (v := .d (.lit (.bool ((decide (x71.Place = x64.Place)))))) (aA rfl) rfl c79 rfl rfl) ?_
         have h77 := Option.some.inj h77
         subst h77
         refine aG (bM rfl ⟨rfl, rfl, rfl, rfl, rfl, rfl, rfl, trivial⟩ rfl)
        ·have h77 := aY c79 h77
         refine aO rfl rfl (aA rfl) rfl (aA rfl) rfl c79 ?_
         refine aO rfl rfl (aA rfl) rfl (aA rfl) rfl c79 ?_
         refine aO rfl rfl (aA rfl) rfl (aA rfl) rfl c79 ?_
         refine aO rfl rfl (aA rfl) rfl (aA rfl) rfl c79 ?_
         refine aO rfl rfl (aA rfl) rfl (aA rfl) rfl c79 ?_
         refine tr1 rfl (cB (v := .d (.lit (.bool false))) (aA rfl) rfl c79 rfl rfl) ?_
         have h77 := Option.some.inj h77
         subst h77
         refine aG (bM rfl ⟨rfl, rfl, rfl, rfl, rfl, rfl, rfl, trivial⟩ rfl)
       ·refine aG ?_
        refine cA rfl (fun c78 => ?_) (fun c78 => ?_)
        ·have h := aX c78 h
         refine aF ?_
         refine aC ?_
         refine tr1 rfl (eA (aA rfl) xX (zs := [.sl 1 ((([] : List Int)).map aP), .sl 1 ((([] : List (List Int))).map jR)]) rfl rfl rfl rfl (es := [.sl 1 ((([] : List Int)).map aP), .sl 1 ((([] : List (List Int))).map jR)]) rfl) ?_
         refine tr1 rfl (cM (i := 0) rfl rfl rfl rfl rfl Try.sizeOf144 rfl (aA rfl) (Nat.le_of_ble_eq_true rfl) (ds' := (cP (bB.mk ([] : List Int) ([] : List (List Int))))) rfl) ?_
         refine tr1 rfl (aH (v := .d (.lit (.bool false))) (aA rfl) rfl rfl) ?_
         refine aG ?_
         have h := Option.some.inj h
         subst h
         exact bU ⟨rfl, _, [.box b2 0 (cP (bB.mk ([] : List Int) ([] : List (List Int)))), .fam 3 1 vs61 (d_4_60.map fun r => r.map aP), .arr w9 27 1 (vs61.map fun v => [.lit v]), .box b6 0 [.sl 1 (d_0_7_2.map aP), .lit w9], .box b66 0 (aS x64), .box b73 0 (aS x71)], .two (.cell 4 144 rfl (i := 0) rfl qK (es := (cP (bB.mk ([] : List Int) ([] : List (List Int))))) rfl rfl) (.tmp 5 (v := .d (.lit (.bool false))) rfl), .refl _, .same _⟩
        ·have h := aY c78 h
         refine dY ?_
         refine aC ?_
         refine tr1 rfl (aD (v := .d (.lit (.int .i64 k_6_68))) (aA rfl) rfl rfl) ?_
         refine tr1 rfl (bT (aA rfl) rfl rfl rfl) ?_
         refine tr1 rfl (aH (v := .d (.lit (.int .i64 ((w64 (k_6_68 + 1)))))) (aA rfl) rfl rfl) ?_
         refine aG ?_
         exact ⟨(w64 (k_6_68 + 1), o4_6_68), h, bE [0, 1, 2, 3, 4] rfl rfl (aU rfl (bC ⟨rfl, rfl, rfl, rfl, rfl, rfl, trivial⟩))⟩
     ·have h := aY c70 h
      refine dA ?_
      refine .inl ⟨rfl, ?_⟩
      simp only [nH] at h
      refine aF ?_
      refine aC ?_
      refine tr1 rfl (aH (v := .d (.lit (.int .i64 (-1)))) (aA rfl) rfl rfl) ?_
      refine aG ?_
      refine aF ?_
      refine aF ?_
      refine aC ?_
      refine tr1 rfl (aH (v := .d (.lit (.int .i64 0))) (aA rfl) rfl rfl) ?_
      refine aG ?_
      refine cO ?_
      refine dG [4, 6, 8, 13, 14, 15] (fun (s81 : Int × Int) => [(18, .d (.lit (.int .i64 s81.1))), (19, .d (.lit (.int .i64 s81.2)))]) (fun (s81 : Int × Int) => [.box b2 0 (cP o4_6_68), .fam 3 1 vs61 (d_4_60.map fun r => r.map aP), .arr w9 27 1 (vs61.map fun v => [.lit v]), .box b6 0 [.sl 1 (d_0_7_2.map aP), .lit w9], .box b66 0 (aS x64)]) (fun (k : Nat) (s81 : Int × Int) => eL (eB r3.1 r58 d_0_7_2 k62) r3.1 r58 i_4_60 o4_6_68 d_4_60 d_0_7_2 x64 k s81.1 s81.2) (fun _ => rfl) ((-1), 0) h (bE [0, 1, 2, 3, 4] rfl rfl (aU rfl (aU rfl (bC ⟨rfl, rfl, rfl, rfl, rfl, rfl, trivial⟩)))) ?_
      rintro k82 ⟨atv_8_81, s_8_81⟩ h
      simp only [eL] at h
      refine aF ?_
      refine aF ?_
      refine aC ?_
      refine tr1 rfl (aD (v := .d (.lit (.int .i64 s_8_81))) (aA rfl) rfl rfl) ?_
      refine tr1 rfl (aD (v := .d (.sl 1 (r3.1.map aP))) (aA rfl) rfl rfl) ?_
      refine tr1 rfl (dC (aA rfl) rfl cT.of) ?_
      refine tr1 rfl (bR (aA rfl) rfl rfl rfl) ?_
      refine aG ?_
      refine cA rfl (fun c83 => ?_) (fun c83 => ?_)
      ·have h := aX c83 h
       refine bX ?_
       refine aF ?_
       refine cO ?_
       refine aF ?_
       obtain ⟨x84, h85, h⟩ := bind_some h
       refine eD mix 6 [4, 6, 8, 13, 14, 15, 18, 19] [(139, .d (.lit (.int .i64 x84))), (141, .d (.lit (.int .i64 x64.Player)))] ?_ ?_
       ·refine ⟨[(136, 0, .d (.sl 1 (r3.1.map aP))), (137, 1, .d (.lit (.int .i64 s_8_81))), (138, 2, .cp [.lit (.int .i64 x84)]), (139, 3, .d (.lit (.int .i64 x84))), (140, 4, .bp b66 0 3), (141, 5, .d (.lit (.int .i64 x64.Player)))], ?_, ?_⟩
        · exact ⟨by kernel_rfl, by kernel_rfl, by kernel_rfl, by kernel_rfl, by kernel_rfl, [([], []), ([], []), ([0, 1], []), ([2], []), ([], []), ([4], [])], by kernel_rfl, ⟨fun S hS => aE rfl (aJ rfl (aD (v := .d (.sl 1 (r3.1.map aP))) (aA rfl) (aB hS rfl) rfl)),
      fun S hS => aE rfl (aJ rfl (aD (v := .d (.lit (.int .i64 s_8_81))) (aA rfl) (aB hS rfl) rfl)),
      fun S hS => aE rfl (aJ rfl (bJ (aA rfl) (aB hS rfl) (aB hS rfl) cT.of (bP aP h85))),
      fun S hS => aE rfl (aJ rfl (bZ (aA rfl) (aB hS rfl) bL)),
      fun S hS => aE rfl (aJ rfl (aN (aA rfl) (aB hS rfl) mG)),
      fun S hS => aE rfl (aJ rfl (aR (aA rfl) (aB hS rfl) (i := 4) rfl rfl bL)), trivial⟩⟩
        · exact dE (aU rfl (aU rfl (bC ⟨rfl, rfl, rfl, rfl, rfl, rfl, rfl, rfl, trivial⟩)))
       ·refine tr1 rfl (bR (aA rfl) rfl rfl rfl) ?_
        refine aG ?_
        refine cA rfl (fun c86 => ?_) (fun c86 => ?_)
        ·have h := aX c86 h
         refine aC ?_
         refine tr1 rfl (aD (v := .d (.lit (.int .i64 s_8_81))) (aA rfl) rfl rfl) ?_
         refine tr1 rfl (aH (v := .d (.lit (.int .i64 s_8_81))) (aA rfl) rfl rfl) ?_
         refine fB ?_
         refine aC ?_
         refine tr1 rfl (aD (v := .d (.lit (.int .i64 s_8_81))) (aA rfl) rfl rfl) ?_
         refine tr1 rfl (bT (aA rfl) rfl rfl rfl) ?_
         refine tr1 rfl (aH (v := .d (.lit (.int .i64 ((w64 (s_8_81 + 1)))))) (aA rfl) rfl rfl) ?_
         refine aG ?_
         exact ⟨(s_8_81, w64 (s_8_81 + 1)), h, bE [0, 1, 2, 3, 4] rfl rfl (aU rfl (aU rfl (bC ⟨rfl, rfl, rfl, rfl, rfl, rfl, trivial⟩)))⟩
        ·have h := aY c86 h
         refine dY ?_
         refine aC ?_
         refine tr1 rfl (aD (v := .d (.lit (.int .i64 s_8_81))) (aA rfl) rfl rfl) ?_
         refine tr1 rfl (bT (aA rfl) rfl rfl rfl) ?_
         refine tr1 rfl (aH (v := .d (.lit (.int .i64 ((w64 (s_8_81 + 1)))))) (aA rfl) rfl rfl) ?_
         refine aG ?_
         exact ⟨(atv_8_81, w64 (s_8_81 + 1)), h, bE [0, 1, 2, 3, 4] rfl rfl (aU rfl (aU rfl (bC ⟨rfl, rfl, rfl, rfl, rfl, rfl, trivial⟩)))⟩
      ·have h := aY c83 h
       refine dA ?_
       refine .inl ⟨rfl, ?_⟩
       simp only [gX] at h
       refine aF ?_
       refine aF ?_
       refine aC ?_
       refine tr1 rfl (aD (v := .d (.lit (.int .i64 atv_8_81))) (aA rfl) rfl rfl) ?_
       refine tr1 rfl (bR (aA rfl) rfl rfl rfl) ?_
       refine tr1 rfl (aD (v := .d (.lit (.bool ((decide (atv_8_81 < 0)))))) (aA rfl) rfl rfl) ?_
       obtain ⟨b87, h88, h⟩ := bind_some h
       refine cS 10 [4, 6, 8, 13, 14, 15, 18] 156 b87 ?_ ?_
       ·refine bY (decide (atv_8_81 < 0)) (fun c112 => ?_) (fun c112 => ?_)
        ·have h88 := aX c112 h88
         refine aO rfl rfl (aA rfl) rfl (aA rfl) rfl c112 ?_
         refine aO rfl rfl (aA rfl) rfl (aA rfl) rfl c112 ?_
         refine aO rfl rfl (aA rfl) rfl (aA rfl) rfl c112 ?_
         refine aO rfl rfl (aA rfl) rfl (aA rfl) rfl c112 ?_
         refine aO rfl rfl (aA rfl) rfl (aA rfl) rfl c112 ?_
         refine aO rfl rfl (aA rfl) rfl (aA rfl) rfl c112 ?_
         refine aO rfl rfl (aA rfl) rfl (aA rfl) rfl c112 ?_
         refine aO rfl rfl (aA rfl) rfl (aA rfl) rfl c112 ?_
         refine aO rfl rfl (aA rfl) rfl (aA rfl) rfl c112 ?_
         refine tr1 rfl (cC (v := .d (.lit (.bool true))) (aA rfl) rfl c112 rfl rfl) ?_
         have h88 := Option.some.inj h88
         subst h88
         refine aG (bM rfl ⟨rfl, rfl, rfl, rfl, rfl, rfl, rfl, trivial⟩ rfl)
        ·have h88 := aY c112 h88
         refine aM rfl rfl (aA rfl) rfl c112 (aD (v := .d (.lit (.int .i64 atv_8_81))) (aA rfl) rfl rfl) ?_
         refine aM rfl rfl (aA rfl) rfl c112 (aN (aA rfl) rfl lO) ?_
         refine aM rfl rfl (aA rfl) rfl c112 (aR (aA rfl) rfl (i := 4) rfl rfl bL) ?_
         refine aM rfl rfl (aA rfl) rfl c112 (bT (aA rfl) rfl rfl rfl) ?_
         refine aM rfl rfl (aA rfl) rfl c112 (aEq (aA rfl) rfl Try.runUnderlying3 Try.runUnderlying166) ?_
         obtain ⟨u113, h114, h88⟩ := bind_some h88
         refine aM rfl rfl (aA rfl) rfl c112 (aBz (aA rfl) rfl rfl (rB h114)) ?_
         refine aM rfl rfl (aA rfl) rfl c112 (aN (aA rfl) rfl jA) ?_
         refine aM rfl rfl (aA rfl) rfl c112 (aR (aA rfl) rfl (i := 4) rfl rfl bL) ?_
         refine aM rfl rfl (aA rfl) rfl c112 (bR (aA rfl) rfl rfl rfl) ?_
         refine tr1 rfl (cB (v := .d (.lit (.bool ((!decide ((atv_8_81.fdiv (2 ^ (min (IntKind.u64.wrap (w64 (x64.Round + 1))).toNat 64))) = x64.Place)))))) (aA rfl) rfl c112 rfl rfl) ?_
         have h88 := Option.some.inj h88
         subst h88
         refine aG (bM rfl ⟨rfl, rfl, rfl, rfl, rfl, rfl, rfl, trivial⟩ rfl)
       ·refine aG ?_
        refine cA rfl (fun c89 => ?_) (fun c89 => ?_)
        ·have h := aX c89 h
         refine aF ?_
         refine aC ?_
         refine tr1 rfl (eA (aA rfl) xX (zs := [.sl 1 ((([] : List Int)).map aP), .sl 1 ((([] : List (List Int))).map jR)]) rfl rfl rfl rfl (es := [.sl 1 ((([] : List Int)).map aP), .sl 1 ((([] : List (List Int))).map jR)]) rfl) ?_
         refine tr1 rfl (cM (i := 0) rfl rfl rfl rfl rfl Try.sizeOf144 rfl (aA rfl) (Nat.le_of_ble_eq_true rfl) (ds' := (cP (bB.mk ([] : List Int) ([] : List (List Int))))) rfl) ?_
         refine tr1 rfl (aH (v := .d (.lit (.bool false))) (aA rfl) rfl rfl) ?_
         refine aG ?_
         have h := Option.some.inj h
         subst h
         exact bU ⟨rfl, _, [.box b2 0 (cP (bB.mk ([] : List Int) ([] : List (List Int)))), .fam 3 1 vs61 (d_4_60.map fun r => r.map aP), .arr w9 27 1 (vs61.map fun v => [.lit v]), .box b6 0 [.sl 1 (d_0_7_2.map aP), .lit w9], .box b66 0 (aS x64)], .two (.cell 4 144 rfl (i := 0) rfl qK (es := (cP (bB.mk ([] : List Int) ([] : List (List Int))))) rfl rfl) (.tmp 5 (v := .d (.lit (.bool false))) rfl), .refl _, .same _⟩
        ·have h := aY c89 h
         refine bX ?_
         refine aF ?_
         refine aC ?_
         refine tr1 rfl (aH (v := .d (.lit (.int .i64 0))) (aA rfl) rfl rfl) ?_
         refine aG ?_
         refine rS ?_
         refine dG [4, 6, 8, 13, 14, 15, 18] (fun (s90 : Int × bB × (List (List Int)) × (List Value)) => [(20, .d (.lit (.int .i64 s90.1)))]) (fun (s90 : Int × bB × (List (List Int)) × (List Value)) => [.box b2 0 (cP s90.2.1), .fam 3 1 s90.2.2.2 (s90.2.2.1.map fun r => r.map aP), .arr w9 27 1 (s90.2.2.2.map fun v => [.lit v]), .box b6 0 [.sl 1 (d_0_7_2.map aP), .lit w9], .box b66 0 (aS x64)]) (fun (k : Nat) (s90 : Int × bB × (List (List Int)) × (List Value)) => gK (eB r3.1 r58 d_0_7_2 k62) r3.1 r58 i_4_60 atv_8_81 d_0_7_2 x64 k s90.1 s90.2.1 s90.2.2.1) (fun _ => rfl) (0, o4_6_68, d_4_60, vs61) h (bE [0, 1, 2, 3, 4] rfl rfl (aU rfl (bC ⟨rfl, rfl, rfl, rfl, rfl, rfl, rfl, trivial⟩))) ?_
         rintro k92 ⟨r_10_90, o4_10_90, d_10_90, vs91⟩ h
         simp only [gK] at h
         refine aF ?_
         refine aF ?_
         refine aC ?_
         refine tr1 rfl (aD (v := .d (.lit (.int .i64 r_10_90))) (aA rfl) rfl rfl) ?_
         refine tr1 rfl (aN (aA rfl) rfl lO) ?_
         refine tr1 rfl (aR (aA rfl) rfl (i := 4) rfl rfl bL) ?_
         refine tr1 rfl (bR (aA rfl) rfl rfl rfl) ?_
         refine aG ?_
         refine cA rfl (fun c93 => ?_) (fun c93 => ?_)
         ·have h := aX c93 h
          refine bX ?_
          refine aF ?_
          refine cO ?_
          refine aF ?_
          refine aC ?_
          refine tr1 rfl (aD (v := .d (.lit (.int .i64 atv_8_81))) (aA rfl) rfl rfl) ?_
          refine tr1 rfl (aD (v := .d (.lit (.int .i64 r_10_90))) (aA rfl) rfl rfl) ?_
          refine tr1 rfl (bT (aA rfl) rfl rfl rfl) ?_
          refine tr1 rfl (aEq (aA rfl) rfl Try.runUnderlying3 Try.runUnderlying166) ?_
          obtain ⟨u94, h95, h⟩ := bind_some h
          refine tr1 rfl (aBz (aA rfl) rfl rfl (rB h95)) ?_
          refine tr1 rfl (aH (v := .d (.lit (.int .i64 ((atv_8_81.fdiv (2 ^ (min (IntKind.u64.wrap (w64 (r_10_90 + 1))).toNat 64))))))) (aA rfl) rfl rfl) ?_
          refine aG ?_
          refine aF ?_
          refine aF ?_
          obtain ⟨x96, h97, h⟩ := bind_some h
          obtain ⟨x98, h99, h⟩ := bind_some h
          obtain ⟨b100, h101, h⟩ := bind_some h
          refine eD mix 22 [4, 6, 8, 13, 14, 15, 18, 20, 21] [(190, .d (.lit (.bool b100)))] ?_ ?_
          ·refine bY (!decide (x98 = (-2))) (fun c102 => ?_) (fun c102 => ?_)
           ·have h101 := aX c102 h101
            obtain ⟨x103, h104, h101⟩ := bind_some h101
            obtain ⟨x105, h106, h101⟩ := bind_some h101
            have h101 := Option.some.inj h101
            subst h101
            refine ⟨[(169, 0, .bp b6 0 1), (170, 1, .d (.lit w9)), (171, 2, .d (.lit (.int .i64 r_10_90))), (172, 3, .ep w9 1 r_10_90.toNat 0), (173, 4, .d (.lit (rI vs91 r_10_90))), (174, 5, .d (.lit (.int .i64 ((atv_8_81.fdiv (2 ^ (min (IntKind.u64.wrap (w64 (r_10_90 + 1))).toNat 64))))))), (175, 6, .ep (rI vs91 r_10_90) 1 (atv_8_81.fdiv (2 ^ (min (IntKind.u64.wrap (w64 (r_10_90 + 1))).toNat 64))).toNat 0), (176, 7, .d (.lit (.int .i64 x98))), (177, 8, .d (.lit (.bool ((!decide (x98 = (-2))))))), (178, 9, .d (.lit (.bool ((!decide (x98 = (-2))))))), (179, 10, .bp b6 0 1), (180, 11, .d (.lit w9)), (181, 12, .d (.lit (.int .i64 r_10_90))), (182, 13, .ep w9 1 r_10_90.toNat 0), (183, 14, .d (.lit (rI vs91 r_10_90))), (184, 15, .d (.lit (.int .i64 ((atv_8_81.fdiv (2 ^ (min (IntKind.u64.wrap (w64 (r_10_90 + 1))).toNat 64))))))), (185, 16, .ep (rI vs91 r_10_90) 1 (atv_8_81.fdiv (2 ^ (min (IntKind.u64.wrap (w64 (r_10_90 + 1))).toNat 64))).toNat 0), (186, 17, .d (.lit (.int .i64 x105))), (187, 18, .bp b66 0 3), (188, 19, .d (.lit (.int .i64 x64.Player))), (189, 20, .d (.lit (.bool ((!decide (x105 = x64.Player)))))), (190, 21, .d (.lit (.bool ((!decide (x105 = x64.Player))))))], ?_, ?_⟩
            · exact ⟨by kernel_rfl, by kernel_rfl, by kernel_rfl, by kernel_rfl, by kernel_rfl, [([], []), ([0], []), ([], []), ([1, 2], []), ([3], []), ([], []), ([4, 5], []), ([6], []), ([7], []), ([8], []), ([9], []), ([9, 10], []), ([9], []), ([9, 11, 12], []), ([9, 13], []), ([9], []), ([9, 14, 15], []), ([9, 16], []), ([9], []), ([9, 18], []), ([9, 17, 19], []), ([9, 20], [])], by kernel_rfl, ⟨fun S hS => aE rfl (aJ rfl (aN (aA rfl) (aB hS rfl) nM)),
      fun S hS => aE rfl (aJ rfl (aR (aA rfl) (aB hS rfl) (i := 3) rfl rfl rQ)),
      fun S hS => aE rfl (aJ rfl (aD (v := .d (.lit (.int .i64 r_10_90))) (aA rfl) (aB hS rfl) rfl)),
      fun S hS => aE rfl (aJ rfl (sN (m := 2) (f := 1) (aA rfl) (aB hS rfl) rfl rfl (aB hS rfl) sO.of h97)),
      fun S hS => aE rfl (aJ rfl (tQ (m := 2) (f := 1) (aA rfl) (aB hS rfl) rfl rfl h97 dF)),
      fun S hS => aE rfl (aJ rfl (aD (v := .d (.lit (.int .i64 ((atv_8_81.fdiv (2 ^ (min (IntKind.u64.wrap (w64 (r_10_90 + 1))).toNat 64))))))) (aA rfl) (aB hS rfl) rfl)),
      fun S hS => aE rfl (aJ rfl (tP (f := 1) (g := aP) (aA rfl) (aB hS rfl) rfl h97 (aB hS rfl) cT.of h99)),
      fun S hS => aE rfl (aJ rfl (zC (f := 1) (g := aP) (aA rfl) (aB hS rfl) rfl h97 h99 rfl bL)),
      fun S hS => aE rfl (aJ rfl (bR (aA rfl) (aB hS rfl) rfl rfl)),
      fun S hS => aE rfl (aJ rfl (aD (v := .d (.lit (.bool ((!decide (x98 = (-2))))))) (aA rfl) (aB hS rfl) rfl)),
      fun S hS => aE rfl (bA rfl rfl (aA rfl) (aL hS rfl) c102 (aN (aA rfl) (aB hS rfl) nM)),
      fun S hS => aE rfl (bA rfl rfl (aA rfl) (aL hS rfl) c102 (aR (aA rfl) (aB hS rfl) (i := 3) rfl rfl rQ)),
      fun S hS => aE rfl (bA rfl rfl (aA rfl) (aL hS rfl) c102 (aD (v := .d (.lit (.int .i64 r_10_90))) (aA rfl) (aB hS rfl) rfl)),
      fun S hS => aE rfl (bA rfl rfl (aA rfl) (aL hS rfl) c102 (sN (m := 2) (f := 1) (aA rfl) (aB hS rfl) rfl rfl (aB hS rfl) sO.of h104)),
      fun S hS => aE rfl (bA rfl rfl (aA rfl) (aL hS rfl) c102 (tQ (m := 2) (f := 1) (aA rfl) (aB hS rfl) rfl rfl h104 dF)),
      fun S hS => aE rfl (bA rfl rfl (aA rfl) (aL hS rfl) c102 (aD (v := .d (.lit (.int .i64 ((atv_8_81.fdiv (2 ^ (min (IntKind.u64.wrap (w64 (r_10_90 + 1))).toNat 64))))))) (aA rfl) (aB hS rfl) rfl)),
      fun S hS => aE rfl (bA rfl rfl (aA rfl) (aL hS rfl) c102 (tP (f := 1) (g := aP) (aA rfl) (aB hS rfl) rfl h104 (aB hS rfl) cT.of h106)),
      fun S hS => aE rfl (bA rfl rfl (aA rfl) (aL hS rfl) c102 (zC (f := 1) (g := aP) (aA rfl) (aB hS rfl) rfl h104 h106 rfl bL)),
      fun S hS => aE rfl (bA rfl rfl (aA rfl) (aL hS rfl) c102 (aN (aA rfl) (aB hS rfl) mG)),
      fun S hS => aE rfl (bA rfl rfl (aA rfl) (aL hS rfl) c102 (aR (aA rfl) (aB hS rfl) (i := 4) rfl rfl bL)),
      fun S hS => aE rfl (bA rfl rfl (aA rfl) (aL hS rfl) c102 (bR (aA rfl) (aB hS rfl) (aB hS rfl) rfl)),
      fun S hS => aE rfl (aJ rfl (cC (v := .d (.lit (.bool ((!decide (x105 = x64.Player)))))) (aA rfl) (aB hS rfl) c102 (aB hS rfl) rfl)), trivial⟩⟩
            · exact dE (aU rfl (bC ⟨rfl, rfl, rfl, rfl, rfl, rfl, rfl, rfl, rfl, trivial⟩))
           ·have h101 := aY c102 h101
            have h101 := Option.some.inj h101
            subst h101
            refine ⟨[(169, 0, .bp b6 0 1), (170, 1, .d (.lit w9)), (171, 2, .d (.lit (.int .i64 r_10_90))), (172, 3, .ep w9 1 r_10_90.toNat 0), (173, 4, .d (.lit (rI vs91 r_10_90))), (174, 5, .d (.lit (.int .i64 ((atv_8_81.fdiv (2 ^ (min (IntKind.u64.wrap (w64 (r_10_90 + 1))).toNat 64))))))), (175, 6, .ep (rI vs91 r_10_90) 1 (atv_8_81.fdiv (2 ^ (min (IntKind.u64.wrap (w64 (r_10_90 + 1))).toNat 64))).toNat 0), (176, 7, .d (.lit (.int .i64 x98))), (177, 8, .d (.lit (.bool ((!decide (x98 = (-2))))))), (178, 9, .d (.lit (.bool ((!decide (x98 = (-2))))))), (179, 10, .tup []), (180, 11, .tup []), (181, 12, .tup []), (182, 13, .tup []), (183, 14, .tup []), (184, 15, .tup []), (185, 16, .tup []), (186, 17, .tup []), (187, 18, .tup []), (188, 19, .tup []), (189, 20, .tup []), (190, 21, .d (.lit (.bool false)))], ?_, ?_⟩
            · exact ⟨by kernel_rfl, by kernel_rfl, by kernel_rfl, by kernel_rfl, by kernel_rfl, [([], []), ([0], []), ([], []), ([1, 2], []), ([3], []), ([], []), ([4, 5], []), ([6], []), ([7], []), ([8], []), ([9], []), ([9, 10], []), ([9], []), ([9, 11, 12], []), ([9, 13], []), ([9], []), ([9, 14, 15], []), ([9, 16], []), ([9], []), ([9, 18], []), ([9, 17, 19], []), ([9, 20], [])], by kernel_rfl, ⟨fun S hS => aE rfl (aJ rfl (aN (aA rfl) (aB hS rfl) nM)),
      fun S hS => aE rfl (aJ rfl (aR (aA rfl) (aB hS rfl) (i := 3) rfl rfl rQ)),
      fun S hS => aE rfl (aJ rfl (aD (v := .d (.lit (.int .i64 r_10_90))) (aA rfl) (aB hS rfl) rfl)),
      fun S hS => aE rfl (aJ rfl (sN (m := 2) (f := 1) (aA rfl) (aB hS rfl) rfl rfl (aB hS rfl) sO.of h97)),
      fun S hS => aE rfl (aJ rfl (tQ (m := 2) (f := 1) (aA rfl) (aB hS rfl) rfl rfl h97 dF)),
      fun S hS => aE rfl (aJ rfl (aD (v := .d (.lit (.int .i64 ((atv_8_81.fdiv (2 ^ (min (IntKind.u64.wrap (w64 (r_10_90 + 1))).toNat 64))))))) (aA rfl) (aB hS rfl) rfl)),
      fun S hS => aE rfl (aJ rfl (tP (f := 1) (g := aP) (aA rfl) (aB hS rfl) rfl h97 (aB hS rfl) cT.of h99)),
      fun S hS => aE rfl (aJ rfl (zC (f := 1) (g := aP) (aA rfl) (aB hS rfl) rfl h97 h99 rfl bL)),
      fun S hS => aE rfl (aJ rfl (bR (aA rfl) (aB hS rfl) rfl rfl)),
      fun S hS => aE rfl (aJ rfl (aD (v := .d (.lit (.bool ((!decide (x98 = (-2))))))) (aA rfl) (aB hS rfl) rfl)),
      fun S hS => aE rfl (aZ rfl rfl (aA rfl) rfl (aA rfl) (aL hS rfl) c102),
      fun S hS => aE rfl (aZ rfl rfl (aA rfl) rfl (aA rfl) (aL hS rfl) c102),
      fun S hS => aE rfl (aZ rfl rfl (aA rfl) rfl (aA rfl) (aL hS rfl) c102),
      fun S hS => aE rfl (aZ rfl rfl (aA rfl) rfl (aA rfl) (aL hS rfl) c102),
      fun S hS => aE rfl (aZ rfl rfl (aA rfl) rfl (aA rfl) (aL hS rfl) c102),
      fun S hS => aE rfl (aZ rfl rfl (aA rfl) rfl (aA rfl) (aL hS rfl) c102),
      fun S hS => aE rfl (aZ rfl rfl (aA rfl) rfl (aA rfl) (aL hS rfl) c102),
      fun S hS => aE rfl (aZ rfl rfl (aA rfl) rfl (aA rfl) (aL hS rfl) c102),
      fun S hS => aE rfl (aZ rfl rfl (aA rfl) rfl (aA rfl) (aL hS rfl) c102),
      fun S hS => aE rfl (aZ rfl rfl (aA rfl) rfl (aA rfl) (aL hS rfl) c102),
      fun S hS => aE rfl (aZ rfl rfl (aA rfl) rfl (aA rfl) (aL hS rfl) c102),
      fun S hS => aE rfl (aJ rfl (cB (v := .d (.lit (.bool false))) (aA rfl) (aB hS rfl) c102 rfl rfl)), trivial⟩⟩
            · exact dE (aU rfl (bC ⟨rfl, rfl, rfl, rfl, rfl, rfl, rfl, rfl, rfl, trivial⟩))
          ·refine aG ?_
           refine cA rfl (fun c107 => ?_) (fun c107 => ?_)
           ·have h := aX c107 h
            refine aF ?_
            refine aC ?_
            refine tr1 rfl (eA (aA rfl) xX (zs := [.sl 1 ((([] : List Int)).map aP), .sl 1 ((([] : List (List Int))).map jR)]) rfl rfl rfl rfl (es := [.sl 1 ((([] : List Int)).map aP), .sl 1 ((([] : List (List Int))).map jR)]) rfl) ?_
            refine tr1 rfl (cM (i := 0) rfl rfl rfl rfl rfl Try.sizeOf144 rfl (aA rfl) (Nat.le_of_ble_eq_true rfl) (ds' := (cP (bB.mk ([] : List Int) ([] : List (List Int))))) rfl) ?_
            refine tr1 rfl (aH (v := .d (.lit (.bool false))) (aA rfl) rfl rfl) ?_
            refine aG ?_
            have h := Option.some.inj h
            subst h
            exact bU ⟨rfl, _, [.box b2 0 (cP (bB.mk ([] : List Int) ([] : List (List Int)))), .fam 3 1 vs91 (d_10_90.map fun r => r.map aP), .arr w9 27 1 (vs91.map fun v => [.lit v]), .box b6 0 [.sl 1 (d_0_7_2.map aP), .lit w9], .box b66 0 (aS x64)], .two (.cell 4 144 rfl (i := 0) rfl qK (es := (cP (bB.mk ([] : List Int) ([] : List (List Int))))) rfl rfl) (.tmp 5 (v := .d (.lit (.bool false))) rfl), .refl _, .same _⟩
           ·have h := aY c107 h
            refine bX ?_
            obtain ⟨x108, h109, h⟩ := bind_some h
            refine eD mix 8 [4, 6, 8, 13, 14, 15, 18, 20] [(196, .d (.lit (rI vs91 r_10_90))), (197, .d (.lit (.int .i64 ((atv_8_81.fdiv (2 ^ (min (IntKind.u64.wrap (w64 (r_10_90 + 1))).toNat 64))))))), (199, .d (.lit (.int .i64 x64.Player)))] ?_ ?_
            ·refine ⟨[(192, 0, .bp b6 0 1), (193, 1, .d (.lit w9)), (194, 2, .d (.lit (.int .i64 r_10_90))), (195, 3, .ep w9 1 r_10_90.toNat 0), (196, 4, .d (.lit (rI vs91 r_10_90))), (197, 5, .d (.lit (.int .i64 ((atv_8_81.fdiv (2 ^ (min (IntKind.u64.wrap (w64 (r_10_90 + 1))).toNat 64))))))), (198, 6, .bp b66 0 3), (199, 7, .d (.lit (.int .i64 x64.Player)))], ?_, ?_⟩
             · exact ⟨by kernel_rfl, by kernel_rfl, by kernel_rfl, by kernel_rfl, by kernel_rfl, [([], []), ([0], []), ([], []), ([1, 2], []), ([3], []), ([], []), ([], []), ([6], [])], by kernel_rfl, ⟨fun S hS => aE rfl (aJ rfl (aN (aA rfl) (aB hS rfl) nM)),
      fun S hS => aE rfl (aJ rfl (aR (aA rfl) (aB hS rfl) (i := 3) rfl rfl rQ)),
      fun S hS => aE rfl (aJ rfl (aD (v := .d (.lit (.int .i64 r_10_90))) (aA rfl) (aB hS rfl) rfl)),
      fun S hS => aE rfl (aJ rfl (sN (m := 2) (f := 1) (aA rfl) (aB hS rfl) rfl rfl (aB hS rfl) sO.of h109)),
      fun S hS => aE rfl (aJ rfl (tQ (m := 2) (f := 1) (aA rfl) (aB hS rfl) rfl rfl h109 dF)),
      fun S hS => aE rfl (aJ rfl (aD (v := .d (.lit (.int .i64 ((atv_8_81.fdiv (2 ^ (min (IntKind.u64.wrap (w64 (r_10_90 + 1))).toNat 64))))))) (aA rfl) (aB hS rfl) rfl)),
      fun S hS => aE rfl (aJ rfl (aN (aA rfl) (aB hS rfl) mG)),
      fun S hS => aE rfl (aJ rfl (aR (aA rfl) (aB hS rfl) (i := 4) rfl rfl bL)), trivial⟩⟩
             · exact dE (aU rfl (aU rfl (aU rfl (bC ⟨rfl, rfl, rfl, rfl, rfl, rfl, rfl, rfl, trivial⟩))))
            ·obtain ⟨x110, h111, h⟩ := bind_some h
             refine tr1 rfl (tP (f := 1) (g := aP) (aA rfl) rfl rfl h109 rfl cT.of h111) ?_
             refine tr1 rfl (aIy (f := 1) (g := aP) rfl rfl h109 h111 rfl rfl rfl Try.sizeOf3 rfl (aA rfl) (Nat.le_of_ble_eq_true rfl) (a' := x64.Player) rfl (c' := (d_10_90.set r_10_90.toNat (x108.set (atv_8_81.fdiv (2 ^ (min (IntKind.u64.wrap (w64 (r_10_90 + 1))).toNat 64))).toNat x64.Player))) rfl) ?_
             refine fB ?_
             refine aC ?_
             refine tr1 rfl (aD (v := .d (.lit (.int .i64 r_10_90))) (aA rfl) rfl rfl) ?_
             refine tr1 rfl (bT (aA rfl) rfl rfl rfl) ?_
             refine tr1 rfl (aH (v := .d (.lit (.int .i64 ((w64 (r_10_90 + 1)))))) (aA rfl) rfl rfl) ?_
             refine aG ?_
             exact ⟨(w64 (r_10_90 + 1), o4_10_90, (d_10_90.set r_10_90.toNat (x108.set (atv_8_81.fdiv (2 ^ (min (IntKind.u64.wrap (w64 (r_10_90 + 1))).toNat 64))).toNat x64.Player)), vs91), h, bE [0, 1, 2, 3, 4] rfl rfl (aU rfl (bC ⟨rfl, rfl, rfl, rfl, rfl, rfl, rfl, trivial⟩))⟩
         ·have h := aY c93 h
          refine dA ?_
          refine .inl ⟨rfl, ?_⟩
          simp only [pK] at h
          simp only [kE] at h
          refine aC ?_
          refine tr1 rfl (aD (v := .d (.lit (.int .i64 i_4_60))) (aA rfl) rfl rfl) ?_
          refine tr1 rfl (bT (aA rfl) rfl rfl rfl) ?_
          refine tr1 rfl (aH (v := .d (.lit (.int .i64 ((w64 (i_4_60 + 1)))))) (aA rfl) rfl rfl) ?_
          refine aG ?_
          exact ⟨(w64 (i_4_60 + 1), o4_10_90, d_10_90, vs91), h, bE [0, 1, 2, 3] rfl rfl (aU rfl (bC ⟨rfl, rfl, rfl, rfl, trivial⟩))⟩
   ·have h := aY c63 h
    refine dA ?_
    refine .inl ⟨rfl, ?_⟩
    simp only [pZ] at h
    refine aF ?_
    refine aC ?_
    refine tr1 rfl (bN (aA rfl) rfl (i := 3) rfl qK (es := [.sl 1 (d_0_7_2.map aP), .lit w9]) rfl rfl) ?_
    refine tr1 rfl (cM (i := 0) rfl rfl rfl rfl rfl Try.sizeOf144 rfl (aA rfl) (Nat.le_of_ble_eq_true rfl) (ds' := [.sl 1 (d_0_7_2.map aP), .lit w9]) rfl) ?_
    refine tr1 rfl (aH (v := .d (.lit (.bool true))) (aA rfl) rfl rfl) ?_
    refine aG ?_
    have h := Option.some.inj h
    subst h
    exact bU ⟨rfl, _, [.box b2 0 [.sl 1 (d_0_7_2.map aP), .lit w9], .fam 3 1 vs61 (d_4_60.map fun r => r.map aP), .arr w9 27 1 (vs61.map fun v => [.lit v]), .box b6 0 [.sl 1 (d_0_7_2.map aP), .lit w9]], .two (.cell 4 144 rfl (i := 0) rfl qK (es := [.sl 1 (d_0_7_2.map aP), .lit w9]) rfl rfl) (.tmp 5 (v := .d (.lit (.bool true))) rfl), .refl _, aGz (.cons (.agg (dvc (.same _) (dvc (aPm 2 1 rfl rfl (h := jR) (fun _ => rfl)) dvn))) (.cons (.same _) .nil))⟩

theorem pX (t_0 : bD) (l_1 : List aK) {r : Int} (h : iD t_0 l_1 = some r) : Fn Try.prog 78 [.agg (bG t_0), .d (.sl 5 (l_1.map aS))] (.d (.lit (.int .i64 r))) := by
 unfold iD at h
 refine Fn.of_tr Try.func78 rfl (rs := [.tmp 4]) Try.results78 Try.ntmps78 (Nat.le_of_ble_eq_true rfl) ?_
 refine aF ?_
 refine aC ?_
 refine cE rfl (eC (v := .agg (bG t_0)) (aA rfl) rfl rfl rfl) ?_
 rintro _ ⟨b1, rfl⟩
 refine tr1 rfl (aH (v := .d (.lit (.int .i64 0))) (aA rfl) rfl rfl) ?_
 refine aG ?_
 refine aF ?_
 refine aF ?_
 refine aC ?_
 refine tr1 rfl (bN (aA rfl) rfl (i := 0) rfl fO (es := (bG t_0)) rfl rfl) ?_
 obtain ⟨r2, h3, h⟩ := bind_some h
 refine tr1 rfl (cL (aA rfl) (.func _ _ Try.call97) rfl rfl (BVs.refl _ _) (zS _ h3) rfl) ?_
 refine tr1 rfl (dZ (aA rfl) rfl) ?_
 refine aG ?_
 refine cA rfl (fun c4 => ?_) (fun c4 => ?_)
 ·have h := aX c4 h
  refine aF ?_
  refine aC ?_
  refine tr1 rfl (aH (v := .d (.lit (.int .i64 70))) (aA rfl) rfl rfl) ?_
  refine aG ?_
  have h := Option.some.inj h
  subst h
  refine cQ (cF (cN (l := [4]) ⟨rfl, trivial⟩)) ?_
  exact bU ⟨rfl, _, .one _, rfl, rfl⟩
 ·have h := aY c4 h
  refine bX ?_
  refine aF ?_
  refine aF ?_
  refine aC ?_
  refine tr1 rfl (aD (v := .d (.sl 5 (l_1.map aS))) (aA rfl) rfl rfl) ?_
  refine tr1 rfl (dC (aA rfl) rfl iW.of) ?_
  refine tr1 rfl (bR (aA rfl) rfl rfl rfl) ?_
  refine aG ?_
  refine cA rfl (fun c5 => ?_) (fun c5 => ?_)
  ·have h := aX c5 h
   refine aF ?_
   refine aC ?_
   refine tr1 rfl (aH (v := .d (.lit (.int .i64 71))) (aA rfl) rfl rfl) ?_
   refine aG ?_
   have h := Option.some.inj h
   subst h
   refine cQ (cF (cN (l := [4]) ⟨rfl, trivial⟩)) ?_
   exact bU ⟨rfl, _, .one _, rfl, rfl⟩
  ·have h := aY c5 h
   refine bX ?_
   refine aF ?_
   refine aF ?_
   refine aC ?_
   refine tr1 rfl (aH (v := .d (.lit (.int .i64 0))) (aA rfl) rfl rfl) ?_
   refine aG ?_
   refine cO ?_
   refine dG [1, 2] (fun (s6 : Int) => [(5, .d (.lit (.int .i64 s6)))]) (fun (s6 : Int) => [.box b1 0 (bG t_0)]) (fun (k : Nat) (s6 : Int) => gI l_1 t_0 k s6) (fun _ => rfl) (0) h (bE [0] rfl rfl (aU rfl (bC ⟨rfl, rfl, trivial⟩))) ?_
   rintro k7 i_0_6 h
   simp only [gI] at h
   refine aF ?_
   refine aF ?_
   refine aC ?_
   refine tr1 rfl (aD (v := .d (.lit (.int .i64 i_0_6))) (aA rfl) rfl rfl) ?_
   refine tr1 rfl (aD (v := .d (.sl 5 (l_1.map aS))) (aA rfl) rfl rfl) ?_
   refine tr1 rfl (dC (aA rfl) rfl iW.of) ?_
   refine tr1 rfl (bR (aA rfl) rfl rfl rfl) ?_
   refine aG ?_
   refine cA rfl (fun c8 => ?_) (fun c8 => ?_)
   ·have h := aX c8 h
    refine bX ?_
    refine aF ?_
    refine cO ?_
    refine aF ?_
    obtain ⟨x9, h10, h⟩ := bind_some h
    refine eD mix 5 [1, 2, 5] [(20, .agg (bG t_0)), (24, .agg (aS x9))] ?_ ?_
    ·refine ⟨[(20, 0, .agg (bG t_0)), (21, 1, .d (.sl 5 (l_1.map aS))), (22, 2, .d (.lit (.int .i64 i_0_6))), (23, 3, .cp [.lit (.int .i64 x9.Kind), .lit (.int .i64 x9.Round), .lit (.int .i64 x9.Place), .lit (.int .i64 x9.Player), .lit (.int .i64 x9.Old)]), (24, 4, .agg (aS x9))], ?_, ?_⟩
     · exact ⟨by kernel_rfl, by kernel_rfl, by kernel_rfl, by kernel_rfl, by kernel_rfl, [([], []), ([], []), ([], []), ([1, 2], []), ([3], [])], by kernel_rfl, ⟨fun S hS => aE rfl (aJ rfl (bN (aA rfl) (aB hS rfl) (i := 0) rfl fO (es := (bG t_0)) rfl rfl)),
      fun S hS => aE rfl (aJ rfl (aD (v := .d (.sl 5 (l_1.map aS))) (aA rfl) (aB hS rfl) rfl)),
      fun S hS => aE rfl (aJ rfl (aD (v := .d (.lit (.int .i64 i_0_6))) (aA rfl) (aB hS rfl) rfl)),
      fun S hS => aE rfl (aJ rfl (bJ (aA rfl) (aB hS rfl) (aB hS rfl) iW.of (bP aS h10))),
      fun S hS => aE rfl (aJ rfl (dB (aA rfl) (aB hS rfl) jM (es := (aS x9)) rfl rfl)), trivial⟩⟩
     · exact dE (aU rfl (aU rfl (bC ⟨rfl, rfl, rfl, trivial⟩)))
    ·obtain ⟨r11, h12, h⟩ := bind_some h
     refine tr1 rfl (cL (aA rfl) (.func _ _ Try.call98) rfl rfl (BVs.refl _ _) (zU _ _ h12) rfl) ?_
     refine tr1 rfl (dZ (aA rfl) rfl) ?_
     refine aG ?_
     refine cA rfl (fun c13 => ?_) (fun c13 => ?_)
     ·have h := aX c13 h
      refine aF ?_
      refine aC ?_
      refine tr1 rfl (aH (v := .d (.lit (.int .i64 71))) (aA rfl) rfl rfl) ?_
      refine aG ?_
      have h := Option.some.inj h
      subst h
      refine cQ (cF (cN (l := [4]) ⟨rfl, trivial⟩)) ?_
      exact bU ⟨rfl, _, .one _, rfl, rfl⟩
     ·have h := aY c13 h
      refine dY ?_
      refine aC ?_
      refine tr1 rfl (aD (v := .d (.lit (.int .i64 i_0_6))) (aA rfl) rfl rfl) ?_
      refine tr1 rfl (bT (aA rfl) rfl rfl rfl) ?_
      refine tr1 rfl (aH (v := .d (.lit (.int .i64 ((w64 (i_0_6 + 1)))))) (aA rfl) rfl rfl) ?_
      refine aG ?_
      exact ⟨(w64 (i_0_6 + 1)), h, bE [0] rfl rfl (aU rfl (bC ⟨rfl, rfl, trivial⟩))⟩
   ·have h := aY c8 h
    refine dA ?_
    refine .inl ⟨rfl, ?_⟩
    simp only [jP] at h
    refine aF ?_
    refine aF ?_
    refine aC ?_
    refine tr1 rfl (bN (aA rfl) rfl (i := 0) rfl fO (es := (bG t_0)) rfl rfl) ?_
    refine tr1 rfl (aD (v := .d (.sl 5 (l_1.map aS))) (aA rfl) rfl rfl) ?_
    obtain ⟨r14, h15, h⟩ := bind_some h
    refine tr1 rfl (fT (aA rfl) (.func _ _ Try.call99) rfl rfl (qS _ _ h15)) ?_
    refine tr1 rfl (aD (v := .tup [.agg (cP r14.1), .d (.lit (.bool r14.2))]) (aA rfl) rfl rfl) ?_
    refine tr1 rfl (cD (aA rfl) rfl rfl) ?_
    refine tr1 rfl (cD (aA rfl) rfl rfl) ?_
    refine cE rfl (dM (zs := [.sl 1 ((([] : List Int)).map aP), .sl 1 ((([] : List (List Int))).map jR)]) (aA rfl) Try.zeroValue144 rfl rfl) ?_
    rintro _ ⟨b16, rfl⟩
    refine tr1 rfl (cM (i := 1) rfl rfl rfl rfl rfl Try.sizeOf144 rfl (aA rfl) (Nat.le_of_ble_eq_true rfl) (ds' := (cP r14.1)) rfl) ?_
    refine tr1 rfl (aH (v := .d (.lit (.bool r14.2))) (aA rfl) rfl rfl) ?_
    refine aG ?_
    refine aF ?_
    refine aC ?_
    refine tr1 rfl (aD (v := .d (.lit (.bool r14.2))) (aA rfl) rfl rfl) ?_
    refine tr1 rfl (dZ (aA rfl) rfl) ?_
    refine aG ?_
    refine cA rfl (fun c17 => ?_) (fun c17 => ?_)
    ·have h := aX c17 h
     refine aF ?_
     refine aC ?_
     refine tr1 rfl (aH (v := .d (.lit (.int .i64 72))) (aA rfl) rfl rfl) ?_
     refine aG ?_
     have h := Option.some.inj h
     subst h
     refine cQ (cF (cN (l := [4]) ⟨rfl, trivial⟩)) ?_
     exact bU ⟨rfl, _, .one _, rfl, rfl⟩
    ·have h := aY c17 h
     refine bX ?_
     refine aF ?_
     refine aC ?_
     refine tr1 rfl (aH (v := .d (.lit (.int .i64 0))) (aA rfl) rfl rfl) ?_
     refine aG ?_
     have h := Option.some.inj h
     subst h
     refine cQ (cF (cN (l := [4]) ⟨rfl, trivial⟩)) ?_
     exact bU ⟨rfl, _, .one _, rfl, rfl⟩

theorem wE (d_0 : bB) (round_1 : Int) (place_2 : Int) (side_3 : Int) {r : Int} (h : nD d_0 round_1 place_2 side_3 = some r) : Fn Try.prog 119 [.agg (cP d_0), .d (.lit (.int .i64 round_1)), .d (.lit (.int .i64 place_2)), .d (.lit (.int .i64 side_3))] (.d (.lit (.int .i64 r))) := by
 unfold nD at h
 refine Fn.of_tr Try.func119 rfl (rs := [.tmp 8]) Try.results119 Try.ntmps119 (Nat.le_of_ble_eq_true rfl) ?_
 refine aF ?_
 refine aC ?_
 refine cE rfl (eC (v := .agg (cP d_0)) (aA rfl) rfl rfl rfl) ?_
 rintro _ ⟨b1, rfl⟩
 refine tr1 rfl (aH (v := .d (.lit (.int .i64 0))) (aA rfl) rfl rfl) ?_
 refine aG ?_
 refine aF ?_
 refine aF ?_
 refine aC ?_
 refine tr1 rfl (aD (v := .d (.lit (.int .i64 round_1))) (aA rfl) rfl rfl) ?_
 refine tr1 rfl (bR (aA rfl) rfl rfl rfl) ?_
 refine aG ?_
 refine cA rfl (fun c2 => ?_) (fun c2 => ?_)
 ·have h := aX c2 h
  refine aF ?_
  refine aC ?_
  refine tr1 rfl (aN (aA rfl) rfl aLl) ?_
  refine tr1 rfl (aR (aA rfl) rfl (i := 0) rfl rfl dF) ?_
  refine tr1 rfl (aD (v := .d (.lit (.int .i64 place_2))) (aA rfl) rfl rfl) ?_
  refine tr1 rfl (bT (aA rfl) rfl rfl rfl) ?_
  refine tr1 rfl (aD (v := .d (.lit (.int .i64 side_3))) (aA rfl) rfl rfl) ?_
  refine tr1 rfl (bT (aA rfl) rfl rfl rfl) ?_
  obtain ⟨x3, h4, h⟩ := bind_some h
  refine tr1 rfl (bJ (aA rfl) rfl rfl cT.of (bP aP h4)) ?_
  refine tr1 rfl (bZ (aA rfl) rfl bL) ?_
  refine tr1 rfl (aH (v := .d (.lit (.int .i64 x3))) (aA rfl) rfl rfl) ?_
  refine aG ?_
  have h := Option.some.inj h
  subst h
  refine cQ (cF (cN (l := [8]) ⟨rfl, trivial⟩)) ?_
  exact bU ⟨rfl, _, .one _, rfl, rfl⟩
 ·have h := aY c2 h
  refine bX ?_
  refine aF ?_
  refine aC ?_
  refine tr1 rfl (aN (aA rfl) rfl nM) ?_
  refine tr1 rfl (aR (aA rfl) rfl (i := 0) rfl rfl rQ) ?_
  refine tr1 rfl (aD (v := .d (.lit (.int .i64 round_1))) (aA rfl) rfl rfl) ?_
  refine tr1 rfl (bT (aA rfl) rfl rfl rfl) ?_
  obtain ⟨x5, h6, h⟩ := bind_some h
  refine tr1 rfl (bJ (aA rfl) rfl rfl sO.of (bP jR h6)) ?_
  refine tr1 rfl (bZ (aA rfl) rfl dF) ?_
  refine tr1 rfl (aD (v := .d (.lit (.int .i64 place_2))) (aA rfl) rfl rfl) ?_
  refine tr1 rfl (bT (aA rfl) rfl rfl rfl) ?_
  refine tr1 rfl (aD (v := .d (.lit (.int .i64 side_3))) (aA rfl) rfl rfl) ?_
  refine tr1 rfl (bT (aA rfl) rfl rfl rfl) ?_
  obtain ⟨x7, h8, h⟩ := bind_some h
  refine tr1 rfl (bJ (aA rfl) rfl rfl cT.of (bP aP h8)) ?_
  refine tr1 rfl (bZ (aA rfl) rfl bL) ?_
  refine tr1 rfl (aH (v := .d (.lit (.int .i64 x7))) (aA rfl) rfl rfl) ?_
  refine aG ?_
  have h := Option.some.inj h
  subst h
  refine cQ (cF (cN (l := [8]) ⟨rfl, trivial⟩)) ?_
  exact bU ⟨rfl, _, .one _, rfl, rfl⟩

theorem aAg (t_0 : bD) (d_1 : bB) {r : (List bK)} (h : mN t_0 d_1 = some r) : Fn Try.prog 100 [.agg (bG t_0), .agg (cP d_1)] (.d (.sl 4 (r.map bI))) := by
 unfold mN at h
 refine Fn.of_tr Try.func100 rfl (rs := [.tmp 4]) Try.results100 Try.ntmps100 (Nat.le_of_ble_eq_true rfl) ?_
 refine aF ?_
 refine aC ?_
 refine cE rfl (eC (v := .agg (bG t_0)) (aA rfl) rfl rfl rfl) ?_
 rintro _ ⟨b1, rfl⟩
 refine cE rfl (eC (v := .agg (cP d_1)) (aA rfl) rfl rfl rfl) ?_
 rintro _ ⟨b2, rfl⟩
 refine tr1 rfl (fZ 4 (aA rfl)) ?_
 refine aG ?_
 refine aF ?_
 refine aC ?_
 refine tr1 rfl (gA 73 4 (.inl rfl) (aA rfl)) ?_
 refine aG ?_
 refine aF ?_
 refine aF ?_
 refine aC ?_
 refine tr1 rfl (aH (v := .d (.lit (.int .i64 0))) (aA rfl) rfl rfl) ?_
 refine aG ?_
 refine cO ?_
 refine dG [2, 3] (fun (s4 : Int × (List bK) × Value) => [(5, .d (.lit s4.2.2)), (6, .d (.lit (.int .i64 s4.1)))]) (fun (s4 : Int × (List bK) × Value) => [.box b1 0 (bG t_0), .box b2 0 (cP d_1), .arr s4.2.2 73 4 (s4.2.1.map bI)]) (fun (k : Nat) (s4 : Int × (List bK) × Value) => eM t_0 d_1 k s4.1 s4.2.1) (fun _ => rfl) (0, ([] : List bK), (.slice none 0 0)) h (bE [0, 1, 2] rfl rfl (aU rfl (aU rfl (bC ⟨rfl, rfl, trivial⟩)))) ?_
 rintro k6 ⟨r_0_4, out_0_4, w5⟩ h
 simp only [eM] at h
 refine aF ?_
 refine aF ?_
 refine aC ?_
 refine tr1 rfl (aD (v := .d (.lit (.int .i64 r_0_4))) (aA rfl) rfl rfl) ?_
 refine tr1 rfl (aN (aA rfl) rfl kL) ?_
 refine tr1 rfl (aR (aA rfl) rfl (i := 0) rfl rfl bL) ?_
 refine tr1 rfl (bR (aA rfl) rfl rfl rfl) ?_
 refine aG ?_
 refine cA rfl (fun c7 => ?_) (fun c7 => ?_)
 ·have h := aX c7 h
  refine bX ?_
  refine aF ?_
  refine cO ?_
  refine aF ?_
  refine aC ?_
  refine tr1 rfl (aH (v := .d (.lit (.int .i64 0))) (aA rfl) rfl rfl) ?_
  refine aG ?_
  refine rS ?_
  refine dG [2, 3, 6] (fun (s8 : Int × (List bK) × Value) => [(5, .d (.lit s8.2.2)), (7, .d (.lit (.int .i64 s8.1)))]) (fun (s8 : Int × (List bK) × Value) => [.box b1 0 (bG t_0), .box b2 0 (cP d_1), .arr s8.2.2 73 4 (s8.2.1.map bI)]) (fun (k : Nat) (s8 : Int × (List bK) × Value) => gJ (eM t_0 d_1 k6) r_0_4 t_0 d_1 k s8.1 s8.2.1) (fun _ => rfl) (0, out_0_4, w5) h (bE [0, 1, 2] rfl rfl (aU rfl (aU rfl (bC ⟨rfl, rfl, rfl, trivial⟩)))) ?_
  rintro k10 ⟨p_2_8, out_2_8, w9⟩ h
  simp only [gJ] at h
  refine aF ?_
  refine aF ?_
  refine aC ?_
  refine tr1 rfl (aD (v := .d (.lit (.int .i64 p_2_8))) (aA rfl) rfl rfl) ?_
  refine tr1 rfl (bN (aA rfl) rfl (i := 0) rfl fO (es := (bG t_0)) rfl rfl) ?_
  refine tr1 rfl (aD (v := .d (.lit (.int .i64 r_0_4))) (aA rfl) rfl rfl) ?_
  obtain ⟨r11, h12, h⟩ := bind_some h
  refine tr1 rfl (cL (aA rfl) (.func _ _ Try.call117) rfl rfl (BVs.refl _ _) (pH _ _ h12) rfl) ?_
  refine tr1 rfl (bR (aA rfl) rfl rfl rfl) ?_
  refine aG ?_
  refine cA rfl (fun c13 => ?_) (fun c13 => ?_)
  ·have h := aX c13 h
   refine bX ?_
   refine aF ?_
   refine cO ?_
   obtain ⟨r14, h15, h⟩ := bind_some h
   obtain ⟨r16, h17, h⟩ := bind_some h
   refine eD mix 13 [2, 3, 6, 7] [(21, .d (.lit w9)), (33, .d (.sl 4 ((([(bK.mk r_0_4 p_2_8 r14 r16)])).map bI)))] ?_ ?_
   ·refine ⟨[(21, 0, .d (.lit w9)), (22, 1, .d (.lit (.int .i64 r_0_4))), (23, 2, .d (.lit (.int .i64 p_2_8))), (24, 3, .agg (cP d_1)), (25, 4, .d (.lit (.int .i64 r_0_4))), (26, 5, .d (.lit (.int .i64 p_2_8))), (27, 6, .d (.lit (.int .i64 r14))), (28, 7, .agg (cP d_1)), (29, 8, .d (.lit (.int .i64 r_0_4))), (30, 9, .d (.lit (.int .i64 p_2_8))), (31, 10, .d (.lit (.int .i64 r16))), (32, 11, .agg (bI (bK.mk r_0_4 p_2_8 r14 r16))), (33, 12, .d (.sl 4 ((([(bK.mk r_0_4 p_2_8 r14 r16)])).map bI)))], ?_, ?_⟩
    · exact ⟨by kernel_rfl, by kernel_rfl, by kernel_rfl, by kernel_rfl, by kernel_rfl, [([], []), ([], []), ([], []), ([], []), ([], []), ([], []), ([3, 4, 5], []), ([], []), ([], []), ([], []), ([7, 8, 9], []), ([1, 2, 6, 10], []), ([11], [])], by kernel_rfl, ⟨fun S hS => aE rfl (aJ rfl (aD (v := .d (.lit w9)) (aA rfl) (aB hS rfl) rfl)),
      fun S hS => aE rfl (aJ rfl (aD (v := .d (.lit (.int .i64 r_0_4))) (aA rfl) (aB hS rfl) rfl)),
      fun S hS => aE rfl (aJ rfl (aD (v := .d (.lit (.int .i64 p_2_8))) (aA rfl) (aB hS rfl) rfl)),
      fun S hS => aE rfl (aJ rfl (bN (aA rfl) (aB hS rfl) (i := 1) rfl qK (es := (cP d_1)) rfl rfl)),
      fun S hS => aE rfl (aJ rfl (aD (v := .d (.lit (.int .i64 r_0_4))) (aA rfl) (aB hS rfl) rfl)),
      fun S hS => aE rfl (aJ rfl (aD (v := .d (.lit (.int .i64 p_2_8))) (aA rfl) (aB hS rfl) rfl)),
      fun S hS => aE rfl (aJ rfl (cL (aA rfl) (.func _ _ Try.call119) (ev2 (aB hS rfl) (ev2 (aB hS rfl) (ev2 (aB hS rfl) (ev2 rfl evn)))) rfl (BVs.refl _ _) (wE _ _ _ _ h15) rfl)),
      fun S hS => aE rfl (aJ rfl (bN (aA rfl) (aB hS rfl) (i := 1) rfl qK (es := (cP d_1)) rfl rfl)),
      fun S hS => aE rfl (aJ rfl (aD (v := .d (.lit (.int .i64 r_0_4))) (aA rfl) (aB hS rfl) rfl)),
      fun S hS => aE rfl (aJ rfl (aD (v := .d (.lit (.int .i64 p_2_8))) (aA rfl) (aB hS rfl) rfl)),
      fun S hS => aE rfl (aJ rfl (cL (aA rfl) (.func _ _ Try.call119) (ev2 (aB hS rfl) (ev2 (aB hS rfl) (ev2 (aB hS rfl) (ev2 rfl evn)))) rfl (BVs.refl _ _) (wE _ _ _ _ h17) rfl)),
      fun S hS => aE rfl (aJ rfl (eA (aA rfl) aMj (zs := [.lit (.int .i64 0), .lit (.int .i64 0), .lit (.int .i64 0), .lit (.int .i64 0)]) rfl rfl rfl (pa2 (aB hS rfl) (pa2 (aB hS rfl) (pa2 (aB hS rfl) (pa2 (aB hS rfl) pan)))) (es := [.lit (.int .i64 r_0_4), .lit (.int .i64 p_2_8), .lit (.int .i64 r14), .lit (.int .i64 r16)]) rfl)),
      fun S hS => aE rfl (aJ rfl (eW (aA rfl) iF rfl (pa2 (aB hS rfl) pan) (rows := ([(bK.mk r_0_4 p_2_8 r14 r16)]).map bI) rfl (dD (f := bI) fun _ => rfl) rfl (by decide))), trivial⟩⟩
    · exact dE (aU rfl (aU rfl (bC ⟨rfl, rfl, rfl, rfl, trivial⟩)))
   ·obtain ⟨x18, h19, h⟩ := bind_some h
    refine cE rfl (fC (i := 2) (aA rfl) iF rfl rfl rfl (fun _ => rfl) h19 rfl) ?_
    rintro _ ⟨v20, rfl⟩
    refine tr1 rfl (aH (v := .d (.lit v20)) (aA rfl) rfl rfl) ?_
    refine fB ?_
    refine aC ?_
    refine tr1 rfl (aD (v := .d (.lit (.int .i64 p_2_8))) (aA rfl) rfl rfl) ?_
    refine tr1 rfl (bT (aA rfl) rfl rfl rfl) ?_
    refine tr1 rfl (aH (v := .d (.lit (.int .i64 ((w64 (p_2_8 + 1)))))) (aA rfl) rfl rfl) ?_
    refine aG ?_
    exact ⟨(w64 (p_2_8 + 1), x18, v20), h, bE [0, 1, 2] rfl rfl (aU rfl (aU rfl (bC ⟨rfl, rfl, rfl, trivial⟩)))⟩
  ·have h := aY c13 h
   refine dA ?_
   refine .inl ⟨rfl, ?_⟩
   simp only [lA] at h
   simp only [pJ] at h
   refine aC ?_
   refine tr1 rfl (aD (v := .d (.lit (.int .i64 r_0_4))) (aA rfl) rfl rfl) ?_
   refine tr1 rfl (bT (aA rfl) rfl rfl rfl) ?_
   refine tr1 rfl (aH (v := .d (.lit (.int .i64 ((w64 (r_0_4 + 1)))))) (aA rfl) rfl rfl) ?_
   refine aG ?_
   exact ⟨(w64 (r_0_4 + 1), out_2_8, w9), h, bE [0, 1, 2] rfl rfl (aU rfl (aU rfl (bC ⟨rfl, rfl, trivial⟩)))⟩
 ·have h := aY c7 h
  refine dA ?_
  refine .inl ⟨rfl, ?_⟩
  simp only [pI] at h
  refine aF ?_
  refine aC ?_
  refine tr1 rfl (aD (v := .d (.lit w5)) (aA rfl) rfl rfl) ?_
  refine tr1 rfl (aH (v := .d (.lit w5)) (aA rfl) rfl rfl) ?_
  refine aG ?_
  have h := Option.some.inj h
  subst h
  refine cQ (cF (fM (k := 4) (v := .d (.sl 4 (out_0_4.map bI))) (.d (gQ 2 rfl (dD (f := bI) fun _ => rfl))) (qL))) ?_
  exact bU ⟨rfl, _, .one _, rfl, rfl⟩

theorem aAf (t_0 : bD) (l_1 : List aK) {r : (List bK) × Int} (h : iC t_0 l_1 = some r) : Fn Try.prog 80 [.agg (bG t_0), .d (.sl 5 (l_1.map aS))] (.tup [.d (.sl 4 (r.1.map bI)), .d (.lit (.int .i64 r.2))]) := by
 unfold iC at h
 refine Fn.of_tr Try.func80 rfl (rs := [.tmp 4, .tmp 5]) Try.results80 Try.ntmps80 (Nat.le_of_ble_eq_true rfl) ?_
 refine aF ?_
 refine aC ?_
 refine cE rfl (eC (v := .agg (bG t_0)) (aA rfl) rfl rfl rfl) ?_
 rintro _ ⟨b1, rfl⟩
 refine tr1 rfl (fZ 4 (aA rfl)) ?_
 refine tr1 rfl (aH (v := .d (.lit (.int .i64 0))) (aA rfl) rfl rfl) ?_
 refine aG ?_
 refine aF ?_
 refine aF ?_
 refine aC ?_
 refine tr1 rfl (bN (aA rfl) rfl (i := 0) rfl fO (es := (bG t_0)) rfl rfl) ?_
 refine tr1 rfl (aD (v := .d (.sl 5 (l_1.map aS))) (aA rfl) rfl rfl) ?_
 obtain ⟨r2, h3, h⟩ := bind_some h
 refine tr1 rfl (cL (aA rfl) (.func _ _ Try.call78) rfl rfl (BVs.refl _ _) (pX _ _ h3) rfl) ?_
 refine tr1 rfl (aH (v := .d (.lit (.int .i64 r2))) (aA rfl) rfl rfl) ?_
 refine aG ?_
 refine aF ?_
 refine aC ?_
 refine tr1 rfl (aD (v := .d (.lit (.int .i64 r2))) (aA rfl) rfl rfl) ?_
 refine tr1 rfl (bR (aA rfl) rfl rfl rfl) ?_
 refine aG ?_
 refine cA rfl (fun c4 => ?_) (fun c4 => ?_)
 ·have h := aX c4 h
  refine aF ?_
  refine aC ?_
  refine tr1 rfl (aD (v := .d (.lit (.int .i64 r2))) (aA rfl) rfl rfl) ?_
  refine tr1 rfl (fZ 4 (aA rfl)) ?_
  refine tr1 rfl (aH (v := .d (.lit (.int .i64 r2))) (aA rfl) rfl rfl) ?_
  refine aG ?_
  have h := Option.some.inj h
  subst h
  refine cQ (cF (cN (l := [4, 5]) ⟨rfl, rfl, trivial⟩)) ?_
  exact bU ⟨rfl, _, .two _ _, rfl, rfl⟩
 ·have h := aY c4 h
  refine bX ?_
  refine aF ?_
  refine aC ?_
  refine tr1 rfl (bN (aA rfl) rfl (i := 0) rfl fO (es := (bG t_0)) rfl rfl) ?_
  refine tr1 rfl (aD (v := .d (.sl 5 (l_1.map aS))) (aA rfl) rfl rfl) ?_
  obtain ⟨r5, h6, h⟩ := bind_some h
  refine tr1 rfl (fT (aA rfl) (.func _ _ Try.call99) rfl rfl (qS _ _ h6)) ?_
  refine tr1 rfl (aD (v := .tup [.agg (cP r5.1), .d (.lit (.bool r5.2))]) (aA rfl) rfl rfl) ?_
  refine tr1 rfl (cD (aA rfl) rfl rfl) ?_
  refine tr1 rfl (cD (aA rfl) rfl rfl) ?_
  refine cE rfl (dM (zs := [.sl 1 ((([] : List Int)).map aP), .sl 1 ((([] : List (List Int))).map jR)]) (aA rfl) Try.zeroValue144 rfl rfl) ?_
  rintro _ ⟨b7, rfl⟩
  refine tr1 rfl (cM (i := 1) rfl rfl rfl rfl rfl Try.sizeOf144 rfl (aA rfl) (Nat.le_of_ble_eq_true rfl) (ds' := (cP r5.1)) rfl) ?_
  refine tr1 rfl (aH (v := .d (.lit (.bool r5.2))) (aA rfl) rfl rfl) ?_
  refine aG ?_
  refine aF ?_
  refine aC ?_
  refine tr1 rfl (bN (aA rfl) rfl (i := 0) rfl fO (es := (bG t_0)) rfl rfl) ?_
  refine tr1 rfl (bN (aA rfl) rfl (i := 1) rfl qK (es := (cP r5.1)) rfl rfl) ?_
  obtain ⟨r8, h9, h⟩ := bind_some h
  refine tr1 rfl (fT (aA rfl) (.func _ _ Try.call100) rfl rfl (aAg _ _ h9)) ?_
  refine tr1 rfl (aH (v := .d (.sl 4 (r8.map bI))) (aA rfl) rfl rfl) ?_
  refine tr1 rfl (aH (v := .d (.lit (.int .i64 0))) (aA rfl) rfl rfl) ?_
  refine aG ?_
  have h := Option.some.inj h
  subst h
  refine cQ (cF (cN (l := [4, 5]) ⟨rfl, rfl, trivial⟩)) ?_
  exact bU ⟨rfl, _, .two _ _, rfl, rfl⟩

theorem aDr (a0 : bD) (a1 : List aK) {r : (List bK) × Int} (h : nG a0 a1 = some r) : Fn Try.prog 75 [.agg (bG a0), .d (.sl 5 (a1.map aS))] ((fun x : (List bK) × Int => .tup [.d (.sl 4 (x.1.map bI)), .d (.lit (.int .i64 x.2))]) r) := aHg (enc := fun x : (List bK) × Int => .tup [.d (.sl 4 (x.1.map bI)), .d (.lit (.int .i64 x.2))]) (aDq a0 a1 (aCc a0 a1 h (fun x => x = r) rfl))

theorem wA (t_0 : bD) (l_1 : List aK) (round_2 : Int) (place_3 : Int) {r : Int} (h : gP t_0 l_1 round_2 place_3 = some r) : Fn Try.prog 101 [.agg (bG t_0), .d (.sl 5 (l_1.map aS)), .d (.lit (.int .i64 round_2)), .d (.lit (.int .i64 place_3))] (.d (.lit (.int .i64 r))) := by
 unfold gP at h
 refine Fn.of_tr Try.func101 rfl (rs := [.tmp 8]) Try.results101 Try.ntmps101 (Nat.le_of_ble_eq_true rfl) ?_
 refine aF ?_
 refine aC ?_
 refine cE rfl (eC (v := .agg (bG t_0)) (aA rfl) rfl rfl rfl) ?_
 rintro _ ⟨b1, rfl⟩
 refine tr1 rfl (aH (v := .d (.lit (.int .i64 0))) (aA rfl) rfl rfl) ?_
 refine aG ?_
 refine aF ?_
 refine aF ?_
 refine aC ?_
 refine tr1 rfl (bN (aA rfl) rfl (i := 0) rfl fO (es := (bG t_0)) rfl rfl) ?_
 refine tr1 rfl (aD (v := .d (.sl 5 (l_1.map aS))) (aA rfl) rfl rfl) ?_
 obtain ⟨r2, h3, h⟩ := bind_some h
 refine tr1 rfl (cL (aA rfl) (.func _ _ Try.call78) rfl rfl (BVs.refl _ _) (pX _ _ h3) rfl) ?_
 refine tr1 rfl (aH (v := .d (.lit (.int .i64 r2))) (aA rfl) rfl rfl) ?_
 refine aG ?_
 refine aF ?_
 refine aC ?_
 refine tr1 rfl (aD (v := .d (.lit (.int .i64 r2))) (aA rfl) rfl rfl) ?_
 refine tr1 rfl (bR (aA rfl) rfl rfl rfl) ?_
 refine aG ?_
 refine cA rfl (fun c4 => ?_) (fun c4 => ?_)
 ·have h := aX c4 h
  refine aF ?_
  refine aC ?_
  refine tr1 rfl (aD (v := .d (.lit (.int .i64 r2))) (aA rfl) rfl rfl) ?_
  refine tr1 rfl (aH (v := .d (.lit (.int .i64 r2))) (aA rfl) rfl rfl) ?_
  refine aG ?_
  have h := Option.some.inj h
  subst h
  refine cQ (cF (cN (l := [8]) ⟨rfl, trivial⟩)) ?_
  exact bU ⟨rfl, _, .one _, rfl, rfl⟩
 ·have h := aY c4 h
  refine bX ?_
  refine aF ?_
  refine aF ?_
  refine aC ?_
  refine tr1 rfl (bN (aA rfl) rfl (i := 0) rfl fO (es := (bG t_0)) rfl rfl) ?_
  refine tr1 rfl (aD (v := .d (.lit (.int .i64 round_2))) (aA rfl) rfl rfl) ?_
  refine tr1 rfl (aD (v := .d (.lit (.int .i64 place_3))) (aA rfl) rfl rfl) ?_
  obtain ⟨r5, h6, h⟩ := bind_some h
  refine tr1 rfl (cL (aA rfl) (.func _ _ Try.call115) rfl rfl (BVs.refl _ _) (rY _ _ _ h6) rfl) ?_
  refine tr1 rfl (dZ (aA rfl) rfl) ?_
  refine aG ?_
  refine cA rfl (fun c7 => ?_) (fun c7 => ?_)
  ·have h := aX c7 h
   refine aF ?_
   refine aC ?_
   refine tr1 rfl (aH (v := .d (.lit (.int .i64 1))) (aA rfl) rfl rfl) ?_
   refine aG ?_
   have h := Option.some.inj h
   subst h
   refine cQ (cF (cN (l := [8]) ⟨rfl, trivial⟩)) ?_
   exact bU ⟨rfl, _, .one _, rfl, rfl⟩
  ·have h := aY c7 h
   refine bX ?_
   refine aF ?_
   refine aC ?_
   refine tr1 rfl (aH (v := .d (.lit (.int .i64 0))) (aA rfl) rfl rfl) ?_
   refine aG ?_
   have h := Option.some.inj h
   subst h
   refine cQ (cF (cN (l := [8]) ⟨rfl, trivial⟩)) ?_
   exact bU ⟨rfl, _, .one _, rfl, rfl⟩

theorem zT (t_0 : bD) (l_1 : List aK) (round_2 : Int) (place_3 : Int) {r : Int × Int} (h : eY t_0 l_1 round_2 place_3 = some r) : Fn Try.prog 81 [.agg (bG t_0), .d (.sl 5 (l_1.map aS)), .d (.lit (.int .i64 round_2)), .d (.lit (.int .i64 place_3))] (.tup [.d (.lit (.int .i64 r.1)), .d (.lit (.int .i64 r.2))]) := by
 unfold eY at h
 refine Fn.of_tr Try.func81 rfl (rs := [.tmp 8, .tmp 9]) Try.results81 Try.ntmps81 (Nat.le_of_ble_eq_true rfl) ?_
 refine aF ?_
 refine aC ?_
 refine cE rfl (eC (v := .agg (bG t_0)) (aA rfl) rfl rfl rfl) ?_
 rintro _ ⟨b1, rfl⟩
 refine tr1 rfl (aH (v := .d (.lit (.int .i64 0))) (aA rfl) rfl rfl) ?_
 refine tr1 rfl (aH (v := .d (.lit (.int .i64 0))) (aA rfl) rfl rfl) ?_
 refine aG ?_
 refine aF ?_
 refine aF ?_
 refine aC ?_
 refine tr1 rfl (bN (aA rfl) rfl (i := 0) rfl fO (es := (bG t_0)) rfl rfl) ?_
 refine tr1 rfl (aD (v := .d (.sl 5 (l_1.map aS))) (aA rfl) rfl rfl) ?_
 refine tr1 rfl (aD (v := .d (.lit (.int .i64 round_2))) (aA rfl) rfl rfl) ?_
 refine tr1 rfl (aD (v := .d (.lit (.int .i64 place_3))) (aA rfl) rfl rfl) ?_
 obtain ⟨r2, h3, h⟩ := bind_some h
 refine tr1 rfl (cL (aA rfl) (.func _ _ Try.call101) rfl rfl (BVs.refl _ _) (wA _ _ _ _ h3) rfl) ?_
 refine tr1 rfl (aH (v := .d (.lit (.int .i64 r2))) (aA rfl) rfl rfl) ?_
 refine aG ?_
 refine aF ?_
 refine aC ?_
 refine tr1 rfl (aD (v := .d (.lit (.int .i64 r2))) (aA rfl) rfl rfl) ?_
 refine tr1 rfl (bR (aA rfl) rfl rfl rfl) ?_
 refine aG ?_
 refine cA rfl (fun c4 => ?_) (fun c4 => ?_)
 ·have h := aX c4 h
  refine aF ?_
  refine aC ?_
  refine tr1 rfl (aD (v := .d (.lit (.int .i64 r2))) (aA rfl) rfl rfl) ?_
  refine tr1 rfl (aH (v := .d (.lit (.int .i64 0))) (aA rfl) rfl rfl) ?_
  refine tr1 rfl (aH (v := .d (.lit (.int .i64 r2))) (aA rfl) rfl rfl) ?_
  refine aG ?_
  have h := Option.some.inj h
  subst h
  refine cQ (cF (cN (l := [8, 9]) ⟨rfl, rfl, trivial⟩)) ?_
  exact bU ⟨rfl, _, .two _ _, rfl, rfl⟩
 ·have h := aY c4 h
  refine bX ?_
  refine aF ?_
  refine aC ?_
  refine tr1 rfl (bN (aA rfl) rfl (i := 0) rfl fO (es := (bG t_0)) rfl rfl) ?_
  refine tr1 rfl (aD (v := .d (.sl 5 (l_1.map aS))) (aA rfl) rfl rfl) ?_
  obtain ⟨r5, h6, h⟩ := bind_some h
  refine tr1 rfl (fT (aA rfl) (.func _ _ Try.call99) rfl rfl (qS _ _ h6)) ?_
  refine tr1 rfl (aD (v := .tup [.agg (cP r5.1), .d (.lit (.bool r5.2))]) (aA rfl) rfl rfl) ?_
  refine tr1 rfl (cD (aA rfl) rfl rfl) ?_
  refine tr1 rfl (cD (aA rfl) rfl rfl) ?_
  refine cE rfl (dM (zs := [.sl 1 ((([] : List Int)).map aP), .sl 1 ((([] : List (List Int))).map jR)]) (aA rfl) Try.zeroValue144 rfl rfl) ?_
  rintro _ ⟨b7, rfl⟩
  refine tr1 rfl (cM (i := 1) rfl rfl rfl rfl rfl Try.sizeOf144 rfl (aA rfl) (Nat.le_of_ble_eq_true rfl) (ds' := (cP r5.1)) rfl) ?_
  refine tr1 rfl (aH (v := .d (.lit (.bool r5.2))) (aA rfl) rfl rfl) ?_
  refine aG ?_
  refine aF ?_
  refine aF ?_
  refine aC ?_
  refine tr1 rfl (aN (aA rfl) rfl nM) ?_
  refine tr1 rfl (aR (aA rfl) rfl (i := 1) rfl rfl rQ) ?_
  refine tr1 rfl (aD (v := .d (.lit (.int .i64 round_2))) (aA rfl) rfl rfl) ?_
  obtain ⟨x8, h9, h⟩ := bind_some h
  refine tr1 rfl (bJ (aA rfl) rfl rfl sO.of (bP jR h9)) ?_
  refine tr1 rfl (bZ (aA rfl) rfl dF) ?_
  refine tr1 rfl (aD (v := .d (.lit (.int .i64 place_3))) (aA rfl) rfl rfl) ?_
  obtain ⟨x10, h11, h⟩ := bind_some h
  refine tr1 rfl (bJ (aA rfl) rfl rfl cT.of (bP aP h11)) ?_
  refine tr1 rfl (bZ (aA rfl) rfl bL) ?_
  refine tr1 rfl (bR (aA rfl) rfl rfl rfl) ?_
  refine aG ?_
  refine cA rfl (fun c12 => ?_) (fun c12 => ?_)
  ·have h := aX c12 h
   refine aF ?_
   refine aC ?_
   refine tr1 rfl (aH (v := .d (.lit (.int .i64 0))) (aA rfl) rfl rfl) ?_
   refine tr1 rfl (aH (v := .d (.lit (.int .i64 3))) (aA rfl) rfl rfl) ?_
   refine aG ?_
   have h := Option.some.inj h
   subst h
   refine cQ (cF (cN (l := [8, 9]) ⟨rfl, rfl, trivial⟩)) ?_
   exact bU ⟨rfl, _, .two _ _, rfl, rfl⟩
  ·have h := aY c12 h
   refine bX ?_
   refine aF ?_
   refine aC ?_
   refine tr1 rfl (aN (aA rfl) rfl nM) ?_
   refine tr1 rfl (aR (aA rfl) rfl (i := 1) rfl rfl rQ) ?_
   refine tr1 rfl (aD (v := .d (.lit (.int .i64 round_2))) (aA rfl) rfl rfl) ?_
   obtain ⟨x13, h14, h⟩ := bind_some h
   refine tr1 rfl (bJ (aA rfl) rfl rfl sO.of (bP jR h14)) ?_
   refine tr1 rfl (bZ (aA rfl) rfl dF) ?_
   refine tr1 rfl (aD (v := .d (.lit (.int .i64 place_3))) (aA rfl) rfl rfl) ?_
   obtain ⟨x15, h16, h⟩ := bind_some h
   refine tr1 rfl (bJ (aA rfl) rfl rfl cT.of (bP aP h16)) ?_
   refine tr1 rfl (bZ (aA rfl) rfl bL) ?_
   refine tr1 rfl (aH (v := .d (.lit (.int .i64 x15))) (aA rfl) rfl rfl) ?_
   refine tr1 rfl (aH (v := .d (.lit (.int .i64 0))) (aA rfl) rfl rfl) ?_
   refine aG ?_
   have h := Option.some.inj h
   subst h
   refine cQ (cF (cN (l := [8, 9]) ⟨rfl, rfl, trivial⟩)) ?_
   exact bU ⟨rfl, _, .two _ _, rfl, rfl⟩

theorem aCu (a0 : bD) (a1 : List aK) (a2 : Int) (a3 : Int) {r : Int × Int} (h : oW a0 a1 a2 a3 = some r) : Fn Try.prog 45 [.agg (bG a0), .d (.sl 5 (a1.map aS)), .d (.lit (.int .i64 a2)), .d (.lit (.int .i64 a3))] ((fun x : Int × Int => .tup [.d (.lit (.int .i64 x.1)), .d (.lit (.int .i64 x.2))]) r) := aHg (enc := fun x : Int × Int => .tup [.d (.lit (.int .i64 x.1)), .d (.lit (.int .i64 x.2))]) (aCt a0 a1 a2 a3 (aAd a0 a1 a2 a3 h (fun x => x = r) rfl))

theorem aIq (t_0 : bD) (l_1 : List aK) (stages_2 : List cZ) {r : (List cI) × (List bK) × Int} (h : mH t_0 l_1 stages_2 = some r) : Fn Try.prog 42 [.agg (bG t_0), .d (.sl 5 (l_1.map aS)), .d (.sl 3 (stages_2.map cY))] (.tup [.d (.sl 6 (r.1.map aQ)), .d (.sl 4 (r.2.1.map bI)), .d (.lit (.int .i64 r.2.2))]) := by
 unfold mH at h
 refine Fn.of_tr Try.func42 rfl (rs := [.tmp 6, .tmp 7, .tmp 8]) Try.results42 Try.ntmps42 (Nat.le_of_ble_eq_true rfl) ?_
 refine aF ?_
 refine aC ?_
 refine cE rfl (eC (v := .agg (bG t_0)) (aA rfl) rfl rfl rfl) ?_
 rintro _ ⟨b1, rfl⟩
 refine tr1 rfl (fZ 6 (aA rfl)) ?_
 refine tr1 rfl (fZ 4 (aA rfl)) ?_
 refine tr1 rfl (aH (v := .d (.lit (.int .i64 0))) (aA rfl) rfl rfl) ?_
 refine aG ?_
 refine aF ?_
 refine aC ?_
 refine tr1 rfl (bN (aA rfl) rfl (i := 0) rfl fO (es := (bG t_0)) rfl rfl) ?_
 refine tr1 rfl (aD (v := .d (.sl 5 (l_1.map aS))) (aA rfl) rfl rfl) ?_
 obtain ⟨r2, h3, h⟩ := bind_some h
 refine tr1 rfl (fT (aA rfl) (.func _ _ Try.call75) rfl rfl (aDr _ _ h3)) ?_
 refine tr1 rfl (aD (v := .tup [.d (.sl 4 (r2.1.map bI)), .d (.lit (.int .i64 r2.2))]) (aA rfl) rfl rfl) ?_
 refine tr1 rfl (cD (aA rfl) rfl rfl) ?_
 refine tr1 rfl (cD (aA rfl) rfl rfl) ?_
 refine tr1 rfl (aH (v := .d (.sl 4 (r2.1.map bI))) (aA rfl) rfl rfl) ?_
 refine tr1 rfl (aH (v := .d (.lit (.int .i64 r2.2))) (aA rfl) rfl rfl) ?_
 refine aG ?_
 refine aF ?_
 refine aF ?_
 refine aC ?_
 refine tr1 rfl (aD (v := .d (.lit (.int .i64 r2.2))) (aA rfl) rfl rfl) ?_
 refine tr1 rfl (bR (aA rfl) rfl rfl rfl) ?_
 refine aG ?_
 refine cA rfl (fun c4 => ?_) (fun c4 => ?_)
 ·have h := aX c4 h
  refine aF ?_
  refine aC ?_
  refine tr1 rfl (aD (v := .d (.lit (.int .i64 r2.2))) (aA rfl) rfl rfl) ?_
  refine tr1 rfl (fZ 6 (aA rfl)) ?_
  refine tr1 rfl (fZ 4 (aA rfl)) ?_
  refine tr1 rfl (aH (v := .d (.lit (.int .i64 r2.2))) (aA rfl) rfl rfl) ?_
  refine aG ?_
  have h := Option.some.inj h
  subst h
  refine cQ (cF (cN (l := [6, 7, 8]) ⟨rfl, rfl, rfl, trivial⟩)) ?_
  exact bU ⟨rfl, _, .three _ _ _, rfl, rfl⟩
 ·have h := aY c4 h
  refine bX ?_
  refine aF ?_
  refine aF ?_
  refine aC ?_
  refine tr1 rfl (aD (v := .d (.sl 3 (stages_2.map cY))) (aA rfl) rfl rfl) ?_
  refine tr1 rfl (dC (aA rfl) rfl pU.of) ?_
  refine tr1 rfl (aN (aA rfl) rfl kL) ?_
  refine tr1 rfl (aR (aA rfl) rfl (i := 0) rfl rfl bL) ?_
  refine tr1 rfl (bR (aA rfl) rfl rfl rfl) ?_
  refine tr1 rfl (aD (v := .d (.lit (.bool ((!decide ((stages_2.length : Int) = t_0.Rounds)))))) (aA rfl) rfl rfl) ?_
  obtain ⟨b5, h6, h⟩ := bind_some h
  refine cS 3 [1, 2, 3, 9] 37 b5 ?_ ?_
  ·refine bY (!decide ((stages_2.length : Int) = t_0.Rounds)) (fun c47 => ?_) (fun c47 => ?_)
   ·have h6 := aX c47 h6
    refine aO rfl rfl (aA rfl) rfl (aA rfl) rfl c47 ?_
    refine aO rfl rfl (aA rfl) rfl (aA rfl) rfl c47 ?_
    refine tr1 rfl (cC (v := .d (.lit (.bool true))) (aA rfl) rfl c47 rfl rfl) ?_
    have h6 := Option.some.inj h6
    subst h6
    refine aG (bM rfl ⟨rfl, rfl, rfl, rfl, trivial⟩ rfl)
   ·have h6 := aY c47 h6
    refine aM rfl rfl (aA rfl) rfl c47 (aD (v := .d (.sl 3 (stages_2.map cY))) (aA rfl) rfl rfl) ?_
    obtain ⟨r49, h50, h6⟩ := bind_some h6
    refine aM rfl rfl (aA rfl) rfl c47 (cL (aA rfl) (.func _ _ Try.call76) rfl rfl (BVs.refl _ _) (rT _ _ 77 [] Try.call77 (fun _ _ h6 => aGn _ h6) h50) rfl) ?_
    refine tr1 rfl (cB (v := .d (.lit (.bool r49))) (aA rfl) rfl c47 rfl rfl) ?_
    have h6 := Option.some.inj h6
    subst h6
    refine aG (bM rfl ⟨rfl, rfl, rfl, rfl, trivial⟩ rfl)
  ·refine aG ?_
   refine cA rfl (fun c7 => ?_) (fun c7 => ?_)
   ·have h := aX c7 h
    refine aF ?_
    refine aC ?_
    refine tr1 rfl (fZ 6 (aA rfl)) ?_
    refine tr1 rfl (fZ 4 (aA rfl)) ?_
    refine tr1 rfl (aH (v := .d (.lit (.int .i64 82))) (aA rfl) rfl rfl) ?_
    refine aG ?_
    have h := Option.some.inj h
    subst h
    refine cQ (cF (cN (l := [6, 7, 8]) ⟨rfl, rfl, rfl, trivial⟩)) ?_
    exact bU ⟨rfl, _, .three _ _ _, rfl, rfl⟩
   ·have h := aY c7 h
    refine bX ?_
    refine aF ?_
    refine aC ?_
    refine tr1 rfl (gA 36 6 (.inl rfl) (aA rfl)) ?_
    refine aG ?_
    refine aF ?_
    refine aC ?_
    refine tr1 rfl (gA 73 4 (.inl rfl) (aA rfl)) ?_
    refine aG ?_
    refine aF ?_
    refine aF ?_
    refine aC ?_
    refine tr1 rfl (aD (v := .d (.sl 4 (r2.1.map bI))) (aA rfl) rfl rfl) ?_
    refine tr1 rfl (dC (aA rfl) rfl iF.of) ?_
    refine tr1 rfl (aD (v := .d (.lit (.int .i64 0))) (aA rfl) rfl rfl) ?_
    refine aG ?_
    refine cO ?_
    refine dG [1, 2, 3, 38, 39] (fun (s10 : Int × (List cI) × (List bK) × Value × Value) => [(11, .d (.lit s10.2.2.2.1)), (12, .d (.lit s10.2.2.2.2)), (40, .d (.lit (.int .i64 s10.1)))]) (fun (s10 : Int × (List cI) × (List bK) × Value × Value) => [.box b1 0 (bG t_0), .arr s10.2.2.2.1 36 6 (s10.2.1.map aQ), .arr s10.2.2.2.2 73 4 (s10.2.2.1.map bI)]) (fun (k : Nat) (s10 : Int × (List cI) × (List bK) × Value × Value) => iG l_1 stages_2 r2.1 (r2.1.length : Int) t_0 k s10.1 s10.2.1 s10.2.2.1) (fun _ => rfl) (0, ([] : List cI), ([] : List bK), (.slice none 0 0), (.slice none 0 0)) h (bE [0, 1, 2] rfl rfl (aU rfl (aU rfl (aU rfl (bC ⟨rfl, rfl, rfl, rfl, rfl, trivial⟩))))) ?_
    rintro k13 ⟨t40_0_10, jobs_0_10, bouts_0_10, w11, w12⟩ h
    simp only [iG] at h
    refine aF ?_
    refine aC ?_
    refine tr1 rfl (bR (aA rfl) rfl rfl rfl) ?_
    refine aG ?_
    refine aF ?_
    refine cA rfl (fun c14 => ?_) (fun c14 => ?_)
    ·have h := aX c14 h
     refine bX ?_
     refine aF ?_
     refine cO ?_
     refine aF ?_
     refine aC ?_
     obtain ⟨x15, h16, h⟩ := bind_some h
     refine tr1 rfl (bJ (aA rfl) rfl rfl iF.of (bP bI h16)) ?_
     refine tr1 rfl (dB (aA rfl) rfl vC (es := (bI x15)) rfl rfl) ?_
     refine cE rfl (dM (zs := [.lit (.int .i64 0), .lit (.int .i64 0), .lit (.int .i64 0), .lit (.int .i64 0)]) (aA rfl) Try.zeroValue73 rfl rfl) ?_
     rintro _ ⟨b17, rfl⟩
     refine tr1 rfl (cM (i := 3) rfl rfl rfl rfl rfl Try.sizeOf73 rfl (aA rfl) (Nat.le_of_ble_eq_true rfl) (ds' := (bI x15)) rfl) ?_
     refine aG ?_
     refine aF ?_
     refine aF ?_
     refine aC ?_
     refine tr1 rfl (bN (aA rfl) rfl (i := 0) rfl fO (es := (bG t_0)) rfl rfl) ?_
     refine tr1 rfl (aD (v := .d (.sl 5 (l_1.map aS))) (aA rfl) rfl rfl) ?_
     refine tr1 rfl (aN (aA rfl) rfl lY) ?_
     refine tr1 rfl (aR (aA rfl) rfl (i := 3) rfl rfl bL) ?_
     refine tr1 rfl (aN (aA rfl) rfl tA) ?_
     refine tr1 rfl (aR (aA rfl) rfl (i := 3) rfl rfl bL) ?_
     obtain ⟨r18, h19, h⟩ := bind_some h
     refine tr1 rfl (cL (aA rfl) (.func _ _ Try.call45) rfl rfl (BVs.refl _ _) (aCu _ _ _ _ h19) rfl) ?_
     refine tr1 rfl (aD (v := .tup [.d (.lit (.int .i64 r18.1)), .d (.lit (.int .i64 r18.2))]) (aA rfl) rfl rfl) ?_
     refine tr1 rfl (cD (aA rfl) rfl rfl) ?_
     refine tr1 rfl (cD (aA rfl) rfl rfl) ?_
     refine tr1 rfl (aH (v := .d (.lit (.int .i64 r18.1))) (aA rfl) rfl rfl) ?_
     refine tr1 rfl (aH (v := .d (.lit (.int .i64 r18.2))) (aA rfl) rfl rfl) ?_
     refine aG ?_
     refine aF ?_
     refine aC ?_
     refine tr1 rfl (aD (v := .d (.lit (.int .i64 r18.2))) (aA rfl) rfl rfl) ?_
     refine tr1 rfl (bR (aA rfl) rfl rfl rfl) ?_
     refine aG ?_
     refine cA rfl (fun c20 => ?_) (fun c20 => ?_)
     ·have h := aX c20 h
      refine dA ?_
      refine .inl ⟨rfl, ?_⟩
      simp only [oI] at h
      refine aC ?_
      refine tr1 rfl (bT (aA rfl) rfl rfl rfl) ?_
      refine tr1 rfl (aD (v := .d (.lit (.int .i64 ((w64 (t40_0_10 + 1)))))) (aA rfl) rfl rfl) ?_
      refine aG ?_
      exact ⟨(w64 (t40_0_10 + 1), jobs_0_10, bouts_0_10, w11, w12), h, bE [0, 1, 2] rfl rfl (aU rfl (aU rfl (aU rfl (bC ⟨rfl, rfl, rfl, rfl, rfl, trivial⟩))))⟩
     ·have h := aY c20 h
      refine bX ?_
      refine aF ?_
      obtain ⟨x22, h23, h⟩ := bind_some h
      obtain ⟨x24, h25, h⟩ := bind_some h
      refine gN mix 14 [1, 2, 3, 11, 12, 14, 38, 39, 40] (fun X21 => [(17, .bp (X21 13).b 0 0), (68, .agg [.lit (.int .i64 x22.Length.Low), .lit (.int .i64 x22.Length.High), .lit (.slice none 0 0), .sl 1 ((([] : List Int)).map aP), .lit (.int .i64 x24.Due), .lit (.int .i64 0)])]) (fun X21 => [.box b1 0 (bG t_0), .arr w11 36 6 (jobs_0_10.map aQ), .arr w12 73 4 (bouts_0_10.map bI), .box b17 0 (bI x15), .box (X21 13).b 0 [.lit (.int .i64 0), .lit (.int .i64 0), .lit (.slice none 0 0), .sl 1 ((([] : List Int)).map aP), .lit (.int .i64 0), .lit (.int .i64 0)]]) ?_ ?_
      ·refine ⟨1, fun X21 => [(56, 0, .d (.sl 3 (stages_2.map cY))), (57, 1, .bp b17 0 0), (58, 2, .d (.lit (.int .i64 x15.Round))), (59, 3, .cp [.lit (.int .i64 x22.Length.Low), .lit (.int .i64 x22.Length.High), .lit (.int .i64 x22.Due)]), (60, 4, .cp [.lit (.int .i64 x22.Length.Low), .lit (.int .i64 x22.Length.High)]), (61, 5, .agg (bF x22.Length)), (62, 6, .d (.sl 3 (stages_2.map cY))), (63, 7, .bp b17 0 0), (64, 8, .d (.lit (.int .i64 x15.Round))), (65, 9, .cp [.lit (.int .i64 x24.Length.Low), .lit (.int .i64 x24.Length.High), .lit (.int .i64 x24.Due)]), (66, 10, .cp [.lit (.int .i64 x24.Due)]), (67, 11, .d (.lit (.int .i64 x24.Due))), (68, 12, .agg [.lit (.int .i64 x22.Length.Low), .lit (.int .i64 x22.Length.High), .lit (.slice none 0 0), .sl 1 ((([] : List Int)).map aP), .lit (.int .i64 x24.Due), .lit (.int .i64 0)]), (17, 13, .bp (X21 13).b 0 0)], fun X21 => [([], .box b1 0 (bG t_0)), ([], .arr w11 36 6 (jobs_0_10.map aQ)), ([], .arr w12 73 4 (bouts_0_10.map bI)), ([], .box b17 0 (bI x15)), ([(13, .box (X21 13).b 0 [.lit (.int .i64 0), .lit (.int .i64 0), .lit (.slice none 0 0), .sl 1 ((([] : List Int)).map aP), .lit (.int .i64 0), .lit (.int .i64 0)])], nob)], ?_, ?_⟩
       · exact ⟨by kernel_rfl, by kernel_rfl, by kernel_rfl, fun _ => by kernel_rfl, fun _ => by kernel_rfl, fun _ => by kernel_rfl, fun _ => rfl, [([], []), ([], []), ([1], []), ([0, 2], []), ([3], []), ([4], []), ([], []), ([], []), ([7], []), ([6, 8], []), ([9], []), ([10], []), ([5, 11], []), ([], [])], by kernel_rfl, ⟨fun X21 S hw hi hS => bH (X := X21) rfl (hw X21) rfl (aJ rfl (aD (v := .d (.sl 3 (stages_2.map cY))) (aA rfl) (aB hS rfl) rfl)),
      fun X21 S hw hi hS => bH (X := X21) rfl (hw X21) rfl (aJ rfl (aN (aA rfl) (aB hS rfl) lY)),
      fun X21 S hw hi hS => bH (X := X21) rfl (hw X21) rfl (aJ rfl (aR (aA rfl) (aB hS rfl) (i := 3) (og hS rfl rfl) rfl bL)),
      fun X21 S hw hi hS => bH (X := X21) rfl (hw X21) rfl (aJ rfl (bJ (aA rfl) (aB hS rfl) (aB hS rfl) pU.of (bP cY h23))),
      fun X21 S hw hi hS => bH (X := X21) rfl (hw X21) rfl (aJ rfl (cG (aA rfl) (aB hS rfl) yO (es := [.lit (.int .i64 x22.Length.Low), .lit (.int .i64 x22.Length.High)]) rfl)),
      fun X21 S hw hi hS => bH (X := X21) rfl (hw X21) rfl (aJ rfl (dB (aA rfl) (aB hS rfl) gW (es := (bF x22.Length)) rfl rfl)),
      fun X21 S hw hi hS => bH (X := X21) rfl (hw X21) rfl (aJ rfl (aD (v := .d (.sl 3 (stages_2.map cY))) (aA rfl) (aB hS rfl) rfl)),
      fun X21 S hw hi hS => bH (X := X21) rfl (hw X21) rfl (aJ rfl (aN (aA rfl) (aB hS rfl) lY)),
      fun X21 S hw hi hS => bH (X := X21) rfl (hw X21) rfl (aJ rfl (aR (aA rfl) (aB hS rfl) (i := 3) (og hS rfl rfl) rfl bL)),
      fun X21 S hw hi hS => bH (X := X21) rfl (hw X21) rfl (aJ rfl (bJ (aA rfl) (aB hS rfl) (aB hS rfl) pU.of (bP cY h25))),
      fun X21 S hw hi hS => bH (X := X21) rfl (hw X21) rfl (aJ rfl (cG (aA rfl) (aB hS rfl) yP (es := [.lit (.int .i64 x24.Due)]) rfl)),
      fun X21 S hw hi hS => bH (X := X21) rfl (hw X21) rfl (aJ rfl (bZ (aA rfl) (aB hS rfl) bL)),
      fun X21 S hw hi hS => bH (X := X21) rfl (hw X21) rfl (aJ rfl (eA (aA rfl) aBn (zs := [.lit (.int .i64 0), .lit (.int .i64 0), .lit (.slice none 0 0), .sl 1 ((([] : List Int)).map aP), .lit (.int .i64 0), .lit (.int .i64 0)]) rfl rfl rfl (pa2 (aB hS rfl) (pa2 (aB hS rfl) pan)) (es := [.lit (.int .i64 x22.Length.Low), .lit (.int .i64 x22.Length.High), .lit (.slice none 0 0), .sl 1 ((([] : List Int)).map aP), .lit (.int .i64 x24.Due), .lit (.int .i64 0)]) rfl)),
      fun X21 S hw hi hS => qZ (X := X21) (p := 4) (v := fun x => .bp x.b 0 0) (mo := fun x => .box x.b 0 [.lit (.int .i64 0), .lit (.int .i64 0), .lit (.slice none 0 0), .sl 1 ((([] : List Int)).map aP), .lit (.int .i64 0), .lit (.int .i64 0)]) hS hi rfl rfl (fun _ => rfl) hw (fun _ => rfl) (fun _ => rfl) (fun _ => rfl) (fun _ => ⟨rfl, rfl, .inr rfl, ⟨rfl, rfl, .inr rfl, ⟨rfl, rfl, .inr rfl, ⟨rfl, rfl, .inr rfl, ⟨rfl, rfl, .inr rfl, ⟨rfl, rfl, .inr rfl, ⟨rfl, rfl, .inr rfl, ⟨rfl, rfl, .inr rfl, ⟨rfl, rfl, .inr rfl, ⟨rfl, rfl, .inr rfl, ⟨rfl, rfl, .inr rfl, ⟨rfl, rfl, .inr rfl, ⟨rfl, rfl, .inr rfl, ⟨rfl, rfl, .inl rfl, trivial⟩⟩⟩⟩⟩⟩⟩⟩⟩⟩⟩⟩⟩⟩) (fun _ => ⟨trivial, rfl, ⟨trivial, rfl, ⟨trivial, rfl, ⟨trivial, rfl, ⟨⟨rfl, .inl rfl, trivial⟩, rfl, trivial⟩⟩⟩⟩⟩) (iL (dM (zs := [.lit (.int .i64 0), .lit (.int .i64 0), .lit (.slice none 0 0), .sl 1 ((([] : List Int)).map aP), .lit (.int .i64 0), .lit (.int .i64 0)]) (aA rfl) Try.zeroValue36 rfl rfl) (by rintro _ ⟨w, rfl⟩; exact ⟨⟨w, undef⟩, bE [0, 1, 2, 3, 5] rfl rfl (le_refl _)⟩)), trivial⟩⟩
       · exact fun X21 => dE (aU rfl (aU rfl (bC ⟨rfl, rfl, rfl, rfl, rfl, rfl, rfl, rfl, rfl, trivial⟩)))
      ·intro X21
       refine kH (rZ 3 1) ?_
       refine tr1 rfl (cM (i := 4) rfl rfl rfl rfl rfl Try.sizeOf36 rfl (aA rfl) (Nat.le_of_ble_eq_true rfl) (ds' := [.lit (.int .i64 x22.Length.Low), .lit (.int .i64 x22.Length.High), .lit (.slice none 0 0), .sl 1 ((([] : List Int)).map aP), .lit (.int .i64 x24.Due), .lit (.int .i64 0)]) rfl) ?_
       refine aG ?_
       refine aF ?_
       refine aF ?_
       refine aC ?_
       refine tr1 rfl (aD (v := .d (.lit w12)) (aA rfl) rfl rfl) ?_
       refine tr1 rfl (kN (m := 2) (aA rfl) rfl rfl iF.of) ?_
       refine tr1 rfl (aD (v := .d (.lit (.int .i64 0))) (aA rfl) rfl rfl) ?_
       refine aG ?_
       refine cO ?_
       refine dG [1, 2, 3, 11, 12, 14, 17, 38, 39, 40, 69, 70] (fun (s26 : Int × (List Int) × bO × (List Int) × Int × Int × Value) => [(71, .d (.lit (.int .i64 s26.1)))]) (fun (s26 : Int × (List Int) × bO × (List Int) × Int × Int × Value) => [.box b1 0 (bG t_0), .arr w11 36 6 (jobs_0_10.map aQ), .arr w12 73 4 (bouts_0_10.map bI), .box b17 0 (bI x15), .arr s26.2.2.2.2.2.2 3 1 (s26.2.1.map aP), .box (X21 13).b 0 [.lit (.int .i64 s26.2.2.1.Low), .lit (.int .i64 s26.2.2.1.High), .lit s26.2.2.2.2.2.2, .sl 1 (s26.2.2.2.1.map aP), .lit (.int .i64 s26.2.2.2.2.1), .lit (.int .i64 s26.2.2.2.2.2.1)]]) (fun (k : Nat) (s26 : Int × (List Int) × bO × (List Int) × Int × Int × Value) => lQ (iG l_1 stages_2 r2.1 (r2.1.length : Int) t_0 k13) l_1 stages_2 r2.1 (r2.1.length : Int) t40_0_10 (bouts_0_10.length : Int) t_0 jobs_0_10 bouts_0_10 x15 k s26.1 s26.2.1 s26.2.2.1 s26.2.2.2.1 s26.2.2.2.2.1 s26.2.2.2.2.2.1) (fun _ => rfl) (0, ([] : List Int), x22.Length, ([] : List Int), x24.Due, 0, (.slice none 0 0)) h (bE [0, 1, 2, 3, 5, 4] rfl rfl (aU rfl (bC ⟨rfl, rfl, rfl, rfl, rfl, rfl, rfl, rfl, rfl, rfl, rfl, rfl, trivial⟩))) ?_
       rintro k28 ⟨t71_2_26, j_2_26, j_2_26_2, j_2_26_3, j_2_26_4, j_2_26_5, w27⟩ h
       simp only [lQ] at h
       refine aF ?_
       refine aC ?_
       refine tr1 rfl (bR (aA rfl) rfl rfl rfl) ?_
       refine aG ?_
       refine aF ?_
       refine cA rfl (fun c29 => ?_) (fun c29 => ?_)
       ·have h := aX c29 h
        refine bX ?_
        refine aF ?_
        refine cO ?_
        refine aF ?_
        refine aC ?_
        refine tr1 rfl (aD (v := .d (.lit (.int .i64 t71_2_26))) (aA rfl) rfl rfl) ?_
        obtain ⟨x30, h31, h⟩ := bind_some h
        refine tr1 rfl (eG (m := 2) (aA rfl) rfl rfl rfl iF.of (bP bI h31)) ?_
        refine tr1 rfl (aEr (aA rfl) rfl (l := 2) rfl (jU bI h31) vC (es := (bI x30)) rfl rfl) ?_
        refine cE rfl (dM (zs := [.lit (.int .i64 0), .lit (.int .i64 0), .lit (.int .i64 0), .lit (.int .i64 0)]) (aA rfl) Try.zeroValue73 rfl rfl) ?_
        rintro _ ⟨b32, rfl⟩
        refine tr1 rfl (aH (v := .d (.lit (.int .i64 t71_2_26))) (aA rfl) rfl rfl) ?_
        refine tr1 rfl (cM (i := 6) rfl rfl rfl rfl rfl Try.sizeOf73 rfl (aA rfl) (Nat.le_of_ble_eq_true rfl) (ds' := (bI x30)) rfl) ?_
        refine aG ?_
        refine aF ?_
        refine aC ?_
        refine tr1 rfl (aN (aA rfl) rfl lY) ?_
        refine tr1 rfl (aR (aA rfl) rfl (i := 6) rfl rfl bL) ?_
        refine tr1 rfl (aN (aA rfl) rfl lY) ?_
        refine tr1 rfl (aR (aA rfl) rfl (i := 3) rfl rfl bL) ?_
        refine tr1 rfl (bT (aA rfl) rfl rfl rfl) ?_
        refine tr1 rfl (bR (aA rfl) rfl rfl rfl) ?_
        refine tr1 rfl (aD (v := .d (.lit (.bool ((decide (x30.Round = (w64 (x15.Round - 1)))))))) (aA rfl) rfl rfl) ?_
        obtain ⟨b33, h34, h⟩ := bind_some h
        refine cS 7 [1, 2, 3, 11, 12, 14, 17, 18, 38, 39, 40, 69, 70, 71] 89 b33 ?_ ?_
        ·refine bY (decide (x30.Round = (w64 (x15.Round - 1)))) (fun c39 => ?_) (fun c39 => ?_)
         ·have h34 := aX c39 h34
          refine aM rfl rfl (aA rfl) rfl c39 (aN (aA rfl) rfl tA) ?_
          refine aM rfl rfl (aA rfl) rfl c39 (aR (aA rfl) rfl (i := 6) rfl rfl bL) ?_
          refine aM rfl rfl (aA rfl) rfl c39 (aOc (aA rfl) rfl rfl (by decide)) ?_
          refine aM rfl rfl (aA rfl) rfl c39 (aN (aA rfl) rfl tA) ?_
          refine aM rfl rfl (aA rfl) rfl c39 (aR (aA rfl) rfl (i := 3) rfl rfl bL) ?_
          refine aM rfl rfl (aA rfl) rfl c39 (bR (aA rfl) rfl rfl rfl) ?_
          refine tr1 rfl (cC (v := .d (.lit (.bool ((decide ((w64 (x30.Place.tdiv 2)) = x15.Place)))))) (aA rfl) rfl c39 rfl rfl) ?_
          have h34 := Option.some.inj h34
          subst h34
          refine aG (bM rfl ⟨rfl, rfl, rfl, rfl, rfl, rfl, rfl, rfl, rfl, rfl, rfl, rfl, rfl, rfl, trivial⟩ rfl)
         ·have h34 := aY c39 h34
          refine aO rfl rfl (aA rfl) rfl (aA rfl) rfl c39 ?_
          refine aO rfl rfl (aA rfl) rfl (aA rfl) rfl c39 ?_
          refine aO rfl rfl (aA rfl) rfl (aA rfl) rfl c39 ?_
          refine aO rfl rfl (aA rfl) rfl (aA rfl) rfl c39 ?_
          refine aO rfl rfl (aA rfl) rfl (aA rfl) rfl c39 ?_
          refine aO rfl rfl (aA rfl) rfl (aA rfl) rfl c39 ?_
          refine tr1 rfl (cB (v := .d (.lit (.bool false))) (aA rfl) rfl c39 rfl rfl) ?_
          have h34 := Option.some.inj h34
          subst h34
          refine aG (bM rfl ⟨rfl, rfl, rfl, rfl, rfl, rfl, rfl, rfl, rfl, rfl, rfl, rfl, rfl, rfl, trivial⟩ rfl)
        ·refine aG ?_
         refine cA rfl (fun c35 => ?_) (fun c35 => ?_)
         ·have h := aX c35 h
          refine aC ?_
          refine tr1 rfl (aN (aA rfl) rfl jJ) ?_
          refine tr1 rfl (aR (aA rfl) rfl (i := 5) rfl rfl dF) ?_
          refine tr1 rfl (aD (v := .d (.lit (.int .i64 t71_2_26))) (aA rfl) rfl rfl) ?_
          refine tr1 rfl (eW (aA rfl) cT rfl rfl (rows := ([t71_2_26]).map aP) rfl (dD (f := aP) fun _ => rfl) rfl (by decide)) ?_
          obtain ⟨x36, h37, h⟩ := bind_some h
          refine cE rfl (fC (i := 4) (aA rfl) cT rfl rfl rfl (fun _ => rfl) h37 rfl) ?_
          rintro _ ⟨v38, rfl⟩
          refine tr1 rfl (aN (aA rfl) rfl jJ) ?_
          refine tr1 rfl (cM (i := 5) rfl rfl rfl rfl rfl Try.sizeOf27 rfl (aA rfl) (Nat.le_of_ble_eq_true rfl) (ds' := [.lit (.int .i64 j_2_26_2.Low), .lit (.int .i64 j_2_26_2.High), .lit v38, .sl 1 (j_2_26_3.map aP), .lit (.int .i64 j_2_26_4), .lit (.int .i64 j_2_26_5)]) rfl) ?_
          refine fB ?_
          refine aC ?_
          refine tr1 rfl (bT (aA rfl) rfl rfl rfl) ?_
          refine tr1 rfl (aD (v := .d (.lit (.int .i64 ((w64 (t71_2_26 + 1)))))) (aA rfl) rfl rfl) ?_
          refine aG ?_
          exact ⟨(w64 (t71_2_26 + 1), x36, j_2_26_2, j_2_26_3, j_2_26_4, j_2_26_5, v38), h, bE [0, 1, 2, 3, 4, 5] rfl rfl (aU rfl (bC ⟨rfl, rfl, rfl, rfl, rfl, rfl, rfl, rfl, rfl, rfl, rfl, rfl, trivial⟩))⟩
         ·have h := aY c35 h
          refine dY ?_
          refine aC ?_
          refine tr1 rfl (bT (aA rfl) rfl rfl rfl) ?_
          refine tr1 rfl (aD (v := .d (.lit (.int .i64 ((w64 (t71_2_26 + 1)))))) (aA rfl) rfl rfl) ?_
          refine aG ?_
          exact ⟨(w64 (t71_2_26 + 1), j_2_26, j_2_26_2, j_2_26_3, j_2_26_4, j_2_26_5, w27), h, bE [0, 1, 2, 3, 4, 5] rfl rfl (aU rfl (bC ⟨rfl, rfl, rfl, rfl, rfl, rfl, rfl, rfl, rfl, rfl, rfl, rfl, trivial⟩))⟩
       ·have h := aY c29 h
        refine dA ?_
        refine .inl ⟨rfl, ?_⟩
        simp only [sD] at h
        apply aPy [.box b1 0 (bG t_0), .arr w11 36 6 (jobs_0_10.map aQ), .arr w12 73 4 (bouts_0_10.map bI), .box b17 0 (bI x15)] [.arr w27 3 1 (j_2_26.map aP), .box (X21 13).b 0 [.lit (.int .i64 j_2_26_2.Low), .lit (.int .i64 j_2_26_2.High), .lit w27, .sl 1 (j_2_26_3.map aP), .lit (.int .i64 j_2_26_4), .lit (.int .i64 j_2_26_5)]] rfl
        exact fM (k := 17) (v := .cp [.lit (.int .i64 j_2_26_2.Low), .lit (.int .i64 j_2_26_2.High), .sl 1 (j_2_26.map aP), .sl 1 (j_2_26_3.map aP), .lit (.int .i64 j_2_26_4), .lit (.int .i64 j_2_26_5)]) ((tK 1 rfl rfl (dvc (.same _) (dvc (.same _) (dvc (gQ 0 rfl (dD (f := aP) fun _ => rfl)) (dvc (.same _) (dvc (.same _) (dvc (.same _) dvn)))))))) (aCs _ _)
        obtain ⟨x41, h42, h⟩ := bind_some h
        refine gN mix 7 [1, 2, 3, 38, 39, 40] (fun X40 => [(100, .d (.lit (X40 3).v)), (101, .d (.lit w12)), (103, .d (.sl 4 (([x15]).map bI)))]) (fun X40 => [.box b1 0 (bG t_0), .arr (X40 3).v 36 6 (x41.map aQ), .arr w12 73 4 (bouts_0_10.map bI), .box b17 0 (bI x15)]) ?_ ?_
        ·refine ⟨0, fun X40 => [(97, 0, .d (.lit w11)), (98, 1, .agg (aQ (cI.mk j_2_26_2 j_2_26 j_2_26_3 j_2_26_4 j_2_26_5))), (99, 2, .d (.sl 6 ((([(cI.mk j_2_26_2 j_2_26 j_2_26_3 j_2_26_4 j_2_26_5)])).map aQ))), (100, 3, .d (.lit (X40 3).v)), (101, 4, .d (.lit w12)), (102, 5, .agg (bI x15)), (103, 6, .d (.sl 4 (([x15]).map bI)))], fun X40 => [([], .box b1 0 (bG t_0)), ([(3, .arr (X40 3).v 36 6 (x41.map aQ))], .arr w11 36 6 (jobs_0_10.map aQ)), ([], .arr w12 73 4 (bouts_0_10.map bI)), ([], .box b17 0 (bI x15))], ?_, ?_⟩
         · exact ⟨by kernel_rfl, by kernel_rfl, by kernel_rfl, fun _ => by kernel_rfl, fun _ => by kernel_rfl, fun _ => by kernel_rfl, fun _ => rfl, [([], [3]), ([], [3]), ([1], [3]), ([0, 2], []), ([], []), ([], []), ([5], [])], by kernel_rfl, ⟨fun X40 S hw hi hS => bH (X := X40) rfl (hw X40) rfl (aJ rfl (aD (v := .d (.lit w11)) (aA rfl) (aB hS rfl) rfl)),
      fun X40 S hw hi hS => bH (X := X40) rfl (hw X40) rfl (aJ rfl (dB (aA rfl) (aB hS rfl) xE (es := (aQ (cI.mk j_2_26_2 j_2_26 j_2_26_3 j_2_26_4 j_2_26_5))) rfl rfl)),
      fun X40 S hw hi hS => bH (X := X40) rfl (hw X40) rfl (aJ rfl (eW (aA rfl) dW rfl (pa2 (aB hS rfl) pan) (rows := ([(cI.mk j_2_26_2 j_2_26 j_2_26_3 j_2_26_4 j_2_26_5)]).map aQ) rfl (dD (f := aQ) fun _ => rfl) rfl (by decide))),
      fun X40 S hw hi hS => qZ (X := X40) (p := 1) (v := fun x => .d (.lit x.v)) (mo := fun x => .arr x.v 36 6 (x41.map aQ)) hS hi rfl rfl (fun _ => rfl) hw (fun _ => rfl) (fun _ => rfl) (fun _ => rfl) (fun _ => ⟨rfl, rfl, .inr rfl, ⟨rfl, rfl, .inr rfl, ⟨rfl, rfl, .inr rfl, ⟨rfl, rfl, .inl rfl, ⟨rfl, rfl, .inr rfl, ⟨rfl, rfl, .inr rfl, ⟨rfl, rfl, .inr rfl, trivial⟩⟩⟩⟩⟩⟩⟩) (fun _ => ⟨trivial, rfl, ⟨⟨rfl, .inl rfl, trivial⟩, rfl, ⟨trivial, rfl, ⟨trivial, rfl, trivial⟩⟩⟩⟩) (iL (fC (i := 1) (aA rfl) dW (aB hS rfl) (og hS rfl rfl) (aB hS rfl) (fun _ => rfl) h42 rfl) (by rintro _ ⟨w, rfl⟩; exact ⟨⟨0, w⟩, Ent.refl _⟩)),
      fun X40 S hw hi hS => bH (X := X40) rfl (hw X40) rfl (aJ rfl (aD (v := .d (.lit w12)) (aA rfl) (aB hS rfl) rfl)),
      fun X40 S hw hi hS => bH (X := X40) rfl (hw X40) rfl (aJ rfl (bN (aA rfl) (aB hS rfl) (i := 3) (og hS rfl rfl) vC (es := (bI x15)) rfl rfl)),
      fun X40 S hw hi hS => bH (X := X40) rfl (hw X40) rfl (aJ rfl (eW (aA rfl) iF rfl (pa2 (aB hS rfl) pan) (rows := ([x15]).map bI) rfl (dD (f := bI) fun _ => rfl) rfl (by decide))), trivial⟩⟩
         · exact fun X40 => dE (aU rfl (aU rfl (aU rfl (bC ⟨rfl, rfl, rfl, rfl, rfl, rfl, trivial⟩))))
        ·intro X40
         obtain ⟨x43, h44, h⟩ := bind_some h
         refine cE rfl (fC (i := 2) (aA rfl) iF rfl rfl rfl (fun _ => rfl) h44 rfl) ?_
         rintro _ ⟨v45, rfl⟩
         refine tr1 rfl (aH (v := .d (.lit (X40 3).v)) (aA rfl) rfl rfl) ?_
         refine tr1 rfl (aH (v := .d (.lit v45)) (aA rfl) rfl rfl) ?_
         refine fB ?_
         simp only [oI] at h
         refine aC ?_
         refine tr1 rfl (bT (aA rfl) rfl rfl rfl) ?_
         refine tr1 rfl (aD (v := .d (.lit (.int .i64 ((w64 (t40_0_10 + 1)))))) (aA rfl) rfl rfl) ?_
         refine aG ?_
         exact ⟨(w64 (t40_0_10 + 1), x41, x43, (X40 3).v, v45), h, bE [0, 1, 2] rfl rfl (aU rfl (aU rfl (aU rfl (bC ⟨rfl, rfl, rfl, rfl, rfl, trivial⟩))))⟩
    ·have h := aY c14 h
     refine dA ?_
     refine .inl ⟨rfl, ?_⟩
     simp only [qH] at h
     refine aF ?_
     refine aF ?_
     refine aC ?_
     refine tr1 rfl (aD (v := .d (.lit w11)) (aA rfl) rfl rfl) ?_
     refine tr1 rfl (kN (m := 1) (aA rfl) rfl rfl dW.of) ?_
     refine tr1 rfl (bR (aA rfl) rfl rfl rfl) ?_
     refine aG ?_
     refine cA rfl (fun c46 => ?_) (fun c46 => ?_)
     ·have h := aX c46 h
      refine aF ?_
      refine aC ?_
      refine tr1 rfl (fZ 6 (aA rfl)) ?_
      refine tr1 rfl (fZ 4 (aA rfl)) ?_
      refine tr1 rfl (aH (v := .d (.lit (.int .i64 2))) (aA rfl) rfl rfl) ?_
      refine aG ?_
      have h := Option.some.inj h
      subst h
      refine cQ (cF (cN (l := [6, 7, 8]) ⟨rfl, rfl, rfl, trivial⟩)) ?_
      exact bU ⟨rfl, _, .three _ _ _, rfl, rfl⟩
     ·have h := aY c46 h
      refine bX ?_
      refine aF ?_
      refine aC ?_
      refine tr1 rfl (aD (v := .d (.lit w11)) (aA rfl) rfl rfl) ?_
      refine tr1 rfl (aD (v := .d (.lit w12)) (aA rfl) rfl rfl) ?_
      refine tr1 rfl (aH (v := .d (.lit w11)) (aA rfl) rfl rfl) ?_
      refine tr1 rfl (aH (v := .d (.lit w12)) (aA rfl) rfl rfl) ?_
      refine tr1 rfl (aH (v := .d (.lit (.int .i64 0))) (aA rfl) rfl rfl) ?_
      refine aG ?_
      have h := Option.some.inj h
      subst h
      refine cQ (cF (fM (k := 8) (v := .d (.lit (.int .i64 0))) (.same _) (fM (k := 7) (v := .d (.sl 4 (bouts_0_10.map bI))) (.d (gQ 2 rfl (dD (f := bI) fun _ => rfl))) (fM (k := 6) (v := .d (.sl 6 (jobs_0_10.map aQ))) (.d (gQ 1 rfl (dD (f := aQ) fun _ => rfl))) (qL))))) ?_
      exact bU ⟨rfl, _, .three _ _ _, rfl, rfl⟩

theorem xI (s_0 : bO) {r : Bool} (h : jQ s_0 = some r) : Fn Try.prog 79 [.agg (bF s_0)] (.d (.lit (.bool r))) := by
 unfold jQ at h
 refine Fn.of_tr Try.func79 rfl (rs := [.tmp 2]) Try.results79 Try.ntmps79 (Nat.le_of_ble_eq_true rfl) ?_
 refine aF ?_
 refine aC ?_
 refine cE rfl (eC (v := .agg (bF s_0)) (aA rfl) rfl rfl rfl) ?_
 rintro _ ⟨b1, rfl⟩
 refine tr1 rfl (aH (v := .d (.lit (.bool false))) (aA rfl) rfl rfl) ?_
 refine aG ?_
 refine aF ?_
 refine aC ?_
 refine tr1 rfl (aN (aA rfl) rfl sZ) ?_
 refine tr1 rfl (aR (aA rfl) rfl (i := 0) rfl rfl bL) ?_
 refine tr1 rfl (bR (aA rfl) rfl rfl rfl) ?_
 refine tr1 rfl (aD (v := .d (.lit (.bool ((decide (1 ≤ s_0.Low)))))) (aA rfl) rfl rfl) ?_
 obtain ⟨b2, h3, h⟩ := bind_some h
 refine cS 6 [1] 12 b2 ?_ ?_
 ·refine bY (decide (1 ≤ s_0.Low)) (fun c7 => ?_) (fun c7 => ?_)
  ·have h3 := aX c7 h3
   refine aM rfl rfl (aA rfl) rfl c7 (aN (aA rfl) rfl sZ) ?_
   refine aM rfl rfl (aA rfl) rfl c7 (aR (aA rfl) rfl (i := 0) rfl rfl bL) ?_
   refine aM rfl rfl (aA rfl) rfl c7 (aN (aA rfl) rfl nW) ?_
   refine aM rfl rfl (aA rfl) rfl c7 (aR (aA rfl) rfl (i := 0) rfl rfl bL) ?_
   refine aM rfl rfl (aA rfl) rfl c7 (bR (aA rfl) rfl rfl rfl) ?_
   refine tr1 rfl (cC (v := .d (.lit (.bool ((decide (s_0.Low ≤ s_0.High)))))) (aA rfl) rfl c7 rfl rfl) ?_
   have h3 := Option.some.inj h3
   subst h3
   refine aG (bM rfl ⟨rfl, trivial⟩ rfl)
  ·have h3 := aY c7 h3
   refine aO rfl rfl (aA rfl) rfl (aA rfl) rfl c7 ?_
   refine aO rfl rfl (aA rfl) rfl (aA rfl) rfl c7 ?_
   refine aO rfl rfl (aA rfl) rfl (aA rfl) rfl c7 ?_
   refine aO rfl rfl (aA rfl) rfl (aA rfl) rfl c7 ?_
   refine aO rfl rfl (aA rfl) rfl (aA rfl) rfl c7 ?_
   refine tr1 rfl (cB (v := .d (.lit (.bool false))) (aA rfl) rfl c7 rfl rfl) ?_
   have h3 := Option.some.inj h3
   subst h3
   refine aG (bM rfl ⟨rfl, trivial⟩ rfl)
 ·refine tr1 rfl (aD (v := .d (.lit (.bool b2))) (aA rfl) rfl rfl) ?_
  obtain ⟨b4, h5, h⟩ := bind_some h
  refine cS 4 [] 17 b4 ?_ ?_
  ·refine bY (b2) (fun c6 => ?_) (fun c6 => ?_)
   ·have h5 := aX c6 h5
    refine aM rfl rfl (aA rfl) rfl c6 (aN (aA rfl) rfl nW) ?_
    refine aM rfl rfl (aA rfl) rfl c6 (aR (aA rfl) rfl (i := 0) rfl rfl bL) ?_
    refine aM rfl rfl (aA rfl) rfl c6 (bR (aA rfl) rfl rfl rfl) ?_
    refine tr1 rfl (cC (v := .d (.lit (.bool ((decide (s_0.High ≤ 600)))))) (aA rfl) rfl c6 rfl rfl) ?_
    have h5 := Option.some.inj h5
    subst h5
    refine aG (bM rfl trivial rfl)
   ·have h5 := aY c6 h5
    refine aO rfl rfl (aA rfl) rfl (aA rfl) rfl c6 ?_
    refine aO rfl rfl (aA rfl) rfl (aA rfl) rfl c6 ?_
    refine aO rfl rfl (aA rfl) rfl (aA rfl) rfl c6 ?_
    refine tr1 rfl (cB (v := .d (.lit (.bool false))) (aA rfl) rfl c6 rfl rfl) ?_
    have h5 := Option.some.inj h5
    subst h5
    refine aG (bM rfl trivial rfl)
  ·refine tr1 rfl (aH (v := .d (.lit (.bool b4))) (aA rfl) rfl rfl) ?_
   refine aG ?_
   have h := Option.some.inj h
   subst h
   refine cQ (cF (cN (l := [2]) ⟨rfl, trivial⟩)) ?_
   exact bU ⟨rfl, _, .one _, rfl, rfl⟩

theorem zV (n_0 : Int) (low_1 : Int) (high_2 : Int) {r : Bool} (h : kT n_0 low_1 high_2 = some r) : Fn Try.prog 46 [.d (.lit (.int .i64 n_0)), .d (.lit (.int .i64 low_1)), .d (.lit (.int .i64 high_2))] (.d (.lit (.bool r))) := by
 unfold kT at h
 refine Fn.of_tr Try.func46 rfl (rs := [.tmp 6]) Try.results46 Try.ntmps46 (Nat.le_of_ble_eq_true rfl) ?_
 refine aF ?_
 refine aC ?_
 refine tr1 rfl (aH (v := .d (.lit (.bool false))) (aA rfl) rfl rfl) ?_
 refine aG ?_
 refine aF ?_
 refine aC ?_
 refine tr1 rfl (aD (v := .d (.lit (.int .i64 n_0))) (aA rfl) rfl rfl) ?_
 refine tr1 rfl (aD (v := .d (.lit (.int .i64 low_1))) (aA rfl) rfl rfl) ?_
 refine tr1 rfl (bR (aA rfl) rfl rfl rfl) ?_
 refine tr1 rfl (aD (v := .d (.lit (.bool ((decide (low_1 ≤ n_0)))))) (aA rfl) rfl rfl) ?_
 obtain ⟨b1, h2, h⟩ := bind_some h
 refine cS 4 [] 14 b1 ?_ ?_
 ·refine bY (decide (low_1 ≤ n_0)) (fun c3 => ?_) (fun c3 => ?_)
  ·have h2 := aX c3 h2
   refine aM rfl rfl (aA rfl) rfl c3 (aD (v := .d (.lit (.int .i64 n_0))) (aA rfl) rfl rfl) ?_
   refine aM rfl rfl (aA rfl) rfl c3 (aD (v := .d (.lit (.int .i64 high_2))) (aA rfl) rfl rfl) ?_
   refine aM rfl rfl (aA rfl) rfl c3 (bR (aA rfl) rfl rfl rfl) ?_
   refine tr1 rfl (cC (v := .d (.lit (.bool ((decide (n_0 ≤ high_2)))))) (aA rfl) rfl c3 rfl rfl) ?_
   have h2 := Option.some.inj h2
   subst h2
   refine aG (bM rfl trivial rfl)
  ·have h2 := aY c3 h2
   refine aO rfl rfl (aA rfl) rfl (aA rfl) rfl c3 ?_
   refine aO rfl rfl (aA rfl) rfl (aA rfl) rfl c3 ?_
   refine aO rfl rfl (aA rfl) rfl (aA rfl) rfl c3 ?_
   refine tr1 rfl (cB (v := .d (.lit (.bool false))) (aA rfl) rfl c3 rfl rfl) ?_
   have h2 := Option.some.inj h2
   subst h2
   refine aG (bM rfl trivial rfl)
 ·refine tr1 rfl (aH (v := .d (.lit (.bool b1))) (aA rfl) rfl rfl) ?_
  refine aG ?_
  have h := Option.some.inj h
  subst h
  exact bU ⟨rfl, _, .one _, rfl, rfl⟩

theorem aCd (t_0 : bD) (l_1 : List aK) (stages_2 : List cZ) {r : (List cI) × (List bK) × Int} (h : gT t_0 l_1 stages_2 = some r) : Fn Try.prog 43 [.agg (bG t_0), .d (.sl 5 (l_1.map aS)), .d (.sl 3 (stages_2.map cY))] (.tup [.d (.sl 6 (r.1.map aQ)), .d (.sl 4 (r.2.1.map bI)), .d (.lit (.int .i64 r.2.2))]) := by
 unfold gT at h
 refine Fn.of_tr Try.func43 rfl (rs := [.tmp 6, .tmp 7, .tmp 8]) Try.results43 Try.ntmps43 (Nat.le_of_ble_eq_true rfl) ?_
 refine aF ?_
 refine aC ?_
 refine cE rfl (eC (v := .agg (bG t_0)) (aA rfl) rfl rfl rfl) ?_
 rintro _ ⟨b1, rfl⟩
 refine tr1 rfl (fZ 6 (aA rfl)) ?_
 refine tr1 rfl (fZ 4 (aA rfl)) ?_
 refine tr1 rfl (aH (v := .d (.lit (.int .i64 0))) (aA rfl) rfl rfl) ?_
 refine aG ?_
 refine aF ?_
 refine aF ?_
 refine aC ?_
 refine tr1 rfl (bN (aA rfl) rfl (i := 0) rfl fO (es := (bG t_0)) rfl rfl) ?_
 refine tr1 rfl (aD (v := .d (.sl 5 (l_1.map aS))) (aA rfl) rfl rfl) ?_
 obtain ⟨r2, h3, h⟩ := bind_some h
 refine tr1 rfl (cL (aA rfl) (.func _ _ Try.call78) rfl rfl (BVs.refl _ _) (pX _ _ h3) rfl) ?_
 refine tr1 rfl (aH (v := .d (.lit (.int .i64 r2))) (aA rfl) rfl rfl) ?_
 refine aG ?_
 refine aF ?_
 refine aC ?_
 refine tr1 rfl (aD (v := .d (.lit (.int .i64 r2))) (aA rfl) rfl rfl) ?_
 refine tr1 rfl (bR (aA rfl) rfl rfl rfl) ?_
 refine aG ?_
 refine cA rfl (fun c4 => ?_) (fun c4 => ?_)
 ·have h := aX c4 h
  refine aF ?_
  refine aC ?_
  refine tr1 rfl (aD (v := .d (.lit (.int .i64 r2))) (aA rfl) rfl rfl) ?_
  refine tr1 rfl (fZ 6 (aA rfl)) ?_
  refine tr1 rfl (fZ 4 (aA rfl)) ?_
  refine tr1 rfl (aH (v := .d (.lit (.int .i64 r2))) (aA rfl) rfl rfl) ?_
  refine aG ?_
  have h := Option.some.inj h
  subst h
  refine cQ (cF (cN (l := [6, 7, 8]) ⟨rfl, rfl, rfl, trivial⟩)) ?_
  exact bU ⟨rfl, _, .three _ _ _, rfl, rfl⟩
 ·have h := aY c4 h
  refine bX ?_
  refine aF ?_
  refine aF ?_
  refine aC ?_
  refine tr1 rfl (aD (v := .d (.sl 3 (stages_2.map cY))) (aA rfl) rfl rfl) ?_
  refine tr1 rfl (dC (aA rfl) rfl pU.of) ?_
  refine tr1 rfl (aN (aA rfl) rfl kL) ?_
  refine tr1 rfl (aR (aA rfl) rfl (i := 0) rfl rfl bL) ?_
  refine tr1 rfl (bR (aA rfl) rfl rfl rfl) ?_
  refine aG ?_
  refine cA rfl (fun c5 => ?_) (fun c5 => ?_)
  ·have h := aX c5 h
   refine aF ?_
   refine aC ?_
   refine tr1 rfl (fZ 6 (aA rfl)) ?_
   refine tr1 rfl (fZ 4 (aA rfl)) ?_
   refine tr1 rfl (aH (v := .d (.lit (.int .i64 82))) (aA rfl) rfl rfl) ?_
   refine aG ?_
   have h := Option.some.inj h
   subst h
   refine cQ (cF (cN (l := [6, 7, 8]) ⟨rfl, rfl, rfl, trivial⟩)) ?_
   exact bU ⟨rfl, _, .three _ _ _, rfl, rfl⟩
  ·have h := aY c5 h
   refine bX ?_
   refine aF ?_
   refine aF ?_
   refine aC ?_
   refine tr1 rfl (aH (v := .d (.lit (.int .i64 0))) (aA rfl) rfl rfl) ?_
   refine aG ?_
   refine cO ?_
   refine dG [1, 2, 3] (fun (s6 : Int) => [(10, .d (.lit (.int .i64 s6)))]) (fun (s6 : Int) => [.box b1 0 (bG t_0)]) (fun (k : Nat) (s6 : Int) => fX l_1 stages_2 t_0 k s6) (fun _ => rfl) (0) h (bE [0] rfl rfl (aU rfl (bC ⟨rfl, rfl, rfl, trivial⟩))) ?_
   rintro k7 i_0_6 h
   simp only [fX] at h
   refine aF ?_
   refine aF ?_
   refine aC ?_
   refine tr1 rfl (aD (v := .d (.lit (.int .i64 i_0_6))) (aA rfl) rfl rfl) ?_
   refine tr1 rfl (aD (v := .d (.sl 3 (stages_2.map cY))) (aA rfl) rfl rfl) ?_
   refine tr1 rfl (dC (aA rfl) rfl pU.of) ?_
   refine tr1 rfl (bR (aA rfl) rfl rfl rfl) ?_
   refine aG ?_
   refine cA rfl (fun c8 => ?_) (fun c8 => ?_)
   ·have h := aX c8 h
    refine bX ?_
    refine aF ?_
    refine cO ?_
    refine aF ?_
    refine aC ?_
    refine tr1 rfl (aD (v := .d (.sl 3 (stages_2.map cY))) (aA rfl) rfl rfl) ?_
    refine tr1 rfl (aD (v := .d (.lit (.int .i64 i_0_6))) (aA rfl) rfl rfl) ?_
    obtain ⟨x9, h10, h⟩ := bind_some h
    refine tr1 rfl (bJ (aA rfl) rfl rfl pU.of (bP cY h10)) ?_
    refine tr1 rfl (cG (aA rfl) rfl yO (es := [.lit (.int .i64 x9.Length.Low), .lit (.int .i64 x9.Length.High)]) rfl) ?_
    refine tr1 rfl (dB (aA rfl) rfl gW (es := (bF x9.Length)) rfl rfl) ?_
    obtain ⟨r11, h12, h⟩ := bind_some h
    refine tr1 rfl (cL (aA rfl) (.func _ _ Try.call79) rfl rfl (BVs.refl _ _) (xI _ h12) rfl) ?_
    refine tr1 rfl (dZ (aA rfl) rfl) ?_
    refine tr1 rfl (aD (v := .d (.lit (.bool (!r11)))) (aA rfl) rfl rfl) ?_
    obtain ⟨b13, h14, h⟩ := bind_some h
    refine cS 8 [1, 2, 3, 10] 53 b13 ?_ ?_
    ·refine bY (!r11) (fun c16 => ?_) (fun c16 => ?_)
     ·have h14 := aX c16 h14
      refine aO rfl rfl (aA rfl) rfl (aA rfl) rfl c16 ?_
      refine aO rfl rfl (aA rfl) rfl (aA rfl) rfl c16 ?_
      refine aO rfl rfl (aA rfl) rfl (aA rfl) rfl c16 ?_
      refine aO rfl rfl (aA rfl) rfl (aA rfl) rfl c16 ?_
      refine aO rfl rfl (aA rfl) rfl (aA rfl) rfl c16 ?_
      refine aO rfl rfl (aA rfl) rfl (aA rfl) rfl c16 ?_
      refine aO rfl rfl (aA rfl) rfl (aA rfl) rfl c16 ?_
      refine tr1 rfl (cC (v := .d (.lit (.bool true))) (aA rfl) rfl c16 rfl rfl) ?_
      have h14 := Option.some.inj h14
      subst h14
      refine aG (bM rfl ⟨rfl, rfl, rfl, rfl, trivial⟩ rfl)
     ·have h14 := aY c16 h14
      refine aM rfl rfl (aA rfl) rfl c16 (aD (v := .d (.sl 3 (stages_2.map cY))) (aA rfl) rfl rfl) ?_
      refine aM rfl rfl (aA rfl) rfl c16 (aD (v := .d (.lit (.int .i64 i_0_6))) (aA rfl) rfl rfl) ?_
      obtain ⟨x17, h18, h14⟩ := bind_some h14
      refine aM rfl rfl (aA rfl) rfl c16 (bJ (aA rfl) rfl rfl pU.of (bP cY h18)) ?_
      refine aM rfl rfl (aA rfl) rfl c16 (cG (aA rfl) rfl yP (es := [.lit (.int .i64 x17.Due)]) rfl) ?_
      refine aM rfl rfl (aA rfl) rfl c16 (bZ (aA rfl) rfl bL) ?_
      obtain ⟨r19, h20, h14⟩ := bind_some h14
      refine aM rfl rfl (aA rfl) rfl c16 (cL (aA rfl) (.func _ _ Try.call46) rfl rfl (BVs.refl _ _) (zV _ _ _ h20) rfl) ?_
      refine aM rfl rfl (aA rfl) rfl c16 (dZ (aA rfl) rfl) ?_
      refine tr1 rfl (cB (v := .d (.lit (.bool (!r19)))) (aA rfl) rfl c16 rfl rfl) ?_
      have h14 := Option.some.inj h14
      subst h14
      refine aG (bM rfl ⟨rfl, rfl, rfl, rfl, trivial⟩ rfl)
    ·refine aG ?_
     refine cA rfl (fun c15 => ?_) (fun c15 => ?_)
     ·have h := aX c15 h
      refine aF ?_
      refine aC ?_
      refine tr1 rfl (fZ 6 (aA rfl)) ?_
      refine tr1 rfl (fZ 4 (aA rfl)) ?_
      refine tr1 rfl (aH (v := .d (.lit (.int .i64 82))) (aA rfl) rfl rfl) ?_
      refine aG ?_
      have h := Option.some.inj h
      subst h
      refine cQ (cF (cN (l := [6, 7, 8]) ⟨rfl, rfl, rfl, trivial⟩)) ?_
      exact bU ⟨rfl, _, .three _ _ _, rfl, rfl⟩
     ·have h := aY c15 h
      refine dY ?_
      refine aC ?_
      refine tr1 rfl (aD (v := .d (.lit (.int .i64 i_0_6))) (aA rfl) rfl rfl) ?_
      refine tr1 rfl (bT (aA rfl) rfl rfl rfl) ?_
      refine tr1 rfl (aH (v := .d (.lit (.int .i64 ((w64 (i_0_6 + 1)))))) (aA rfl) rfl rfl) ?_
      refine aG ?_
      exact ⟨(w64 (i_0_6 + 1)), h, bE [0] rfl rfl (aU rfl (bC ⟨rfl, rfl, rfl, trivial⟩))⟩
   ·have h := aY c8 h
    refine dA ?_
    refine .inl ⟨rfl, ?_⟩
    simp only [iY] at h
    refine aF ?_
    refine aC ?_
    refine tr1 rfl (gA 73 4 (.inl rfl) (aA rfl)) ?_
    refine aG ?_
    refine aF ?_
    refine aC ?_
    refine tr1 rfl (bN (aA rfl) rfl (i := 0) rfl fO (es := (bG t_0)) rfl rfl) ?_
    refine tr1 rfl (aD (v := .d (.sl 5 (l_1.map aS))) (aA rfl) rfl rfl) ?_
    obtain ⟨r22, h23, h⟩ := bind_some h
    refine tr1 rfl (fT (aA rfl) (.func _ _ Try.call80) rfl rfl (aAf _ _ h23)) ?_
    refine tr1 rfl (aD (v := .tup [.d (.sl 4 (r22.1.map bI)), .d (.lit (.int .i64 r22.2))]) (aA rfl) rfl rfl) ?_
    refine tr1 rfl (cD (aA rfl) rfl rfl) ?_
    refine tr1 rfl (cD (aA rfl) rfl rfl) ?_
    refine tr1 rfl (aH (v := .d (.sl 4 (r22.1.map bI))) (aA rfl) rfl rfl) ?_
    refine tr1 rfl (aH (v := .d (.lit (.int .i64 r22.2))) (aA rfl) rfl rfl) ?_
    refine aG ?_
    refine aF ?_
    refine aF ?_
    refine aC ?_
    refine tr1 rfl (aH (v := .d (.lit (.int .i64 0))) (aA rfl) rfl rfl) ?_
    refine aG ?_
    refine cO ?_
    refine dG [1, 2, 3, 12] (fun (s24 : Int × (List bK) × Value) => [(11, .d (.lit s24.2.2)), (14, .d (.lit (.int .i64 s24.1)))]) (fun (s24 : Int × (List bK) × Value) => [.box b1 0 (bG t_0), .arr s24.2.2 73 4 (s24.2.1.map bI)]) (fun (k : Nat) (s24 : Int × (List bK) × Value) => fY l_1 stages_2 r22.1 t_0 k s24.1 s24.2.1) (fun _ => rfl) (0, ([] : List bK), (.slice none 0 0)) h (bE [0, 1] rfl rfl (aU rfl (aU rfl (bC ⟨rfl, rfl, rfl, rfl, trivial⟩)))) ?_
    rintro k26 ⟨i_2_24, openv_2_24, w25⟩ h
    simp only [fY] at h
    refine aF ?_
    refine aF ?_
    refine aC ?_
    refine tr1 rfl (aD (v := .d (.lit (.int .i64 i_2_24))) (aA rfl) rfl rfl) ?_
    refine tr1 rfl (aD (v := .d (.sl 4 (r22.1.map bI))) (aA rfl) rfl rfl) ?_
    refine tr1 rfl (dC (aA rfl) rfl iF.of) ?_
    refine tr1 rfl (bR (aA rfl) rfl rfl rfl) ?_
    refine aG ?_
    refine cA rfl (fun c27 => ?_) (fun c27 => ?_)
    ·have h := aX c27 h
     refine bX ?_
     refine aF ?_
     refine cO ?_
     refine aF ?_
     obtain ⟨x28, h29, h⟩ := bind_some h
     obtain ⟨x30, h31, h⟩ := bind_some h
     obtain ⟨r32, h33, h⟩ := bind_some h
     refine eD mix 17 [1, 2, 3, 11, 12, 14] [(81, .d (.lit (.int .i64 r32.2)))] ?_ ?_
     ·refine ⟨[(67, 0, .agg (bG t_0)), (68, 1, .d (.sl 5 (l_1.map aS))), (69, 2, .d (.sl 4 (r22.1.map bI))), (70, 3, .d (.lit (.int .i64 i_2_24))), (71, 4, .cp [.lit (.int .i64 x28.Round), .lit (.int .i64 x28.Place), .lit (.int .i64 x28.One), .lit (.int .i64 x28.Two)]), (72, 5, .cp [.lit (.int .i64 x28.Round)]), (73, 6, .d (.lit (.int .i64 x28.Round))), (74, 7, .d (.sl 4 (r22.1.map bI))), (75, 8, .d (.lit (.int .i64 i_2_24))), (76, 9, .cp [.lit (.int .i64 x30.Round), .lit (.int .i64 x30.Place), .lit (.int .i64 x30.One), .lit (.int .i64 x30.Two)]), (77, 10, .cp [.lit (.int .i64 x30.Place)]), (78, 11, .d (.lit (.int .i64 x30.Place))), (79, 12, .tup [.d (.lit (.int .i64 r32.1)), .d (.lit (.int .i64 r32.2))]), (66, 13, .tup [.d (.lit (.int .i64 r32.1)), .d (.lit (.int .i64 r32.2))]), (80, 14, .d (.lit (.int .i64 r32.1))), (81, 15, .d (.lit (.int .i64 r32.2))), (15, 16, .d (.lit (.int .i64 r32.1)))], ?_, ?_⟩
      · exact ⟨by kernel_rfl, by kernel_rfl, by kernel_rfl, by kernel_rfl, by kernel_rfl, [([], []), ([], []), ([], []), ([], []), ([2, 3], []), ([4], []), ([5], []), ([], []), ([], []), ([7, 8], []), ([9], []), ([10], []), ([0, 1, 6, 11], []), ([12], []), ([13], []), ([13], []), ([14], [])], by kernel_rfl, ⟨fun S hS => aE rfl (aJ rfl (bN (aA rfl) (aB hS rfl) (i := 0) rfl fO (es := (bG t_0)) rfl rfl)),
      fun S hS => aE rfl (aJ rfl (aD (v := .d (.sl 5 (l_1.map aS))) (aA rfl) (aB hS rfl) rfl)),
      fun S hS => aE rfl (aJ rfl (aD (v := .d (.sl 4 (r22.1.map bI))) (aA rfl) (aB hS rfl) rfl)),
      fun S hS => aE rfl (aJ rfl (aD (v := .d (.lit (.int .i64 i_2_24))) (aA rfl) (aB hS rfl) rfl)),
      fun S hS => aE rfl (aJ rfl (bJ (aA rfl) (aB hS rfl) (aB hS rfl) iF.of (bP bI h29))),
      fun S hS => aE rfl (aJ rfl (cG (aA rfl) (aB hS rfl) lY (es := [.lit (.int .i64 x28.Round)]) rfl)),
      fun S hS => aE rfl (aJ rfl (bZ (aA rfl) (aB hS rfl) bL)),
      fun S hS => aE rfl (aJ rfl (aD (v := .d (.sl 4 (r22.1.map bI))) (aA rfl) (aB hS rfl) rfl)),
      fun S hS => aE rfl (aJ rfl (aD (v := .d (.lit (.int .i64 i_2_24))) (aA rfl) (aB hS rfl) rfl)),
      fun S hS => aE rfl (aJ rfl (bJ (aA rfl) (aB hS rfl) (aB hS rfl) iF.of (bP bI h31))),
      fun S hS => aE rfl (aJ rfl (cG (aA rfl) (aB hS rfl) tA (es := [.lit (.int .i64 x30.Place)]) rfl)),
      fun S hS => aE rfl (aJ rfl (bZ (aA rfl) (aB hS rfl) bL)),
      fun S hS => aE rfl (aJ rfl (cL (aA rfl) (.func _ _ Try.call81) (ev2 (aB hS rfl) (ev2 (aB hS rfl) (ev2 (aB hS rfl) (ev2 (aB hS rfl) evn)))) rfl (BVs.refl _ _) (zT _ _ _ _ h33) rfl)),
      fun S hS => aE rfl (aJ rfl (aD (v := .tup [.d (.lit (.int .i64 r32.1)), .d (.lit (.int .i64 r32.2))]) (aA rfl) (aB hS rfl) rfl)),
      fun S hS => aE rfl (aJ rfl (cD (aA rfl) (aB hS rfl) rfl)),
      fun S hS => aE rfl (aJ rfl (cD (aA rfl) (aB hS rfl) rfl)),
      fun S hS => aE rfl (aJ rfl (aH (v := .d (.lit (.int .i64 r32.1))) (aA rfl) (aB hS rfl) rfl)), trivial⟩⟩
      · exact dE (aU rfl (bC ⟨rfl, rfl, rfl, rfl, rfl, rfl, trivial⟩))
     ·refine tr1 rfl (aH (v := .d (.lit (.int .i64 r32.2))) (aA rfl) rfl rfl) ?_
      refine aG ?_
      refine aF ?_
      refine aC ?_
      refine tr1 rfl (aD (v := .d (.lit (.int .i64 r32.2))) (aA rfl) rfl rfl) ?_
      refine tr1 rfl (bR (aA rfl) rfl rfl rfl) ?_
      refine aG ?_
      refine cA rfl (fun c34 => ?_) (fun c34 => ?_)
      ·have h := aX c34 h
       refine aC ?_
       refine tr1 rfl (aD (v := .d (.lit w25)) (aA rfl) rfl rfl) ?_
       refine tr1 rfl (aD (v := .d (.sl 4 (r22.1.map bI))) (aA rfl) rfl rfl) ?_
       refine tr1 rfl (aD (v := .d (.lit (.int .i64 i_2_24))) (aA rfl) rfl rfl) ?_
       obtain ⟨x35, h36, h⟩ := bind_some h
       refine tr1 rfl (bJ (aA rfl) rfl rfl iF.of (bP bI h36)) ?_
       refine tr1 rfl (dB (aA rfl) rfl vC (es := (bI x35)) rfl rfl) ?_
       refine tr1 rfl (eW (aA rfl) iF rfl rfl (rows := ([x35]).map bI) rfl (dD (f := bI) fun _ => rfl) rfl (by decide)) ?_
       obtain ⟨x37, h38, h⟩ := bind_some h
       refine cE rfl (fC (i := 1) (aA rfl) iF rfl rfl rfl (fun _ => rfl) h38 rfl) ?_
       rintro _ ⟨v39, rfl⟩
       refine tr1 rfl (aH (v := .d (.lit v39)) (aA rfl) rfl rfl) ?_
       refine fB ?_
       refine aC ?_
       refine tr1 rfl (aD (v := .d (.lit (.int .i64 i_2_24))) (aA rfl) rfl rfl) ?_
       refine tr1 rfl (bT (aA rfl) rfl rfl rfl) ?_
       refine tr1 rfl (aH (v := .d (.lit (.int .i64 ((w64 (i_2_24 + 1)))))) (aA rfl) rfl rfl) ?_
       refine aG ?_
       exact ⟨(w64 (i_2_24 + 1), x37, v39), h, bE [0, 1] rfl rfl (aU rfl (aU rfl (bC ⟨rfl, rfl, rfl, rfl, trivial⟩)))⟩
      ·have h := aY c34 h
       refine dY ?_
       refine aC ?_
       refine tr1 rfl (aD (v := .d (.lit (.int .i64 i_2_24))) (aA rfl) rfl rfl) ?_
       refine tr1 rfl (bT (aA rfl) rfl rfl rfl) ?_
       refine tr1 rfl (aH (v := .d (.lit (.int .i64 ((w64 (i_2_24 + 1)))))) (aA rfl) rfl rfl) ?_
       refine aG ?_
       exact ⟨(w64 (i_2_24 + 1), openv_2_24, w25), h, bE [0, 1] rfl rfl (aU rfl (aU rfl (bC ⟨rfl, rfl, rfl, rfl, trivial⟩)))⟩
    ·have h := aY c27 h
     refine dA ?_
     refine .inl ⟨rfl, ?_⟩
     simp only [kG] at h
     refine aF ?_
     refine aF ?_
     refine aC ?_
     refine tr1 rfl (aD (v := .d (.lit w25)) (aA rfl) rfl rfl) ?_
     refine tr1 rfl (kN (m := 1) (aA rfl) rfl rfl iF.of) ?_
     refine tr1 rfl (bR (aA rfl) rfl rfl rfl) ?_
     refine aG ?_
     refine cA rfl (fun c40 => ?_) (fun c40 => ?_)
     ·have h := aX c40 h
      refine aF ?_
      refine aC ?_
      refine tr1 rfl (fZ 6 (aA rfl)) ?_
      refine tr1 rfl (fZ 4 (aA rfl)) ?_
      refine tr1 rfl (aH (v := .d (.lit (.int .i64 2))) (aA rfl) rfl rfl) ?_
      refine aG ?_
      have h := Option.some.inj h
      subst h
      refine cQ (cF (cN (l := [6, 7, 8]) ⟨rfl, rfl, rfl, trivial⟩)) ?_
      exact bU ⟨rfl, _, .three _ _ _, rfl, rfl⟩
     ·have h := aY c40 h
      refine bX ?_
      refine aF ?_
      refine aC ?_
      refine tr1 rfl (gA 36 6 (.inl rfl) (aA rfl)) ?_
      refine aG ?_
      refine aF ?_
      refine aF ?_
      refine aC ?_
      refine tr1 rfl (aH (v := .d (.lit (.int .i64 0))) (aA rfl) rfl rfl) ?_
      refine aG ?_
      refine cO ?_
      refine dG [2, 11] (fun (s42 : Int × (List cI) × Value) => [(17, .d (.lit s42.2.2)), (18, .d (.lit (.int .i64 s42.1)))]) (fun (s42 : Int × (List cI) × Value) => [.arr w25 73 4 (openv_2_24.map bI), .arr s42.2.2 36 6 (s42.2.1.map aQ)]) (fun (k : Nat) (s42 : Int × (List cI) × Value) => eS stages_2 openv_2_24 k s42.1 s42.2.1) (fun _ => rfl) (0, ([] : List cI), (.slice none 0 0)) h (bE [1, 2] rfl rfl (aU rfl (aU rfl (bC ⟨rfl, rfl, trivial⟩)))) ?_
      rintro k44 ⟨i_4_42, jobs_4_42, w43⟩ h
      simp only [eS] at h
      refine aF ?_
      refine aF ?_
      refine aC ?_
      refine tr1 rfl (aD (v := .d (.lit (.int .i64 i_4_42))) (aA rfl) rfl rfl) ?_
      refine tr1 rfl (aD (v := .d (.lit w25)) (aA rfl) rfl rfl) ?_
      refine tr1 rfl (kN (m := 0) (aA rfl) rfl rfl iF.of) ?_
      refine tr1 rfl (bR (aA rfl) rfl rfl rfl) ?_
      refine aG ?_
      refine cA rfl (fun c45 => ?_) (fun c45 => ?_)
      ·have h := aX c45 h
       refine bX ?_
       refine aF ?_
       refine cO ?_
       refine aF ?_
       obtain ⟨x47, h48, h⟩ := bind_some h
       obtain ⟨x49, h50, h⟩ := bind_some h
       obtain ⟨x51, h52, h⟩ := bind_some h
       obtain ⟨x53, h54, h⟩ := bind_some h
       refine gN mix 20 [2, 11, 17, 18] (fun X46 => [(19, .bp (X46 19).b 0 0), (118, .agg [.lit (.int .i64 x49.Length.Low), .lit (.int .i64 x49.Length.High), .lit (.slice none 0 0), .sl 1 ((([] : List Int)).map aP), .lit (.int .i64 x53.Due), .lit (.int .i64 0)])]) (fun X46 => [.arr w25 73 4 (openv_2_24.map bI), .arr w43 36 6 (jobs_4_42.map aQ), .box (X46 19).b 0 [.lit (.int .i64 0), .lit (.int .i64 0), .lit (.slice none 0 0), .sl 1 ((([] : List Int)).map aP), .lit (.int .i64 0), .lit (.int .i64 0)]]) ?_ ?_
       ·refine ⟨1, fun X46 => [(100, 0, .d (.sl 3 (stages_2.map cY))), (101, 1, .d (.lit w25)), (102, 2, .d (.lit (.int .i64 i_4_42))), (103, 3, .ep w25 4 i_4_42.toNat 0), (104, 4, .ep w25 4 i_4_42.toNat 0), (105, 5, .d (.lit (.int .i64 x47.Round))), (106, 6, .cp [.lit (.int .i64 x49.Length.Low), .lit (.int .i64 x49.Length.High), .lit (.int .i64 x49.Due)]), (107, 7, .cp [.lit (.int .i64 x49.Length.Low), .lit (.int .i64 x49.Length.High)]), (108, 8, .agg (bF x49.Length)), (109, 9, .d (.sl 3 (stages_2.map cY))), (110, 10, .d (.lit w25)), (111, 11, .d (.lit (.int .i64 i_4_42))), (112, 12, .ep w25 4 i_4_42.toNat 0), (113, 13, .ep w25 4 i_4_42.toNat 0), (114, 14, .d (.lit (.int .i64 x51.Round))), (115, 15, .cp [.lit (.int .i64 x53.Length.Low), .lit (.int .i64 x53.Length.High), .lit (.int .i64 x53.Due)]), (116, 16, .cp [.lit (.int .i64 x53.Due)]), (117, 17, .d (.lit (.int .i64 x53.Due))), (118, 18, .agg [.lit (.int .i64 x49.Length.Low), .lit (.int .i64 x49.Length.High), .lit (.slice none 0 0), .sl 1 ((([] : List Int)).map aP), .lit (.int .i64 x53.Due), .lit (.int .i64 0)]), (19, 19, .bp (X46 19).b 0 0)], fun X46 => [([], .arr w25 73 4 (openv_2_24.map bI)), ([], .arr w43 36 6 (jobs_4_42.map aQ)), ([(19, .box (X46 19).b 0 [.lit (.int .i64 0), .lit (.int .i64 0), .lit (.slice none 0 0), .sl 1 ((([] : List Int)).map aP), .lit (.int .i64 0), .lit (.int .i64 0)])], nob)], ?_, ?_⟩
        · exact ⟨by kernel_rfl, by kernel_rfl, by kernel_rfl, fun _ => by kernel_rfl, fun _ => by kernel_rfl, fun _ => by kernel_rfl, fun _ => rfl, [([], []), ([], []), ([], []), ([1, 2], []), ([3], []), ([4], []), ([0, 5], []), ([6], []), ([7], []), ([], []), ([], []), ([], []), ([10, 11], []), ([12], []), ([13], []), ([9, 14], []), ([15], []), ([16], []), ([8, 17], []), ([], [])], by kernel_rfl, ⟨fun X46 S hw hi hS => bH (X := X46) rfl (hw X46) rfl (aJ rfl (aD (v := .d (.sl 3 (stages_2.map cY))) (aA rfl) (aB hS rfl) rfl)),
      fun X46 S hw hi hS => bH (X := X46) rfl (hw X46) rfl (aJ rfl (aD (v := .d (.lit w25)) (aA rfl) (aB hS rfl) rfl)),
      fun X46 S hw hi hS => bH (X := X46) rfl (hw X46) rfl (aJ rfl (aD (v := .d (.lit (.int .i64 i_4_42))) (aA rfl) (aB hS rfl) rfl)),
      fun X46 S hw hi hS => bH (X := X46) rfl (hw X46) rfl (aJ rfl (eG (m := 0) (aA rfl) (aB hS rfl) (og hS rfl rfl) (aB hS rfl) iF.of (bP bI h48))),
      fun X46 S hw hi hS => bH (X := X46) rfl (hw X46) rfl (aJ rfl (nQ (aA rfl) (aB hS rfl) lY)),
      fun X46 S hw hi hS => bH (X := X46) rfl (hw X46) rfl (aJ rfl (iK (aA rfl) (aB hS rfl) (m := 0) (og hS rfl rfl) (jU bI h48) rfl bL)),
      fun X46 S hw hi hS => bH (X := X46) rfl (hw X46) rfl (aJ rfl (bJ (aA rfl) (aB hS rfl) (aB hS rfl) pU.of (bP cY h50))),
      fun X46 S hw hi hS => bH (X := X46) rfl (hw X46) rfl (aJ rfl (cG (aA rfl) (aB hS rfl) yO (es := [.lit (.int .i64 x49.Length.Low), .lit (.int .i64 x49.Length.High)]) rfl)),
      fun X46 S hw hi hS => bH (X := X46) rfl (hw X46) rfl (aJ rfl (dB (aA rfl) (aB hS rfl) gW (es := (bF x49.Length)) rfl rfl)),
      fun X46 S hw hi hS => bH (X := X46) rfl (hw X46) rfl (aJ rfl (aD (v := .d (.sl 3 (stages_2.map cY))) (aA rfl) (aB hS rfl) rfl)),
      fun X46 S hw hi hS => bH (X := X46) rfl (hw X46) rfl (aJ rfl (aD (v := .d (.lit w25)) (aA rfl) (aB hS rfl) rfl)),
      fun X46 S hw hi hS => bH (X := X46) rfl (hw X46) rfl (aJ rfl (aD (v := .d (.lit (.int .i64 i_4_42))) (aA rfl) (aB hS rfl) rfl)),
      fun X46 S hw hi hS => bH (X := X46) rfl (hw X46) rfl (aJ rfl (eG (m := 0) (aA rfl) (aB hS rfl) (og hS rfl rfl) (aB hS rfl) iF.of (bP bI h52))),
      fun X46 S hw hi hS => bH (X := X46) rfl (hw X46) rfl (aJ rfl (nQ (aA rfl) (aB hS rfl) lY)),
      fun X46 S hw hi hS => bH (X := X46) rfl (hw X46) rfl (aJ rfl (iK (aA rfl) (aB hS rfl) (m := 0) (og hS rfl rfl) (jU bI h52) rfl bL)),
      fun X46 S hw hi hS => bH (X := X46) rfl (hw X46) rfl (aJ rfl (bJ (aA rfl) (aB hS rfl) (aB hS rfl) pU.of (bP cY h54))),
      fun X46 S hw hi hS => bH (X := X46) rfl (hw X46) rfl (aJ rfl (cG (aA rfl) (aB hS rfl) yP (es := [.lit (.int .i64 x53.Due)]) rfl)),
      fun X46 S hw hi hS => bH (X := X46) rfl (hw X46) rfl (aJ rfl (bZ (aA rfl) (aB hS rfl) bL)),
      fun X46 S hw hi hS => bH (X := X46) rfl (hw X46) rfl (aJ rfl (eA (aA rfl) aBn (zs := [.lit (.int .i64 0), .lit (.int .i64 0), .lit (.slice none 0 0), .sl 1 ((([] : List Int)).map aP), .lit (.int .i64 0), .lit (.int .i64 0)]) rfl rfl rfl (pa2 (aB hS rfl) (pa2 (aB hS rfl) pan)) (es := [.lit (.int .i64 x49.Length.Low), .lit (.int .i64 x49.Length.High), .lit (.slice none 0 0), .sl 1 ((([] : List Int)).map aP), .lit (.int .i64 x53.Due), .lit (.int .i64 0)]) rfl)),
      fun X46 S hw hi hS => qZ (X := X46) (p := 2) (v := fun x => .bp x.b 0 0) (mo := fun x => .box x.b 0 [.lit (.int .i64 0), .lit (.int .i64 0), .lit (.slice none 0 0), .sl 1 ((([] : List Int)).map aP), .lit (.int .i64 0), .lit (.int .i64 0)]) hS hi rfl rfl (fun _ => rfl) hw (fun _ => rfl) (fun _ => rfl) (fun _ => rfl) (fun _ => ⟨rfl, rfl, .inr rfl, ⟨rfl, rfl, .inr rfl, ⟨rfl, rfl, .inr rfl, ⟨rfl, rfl, .inr rfl, ⟨rfl, rfl, .inr rfl, ⟨rfl, rfl, .inr rfl, ⟨rfl, rfl, .inr rfl, ⟨rfl, rfl, .inr rfl, ⟨rfl, rfl, .inr rfl, ⟨rfl, rfl, .inr rfl, ⟨rfl, rfl, .inr rfl, ⟨rfl, rfl, .inr rfl, ⟨rfl, rfl, .inr rfl, ⟨rfl, rfl, .inr rfl, ⟨rfl, rfl, .inr rfl, ⟨rfl, rfl, .inr rfl, ⟨rfl, rfl, .inr rfl, ⟨rfl, rfl, .inr rfl, ⟨rfl, rfl, .inr rfl, ⟨rfl, rfl, .inl rfl, trivial⟩⟩⟩⟩⟩⟩⟩⟩⟩⟩⟩⟩⟩⟩⟩⟩⟩⟩⟩⟩) (fun _ => ⟨trivial, rfl, ⟨trivial, rfl, ⟨⟨rfl, .inl rfl, trivial⟩, rfl, trivial⟩⟩⟩) (iL (dM (zs := [.lit (.int .i64 0), .lit (.int .i64 0), .lit (.slice none 0 0), .sl 1 ((([] : List Int)).map aP), .lit (.int .i64 0), .lit (.int .i64 0)]) (aA rfl) Try.zeroValue36 rfl rfl) (by rintro _ ⟨w, rfl⟩; exact ⟨⟨w, undef⟩, bE [0, 1, 3] rfl rfl (le_refl _)⟩)), trivial⟩⟩
        · exact fun X46 => dE (aU rfl (aU rfl (bC ⟨rfl, rfl, rfl, rfl, trivial⟩)))
       ·intro X46
        refine kH (rZ 3 1) ?_
        refine tr1 rfl (cM (i := 2) rfl rfl rfl rfl rfl Try.sizeOf36 rfl (aA rfl) (Nat.le_of_ble_eq_true rfl) (ds' := [.lit (.int .i64 x49.Length.Low), .lit (.int .i64 x49.Length.High), .lit (.slice none 0 0), .sl 1 ((([] : List Int)).map aP), .lit (.int .i64 x53.Due), .lit (.int .i64 0)]) rfl) ?_
        refine aG ?_
        refine aF ?_
        refine aF ?_
        refine aC ?_
        refine tr1 rfl (aH (v := .d (.lit (.int .i64 0))) (aA rfl) rfl rfl) ?_
        refine aG ?_
        refine cO ?_
        refine dG [2, 11, 17, 18, 19] (fun (s55 : Int × (List Int) × bO × (List Int) × Int × Int × Value) => [(20, .d (.lit (.int .i64 s55.1)))]) (fun (s55 : Int × (List Int) × bO × (List Int) × Int × Int × Value) => [.arr w25 73 4 (openv_2_24.map bI), .arr w43 36 6 (jobs_4_42.map aQ), .arr s55.2.2.2.2.2.2 3 1 (s55.2.1.map aP), .box (X46 19).b 0 [.lit (.int .i64 s55.2.2.1.Low), .lit (.int .i64 s55.2.2.1.High), .lit s55.2.2.2.2.2.2, .sl 1 (s55.2.2.2.1.map aP), .lit (.int .i64 s55.2.2.2.2.1), .lit (.int .i64 s55.2.2.2.2.2.1)]]) (fun (k : Nat) (s55 : Int × (List Int) × bO × (List Int) × Int × Int × Value) => hB (eS stages_2 openv_2_24 k44) stages_2 i_4_42 openv_2_24 jobs_4_42 k s55.1 s55.2.1 s55.2.2.1 s55.2.2.2.1 s55.2.2.2.2.1 s55.2.2.2.2.2.1) (fun _ => rfl) (0, ([] : List Int), x49.Length, ([] : List Int), x53.Due, 0, (.slice none 0 0)) h (bE [0, 1, 3, 2] rfl rfl (aU rfl (bC ⟨rfl, rfl, rfl, rfl, rfl, trivial⟩))) ?_
        rintro k57 ⟨k_6_55, j_6_55, j_6_55_2, j_6_55_3, j_6_55_4, j_6_55_5, w56⟩ h
        simp only [hB] at h
        refine aF ?_
        refine aF ?_
        refine aC ?_
        refine tr1 rfl (aD (v := .d (.lit (.int .i64 k_6_55))) (aA rfl) rfl rfl) ?_
        refine tr1 rfl (aD (v := .d (.lit (.int .i64 i_4_42))) (aA rfl) rfl rfl) ?_
        refine tr1 rfl (bR (aA rfl) rfl rfl rfl) ?_
        refine aG ?_
        refine cA rfl (fun c58 => ?_) (fun c58 => ?_)
        ·have h := aX c58 h
         refine bX ?_
         refine aF ?_
         refine cO ?_
         refine aF ?_
         obtain ⟨x59, h60, h⟩ := bind_some h
         obtain ⟨x61, h62, h⟩ := bind_some h
         obtain ⟨b63, h64, h⟩ := bind_some h
         refine eD mix 26 [2, 11, 17, 18, 19, 20] [(149, .d (.lit (.bool b63)))] ?_ ?_
         ·refine bY (decide (x59.Round = (w64 (x61.Round - 1)))) (fun c65 => ?_) (fun c65 => ?_)
          ·have h64 := aX c65 h64
           obtain ⟨x66, h67, h64⟩ := bind_some h64
           obtain ⟨x68, h69, h64⟩ := bind_some h64
           have h64 := Option.some.inj h64
           subst h64
           refine ⟨[(124, 0, .d (.lit w25)), (125, 1, .d (.lit (.int .i64 k_6_55))), (126, 2, .ep w25 4 k_6_55.toNat 0), (127, 3, .ep w25 4 k_6_55.toNat 0), (128, 4, .d (.lit (.int .i64 x59.Round))), (129, 5, .d (.lit w25)), (130, 6, .d (.lit (.int .i64 i_4_42))), (131, 7, .ep w25 4 i_4_42.toNat 0), (132, 8, .ep w25 4 i_4_42.toNat 0), (133, 9, .d (.lit (.int .i64 x61.Round))), (134, 10, .d (.lit (.int .i64 ((w64 (x61.Round - 1)))))), (135, 11, .d (.lit (.bool ((decide (x59.Round = (w64 (x61.Round - 1)))))))), (136, 12, .d (.lit (.bool ((decide (x59.Round = (w64 (x61.Round - 1)))))))), (137, 13, .d (.lit w25)), (138, 14, .d (.lit (.int .i64 k_6_55))), (139, 15, .ep w25 4 k_6_55.toNat 0), (140, 16, .ep w25 4 k_6_55.toNat 1), (141, 17, .d (.lit (.int .i64 x66.Place))), (142, 18, .d (.lit (.int .i64 ((w64 (x66.Place.tdiv 2)))))), (143, 19, .d (.lit w25)), (144, 20, .d (.lit (.int .i64 i_4_42))), (145, 21, .ep w25 4 i_4_42.toNat 0), (146, 22, .ep w25 4 i_4_42.toNat 1), (147, 23, .d (.lit (.int .i64 x68.Place))), (148, 24, .d (.lit (.bool ((decide ((w64 (x66.Place.tdiv 2)) = x68.Place)))))), (149, 25, .d (.lit (.bool ((decide ((w64 (x66.Place.tdiv 2)) = x68.Place))))))], ?_, ?_⟩
           · exact ⟨by kernel_rfl, by kernel_rfl, by kernel_rfl, by kernel_rfl, by kernel_rfl, [([], []), ([], []), ([0, 1], []), ([2], []), ([3], []), ([], []), ([], []), ([5, 6], []), ([7], []), ([8], []), ([9], []), ([4, 10], []), ([11], []), ([12], []), ([12], []), ([12, 13, 14], []), ([12, 15], []), ([12, 16], []), ([12, 17], []), ([12], []), ([12], []), ([12, 19, 20], []), ([12, 21], []), ([12, 22], []), ([12, 18, 23], []), ([12, 24], [])], by kernel_rfl, ⟨fun S hS => aE rfl (aJ rfl (aD (v := .d (.lit w25)) (aA rfl) (aB hS rfl) rfl)),
      fun S hS => aE rfl (aJ rfl (aD (v := .d (.lit (.int .i64 k_6_55))) (aA rfl) (aB hS rfl) rfl)),
      fun S hS => aE rfl (aJ rfl (eG (m := 0) (aA rfl) (aB hS rfl) rfl (aB hS rfl) iF.of (bP bI h60))),
      fun S hS => aE rfl (aJ rfl (nQ (aA rfl) (aB hS rfl) lY)),
      fun S hS => aE rfl (aJ rfl (iK (aA rfl) (aB hS rfl) (m := 0) rfl (jU bI h60) rfl bL)),
      fun S hS => aE rfl (aJ rfl (aD (v := .d (.lit w25)) (aA rfl) (aB hS rfl) rfl)),
      fun S hS => aE rfl (aJ rfl (aD (v := .d (.lit (.int .i64 i_4_42))) (aA rfl) (aB hS rfl) rfl)),
      fun S hS => aE rfl (aJ rfl (eG (m := 0) (aA rfl) (aB hS rfl) rfl (aB hS rfl) iF.of (bP bI h62))),
      fun S hS => aE rfl (aJ rfl (nQ (aA rfl) (aB hS rfl) lY)),
      fun S hS => aE rfl (aJ rfl (iK (aA rfl) (aB hS rfl) (m := 0) rfl (jU bI h62) rfl bL)),
      fun S hS => aE rfl (aJ rfl (bT (aA rfl) (aB hS rfl) rfl rfl)),
      fun S hS => aE rfl (aJ rfl (bR (aA rfl) (aB hS rfl) (aB hS rfl) rfl)),
      fun S hS => aE rfl (aJ rfl (aD (v := .d (.lit (.bool ((decide (x59.Round = (w64 (x61.Round - 1)))))))) (aA rfl) (aB hS rfl) rfl)),
      fun S hS => aE rfl (bA rfl rfl (aA rfl) (aL hS rfl) c65 (aD (v := .d (.lit w25)) (aA rfl) (aB hS rfl) rfl)),
      fun S hS => aE rfl (bA rfl rfl (aA rfl) (aL hS rfl) c65 (aD (v := .d (.lit (.int .i64 k_6_55))) (aA rfl) (aB hS rfl) rfl)),
      fun S hS => aE rfl (bA rfl rfl (aA rfl) (aL hS rfl) c65 (eG (m := 0) (aA rfl) (aB hS rfl) rfl (aB hS rfl) iF.of (bP bI h67))),
      fun S hS => aE rfl (bA rfl rfl (aA rfl) (aL hS rfl) c65 (nQ (aA rfl) (aB hS rfl) tA)),
      fun S hS => aE rfl (bA rfl rfl (aA rfl) (aL hS rfl) c65 (iK (aA rfl) (aB hS rfl) (m := 0) rfl (jU bI h67) rfl bL)),
      fun S hS => aE rfl (bA rfl rfl (aA rfl) (aL hS rfl) c65 (aOc (aA rfl) (aB hS rfl) rfl (by decide))),
      fun S hS => aE rfl (bA rfl rfl (aA rfl) (aL hS rfl) c65 (aD (v := .d (.lit w25)) (aA rfl) (aB hS rfl) rfl)),
      fun S hS => aE rfl (bA rfl rfl (aA rfl) (aL hS rfl) c65 (aD (v := .d (.lit (.int .i64 i_4_42))) (aA rfl) (aB hS rfl) rfl)),
      fun S hS => aE rfl (bA rfl rfl (aA rfl) (aL hS rfl) c65 (eG (m := 0) (aA rfl) (aB hS rfl) rfl (aB hS rfl) iF.of (bP bI h69))),
      fun S hS => aE rfl (bA rfl rfl (aA rfl) (aL hS rfl) c65 (nQ (aA rfl) (aB hS rfl) tA)),
      fun S hS => aE rfl (bA rfl rfl (aA rfl) (aL hS rfl) c65 (iK (aA rfl) (aB hS rfl) (m := 0) rfl (jU bI h69) rfl bL)),
      fun S hS => aE rfl (bA rfl rfl (aA rfl) (aL hS rfl) c65 (bR (aA rfl) (aB hS rfl) (aB hS rfl) rfl)),
      fun S hS => aE rfl (aJ rfl (cC (v := .d (.lit (.bool ((decide ((w64 (x66.Place.tdiv 2)) = x68.Place)))))) (aA rfl) (aB hS rfl) c65 (aB hS rfl) rfl)), trivial⟩⟩
           · exact dE (aU rfl (bC ⟨rfl, rfl, rfl, rfl, rfl, rfl, trivial⟩))
          ·have h64 := aY c65 h64
           have h64 := Option.some.inj h64
           subst h64
           refine ⟨[(124, 0, .d (.lit w25)), (125, 1, .d (.lit (.int .i64 k_6_55))), (126, 2, .ep w25 4 k_6_55.toNat 0), (127, 3, .ep w25 4 k_6_55.toNat 0), (128, 4, .d (.lit (.int .i64 x59.Round))), (129, 5, .d (.lit w25)), (130, 6, .d (.lit (.int .i64 i_4_42))), (131, 7, .ep w25 4 i_4_42.toNat 0), (132, 8, .ep w25 4 i_4_42.toNat 0), (133, 9, .d (.lit (.int .i64 x61.Round))), (134, 10, .d (.lit (.int .i64 ((w64 (x61.Round - 1)))))), (135, 11, .d (.lit (.bool ((decide (x59.Round = (w64 (x61.Round - 1)))))))), (136, 12, .d (.lit (.bool ((decide (x59.Round = (w64 (x61.Round - 1)))))))), (137, 13, .tup []), (138, 14, .tup []), (139, 15, .tup []), (140, 16, .tup []), (141, 17, .tup []), (142, 18, .tup []), (143, 19, .tup []), (144, 20, .tup []), (145, 21, .tup []), (146, 22, .tup []), (147, 23, .tup []), (148, 24, .tup []), (149, 25, .d (.lit (.bool false)))], ?_, ?_⟩
           · exact ⟨by kernel_rfl, by kernel_rfl, by kernel_rfl, by kernel_rfl, by kernel_rfl, [([], []), ([], []), ([0, 1], []), ([2], []), ([3], []), ([], []), ([], []), ([5, 6], []), ([7], []), ([8], []), ([9], []), ([4, 10], []), ([11], []), ([12], []), ([12], []), ([12, 13, 14], []), ([12, 15], []), ([12, 16], []), ([12, 17], []), ([12], []), ([12], []), ([12, 19, 20], []), ([12, 21], []), ([12, 22], []), ([12, 18, 23], []), ([12, 24], [])], by kernel_rfl, ⟨fun S hS => aE rfl (aJ rfl (aD (v := .d (.lit w25)) (aA rfl) (aB hS rfl) rfl)),
      fun S hS => aE rfl (aJ rfl (aD (v := .d (.lit (.int .i64 k_6_55))) (aA rfl) (aB hS rfl) rfl)),
      fun S hS => aE rfl (aJ rfl (eG (m := 0) (aA rfl) (aB hS rfl) rfl (aB hS rfl) iF.of (bP bI h60))),
      fun S hS => aE rfl (aJ rfl (nQ (aA rfl) (aB hS rfl) lY)),
      fun S hS => aE rfl (aJ rfl (iK (aA rfl) (aB hS rfl) (m := 0) rfl (jU bI h60) rfl bL)),
      fun S hS => aE rfl (aJ rfl (aD (v := .d (.lit w25)) (aA rfl) (aB hS rfl) rfl)),
      fun S hS => aE rfl (aJ rfl (aD (v := .d (.lit (.int .i64 i_4_42))) (aA rfl) (aB hS rfl) rfl)),
      fun S hS => aE rfl (aJ rfl (eG (m := 0) (aA rfl) (aB hS rfl) rfl (aB hS rfl) iF.of (bP bI h62))),
      fun S hS => aE rfl (aJ rfl (nQ (aA rfl) (aB hS rfl) lY)),
      fun S hS => aE rfl (aJ rfl (iK (aA rfl) (aB hS rfl) (m := 0) rfl (jU bI h62) rfl bL)),
      fun S hS => aE rfl (aJ rfl (bT (aA rfl) (aB hS rfl) rfl rfl)),
      fun S hS => aE rfl (aJ rfl (bR (aA rfl) (aB hS rfl) (aB hS rfl) rfl)),
      fun S hS => aE rfl (aJ rfl (aD (v := .d (.lit (.bool ((decide (x59.Round = (w64 (x61.Round - 1)))))))) (aA rfl) (aB hS rfl) rfl)),
      fun S hS => aE rfl (aZ rfl rfl (aA rfl) rfl (aA rfl) (aL hS rfl) c65),
      fun S hS => aE rfl (aZ rfl rfl (aA rfl) rfl (aA rfl) (aL hS rfl) c65),
      fun S hS => aE rfl (aZ rfl rfl (aA rfl) rfl (aA rfl) (aL hS rfl) c65),
      fun S hS => aE rfl (aZ rfl rfl (aA rfl) rfl (aA rfl) (aL hS rfl) c65),
      fun S hS => aE rfl (aZ rfl rfl (aA rfl) rfl (aA rfl) (aL hS rfl) c65),
      fun S hS => aE rfl (aZ rfl rfl (aA rfl) rfl (aA rfl) (aL hS rfl) c65),
      fun S hS => aE rfl (aZ rfl rfl (aA rfl) rfl (aA rfl) (aL hS rfl) c65),
      fun S hS => aE rfl (aZ rfl rfl (aA rfl) rfl (aA rfl) (aL hS rfl) c65),
      fun S hS => aE rfl (aZ rfl rfl (aA rfl) rfl (aA rfl) (aL hS rfl) c65),
      fun S hS => aE rfl (aZ rfl rfl (aA rfl) rfl (aA rfl) (aL hS rfl) c65),
      fun S hS => aE rfl (aZ rfl rfl (aA rfl) rfl (aA rfl) (aL hS rfl) c65),
      fun S hS => aE rfl (aZ rfl rfl (aA rfl) rfl (aA rfl) (aL hS rfl) c65),
      fun S hS => aE rfl (aJ rfl (cB (v := .d (.lit (.bool false))) (aA rfl) (aB hS rfl) c65 rfl rfl)), trivial⟩⟩
           · exact dE (aU rfl (bC ⟨rfl, rfl, rfl, rfl, rfl, rfl, trivial⟩))
         ·refine aG ?_
          refine cA rfl (fun c70 => ?_) (fun c70 => ?_)
          ·have h := aX c70 h
           refine aC ?_
           refine tr1 rfl (aN (aA rfl) rfl jJ) ?_
           refine tr1 rfl (aR (aA rfl) rfl (i := 3) rfl rfl dF) ?_
           refine tr1 rfl (aD (v := .d (.lit (.int .i64 k_6_55))) (aA rfl) rfl rfl) ?_
           refine tr1 rfl (eW (aA rfl) cT rfl rfl (rows := ([k_6_55]).map aP) rfl (dD (f := aP) fun _ => rfl) rfl (by decide)) ?_
           obtain ⟨x71, h72, h⟩ := bind_some h
           refine cE rfl (fC (i := 2) (aA rfl) cT rfl rfl rfl (fun _ => rfl) h72 rfl) ?_
           rintro _ ⟨v73, rfl⟩
           refine tr1 rfl (aN (aA rfl) rfl jJ) ?_
           refine tr1 rfl (cM (i := 3) rfl rfl rfl rfl rfl Try.sizeOf27 rfl (aA rfl) (Nat.le_of_ble_eq_true rfl) (ds' := [.lit (.int .i64 j_6_55_2.Low), .lit (.int .i64 j_6_55_2.High), .lit v73, .sl 1 (j_6_55_3.map aP), .lit (.int .i64 j_6_55_4), .lit (.int .i64 j_6_55_5)]) rfl) ?_
           refine fB ?_
           refine aC ?_
           refine tr1 rfl (aD (v := .d (.lit (.int .i64 k_6_55))) (aA rfl) rfl rfl) ?_
           refine tr1 rfl (bT (aA rfl) rfl rfl rfl) ?_
           refine tr1 rfl (aH (v := .d (.lit (.int .i64 ((w64 (k_6_55 + 1)))))) (aA rfl) rfl rfl) ?_
           refine aG ?_
           exact ⟨(w64 (k_6_55 + 1), x71, j_6_55_2, j_6_55_3, j_6_55_4, j_6_55_5, v73), h, bE [0, 1, 2, 3] rfl rfl (aU rfl (bC ⟨rfl, rfl, rfl, rfl, rfl, trivial⟩))⟩
          ·have h := aY c70 h
           refine dY ?_
           refine aC ?_
           refine tr1 rfl (aD (v := .d (.lit (.int .i64 k_6_55))) (aA rfl) rfl rfl) ?_
           refine tr1 rfl (bT (aA rfl) rfl rfl rfl) ?_
           refine tr1 rfl (aH (v := .d (.lit (.int .i64 ((w64 (k_6_55 + 1)))))) (aA rfl) rfl rfl) ?_
           refine aG ?_
           exact ⟨(w64 (k_6_55 + 1), j_6_55, j_6_55_2, j_6_55_3, j_6_55_4, j_6_55_5, w56), h, bE [0, 1, 2, 3] rfl rfl (aU rfl (bC ⟨rfl, rfl, rfl, rfl, rfl, trivial⟩))⟩
        ·have h := aY c58 h
         refine dA ?_
         refine .inl ⟨rfl, ?_⟩
         simp only [nJ] at h
         refine aC ?_
         refine tr1 rfl (aD (v := .d (.lit w43)) (aA rfl) rfl rfl) ?_
         refine tr1 rfl (bN (aA rfl) rfl (i := 3) rfl xE (es := [.lit (.int .i64 j_6_55_2.Low), .lit (.int .i64 j_6_55_2.High), .lit w56, .sl 1 (j_6_55_3.map aP), .lit (.int .i64 j_6_55_4), .lit (.int .i64 j_6_55_5)]) rfl rfl) ?_
         apply aJs [.arr w25 73 4 (openv_2_24.map bI), .arr w43 36 6 (jobs_4_42.map aQ)] [.arr w56 3 1 (j_6_55.map aP), .box (X46 19).b 0 [.lit (.int .i64 j_6_55_2.Low), .lit (.int .i64 j_6_55_2.High), .lit w56, .sl 1 (j_6_55_3.map aP), .lit (.int .i64 j_6_55_4), .lit (.int .i64 j_6_55_5)]] rfl
         exact fM (k := 157) (v := .agg (aQ (cI.mk j_6_55_2 j_6_55 j_6_55_3 j_6_55_4 j_6_55_5))) (.agg (dvc (.same _) (dvc (.same _) (dvc (gQ 0 rfl (dD (f := aP) fun _ => rfl)) (dvc (.same _) (dvc (.same _) (dvc (.same _) dvn))))))) (fM (k := 19) (v := .cp [.lit (.int .i64 j_6_55_2.Low), .lit (.int .i64 j_6_55_2.High), .sl 1 (j_6_55.map aP), .sl 1 (j_6_55_3.map aP), .lit (.int .i64 j_6_55_4), .lit (.int .i64 j_6_55_5)]) ((tK 1 rfl rfl (dvc (.same _) (dvc (.same _) (dvc (gQ 0 rfl (dD (f := aP) fun _ => rfl)) (dvc (.same _) (dvc (.same _) (dvc (.same _) dvn)))))))) (aCs _ _))
         refine tr1 rfl (eW (aA rfl) dW rfl rfl (rows := ([(cI.mk j_6_55_2 j_6_55 j_6_55_3 j_6_55_4 j_6_55_5)]).map aQ) rfl (dD (f := aQ) fun _ => rfl) rfl (by decide)) ?_
         obtain ⟨x74, h75, h⟩ := bind_some h
         refine cE rfl (fC (i := 1) (aA rfl) dW rfl rfl rfl (fun _ => rfl) h75 rfl) ?_
         rintro _ ⟨v76, rfl⟩
         refine tr1 rfl (aH (v := .d (.lit v76)) (aA rfl) rfl rfl) ?_
         refine fB ?_
         simp only [qB] at h
         refine aC ?_
         refine tr1 rfl (aD (v := .d (.lit (.int .i64 i_4_42))) (aA rfl) rfl rfl) ?_
         refine tr1 rfl (bT (aA rfl) rfl rfl rfl) ?_
         refine tr1 rfl (aH (v := .d (.lit (.int .i64 ((w64 (i_4_42 + 1)))))) (aA rfl) rfl rfl) ?_
         refine aG ?_
         exact ⟨(w64 (i_4_42 + 1), x74, v76), h, bE [0, 1] rfl rfl (aU rfl (aU rfl (bC ⟨rfl, rfl, trivial⟩)))⟩
      ·have h := aY c45 h
       refine dA ?_
       refine .inl ⟨rfl, ?_⟩
       simp only [nI] at h
       refine aF ?_
       refine aC ?_
       refine tr1 rfl (aD (v := .d (.lit w43)) (aA rfl) rfl rfl) ?_
       refine tr1 rfl (aD (v := .d (.lit w25)) (aA rfl) rfl rfl) ?_
       refine tr1 rfl (aH (v := .d (.lit w43)) (aA rfl) rfl rfl) ?_
       refine tr1 rfl (aH (v := .d (.lit w25)) (aA rfl) rfl rfl) ?_
       refine tr1 rfl (aH (v := .d (.lit (.int .i64 0))) (aA rfl) rfl rfl) ?_
       refine aG ?_
       have h := Option.some.inj h
       subst h
       refine cQ (cF (fM (k := 8) (v := .d (.lit (.int .i64 0))) (.same _) (fM (k := 7) (v := .d (.sl 4 (openv_2_24.map bI))) (.d (gQ 0 rfl (dD (f := bI) fun _ => rfl))) (fM (k := 6) (v := .d (.sl 6 (jobs_4_42.map aQ))) (.d (gQ 1 rfl (dD (f := aQ) fun _ => rfl))) (qL))))) ?_
       exact bU ⟨rfl, _, .three _ _ _, rfl, rfl⟩

theorem gO (a_0 : List Int) (b_1 : List Int) {r : Bool} (h : jN a_0 b_1 = some r) : Fn Try.prog 66 [.d (.sl 1 (a_0.map aP)), .d (.sl 1 (b_1.map aP))] (.d (.lit (.bool r))) := by
 unfold jN at h
 refine Fn.of_tr Try.func66 rfl (rs := [.tmp 4]) Try.results66 Try.ntmps66 (Nat.le_of_ble_eq_true rfl) ?_
 refine aF ?_
 refine aC ?_
 refine tr1 rfl (aH (v := .d (.lit (.bool false))) (aA rfl) rfl rfl) ?_
 refine aG ?_
 refine aF ?_
 refine aF ?_
 refine aC ?_
 refine tr1 rfl (aD (v := .d (.sl 1 (a_0.map aP))) (aA rfl) rfl rfl) ?_
 refine tr1 rfl (dC (aA rfl) rfl cT.of) ?_
 refine tr1 rfl (aD (v := .d (.sl 1 (b_1.map aP))) (aA rfl) rfl rfl) ?_
 refine tr1 rfl (dC (aA rfl) rfl cT.of) ?_
 refine tr1 rfl (bR (aA rfl) rfl rfl rfl) ?_
 refine aG ?_
 refine cA rfl (fun c1 => ?_) (fun c1 => ?_)
 ·have h := aX c1 h
  refine aF ?_
  refine aC ?_
  refine tr1 rfl (aH (v := .d (.lit (.bool false))) (aA rfl) rfl rfl) ?_
  refine aG ?_
  have h := Option.some.inj h
  subst h
  exact bU ⟨rfl, _, .one _, rfl, rfl⟩
 ·have h := aY c1 h
  refine bX ?_
  refine aF ?_
  refine aF ?_
  refine aC ?_
  refine tr1 rfl (aH (v := .d (.lit (.int .i64 0))) (aA rfl) rfl rfl) ?_
  refine aG ?_
  refine cO ?_
  refine dG [0, 1] (fun (s2 : Int) => [(5, .d (.lit (.int .i64 s2)))]) (fun (s2 : Int) => []) (fun (k : Nat) (s2 : Int) => gC a_0 b_1 k s2) (fun _ => rfl) (0) h (bE [] rfl rfl (aU rfl (bC ⟨rfl, rfl, trivial⟩))) ?_
  rintro k3 i_0_2 h
  simp only [gC] at h
  refine aF ?_
  refine aF ?_
  refine aC ?_
  refine tr1 rfl (aD (v := .d (.lit (.int .i64 i_0_2))) (aA rfl) rfl rfl) ?_
  refine tr1 rfl (aD (v := .d (.sl 1 (a_0.map aP))) (aA rfl) rfl rfl) ?_
  refine tr1 rfl (dC (aA rfl) rfl cT.of) ?_
  refine tr1 rfl (bR (aA rfl) rfl rfl rfl) ?_
  refine aG ?_
  refine cA rfl (fun c4 => ?_) (fun c4 => ?_)
  ·have h := aX c4 h
   refine bX ?_
   refine aF ?_
   refine cO ?_
   refine aF ?_
   obtain ⟨x5, h6, h⟩ := bind_some h
   obtain ⟨x7, h8, h⟩ := bind_some h
   refine eD mix 8 [0, 1, 5] [(20, .d (.lit (.int .i64 x5))), (24, .d (.lit (.int .i64 x7)))] ?_ ?_
   ·refine ⟨[(17, 0, .d (.sl 1 (a_0.map aP))), (18, 1, .d (.lit (.int .i64 i_0_2))), (19, 2, .cp [.lit (.int .i64 x5)]), (20, 3, .d (.lit (.int .i64 x5))), (21, 4, .d (.sl 1 (b_1.map aP))), (22, 5, .d (.lit (.int .i64 i_0_2))), (23, 6, .cp [.lit (.int .i64 x7)]), (24, 7, .d (.lit (.int .i64 x7)))], ?_, ?_⟩
    · exact ⟨by kernel_rfl, by kernel_rfl, by kernel_rfl, by kernel_rfl, by kernel_rfl, [([], []), ([], []), ([0, 1], []), ([2], []), ([], []), ([], []), ([4, 5], []), ([6], [])], by kernel_rfl, ⟨fun S hS => aE rfl (aJ rfl (aD (v := .d (.sl 1 (a_0.map aP))) (aA rfl) (aB hS rfl) rfl)),
      fun S hS => aE rfl (aJ rfl (aD (v := .d (.lit (.int .i64 i_0_2))) (aA rfl) (aB hS rfl) rfl)),
      fun S hS => aE rfl (aJ rfl (bJ (aA rfl) (aB hS rfl) (aB hS rfl) cT.of (bP aP h6))),
      fun S hS => aE rfl (aJ rfl (bZ (aA rfl) (aB hS rfl) bL)),
      fun S hS => aE rfl (aJ rfl (aD (v := .d (.sl 1 (b_1.map aP))) (aA rfl) (aB hS rfl) rfl)),
      fun S hS => aE rfl (aJ rfl (aD (v := .d (.lit (.int .i64 i_0_2))) (aA rfl) (aB hS rfl) rfl)),
      fun S hS => aE rfl (aJ rfl (bJ (aA rfl) (aB hS rfl) (aB hS rfl) cT.of (bP aP h8))),
      fun S hS => aE rfl (aJ rfl (bZ (aA rfl) (aB hS rfl) bL)), trivial⟩⟩
    · exact dE (aU rfl (aU rfl (bC ⟨rfl, rfl, rfl, trivial⟩)))
   ·refine tr1 rfl (bR (aA rfl) rfl rfl rfl) ?_
    refine aG ?_
    refine cA rfl (fun c9 => ?_) (fun c9 => ?_)
    ·have h := aX c9 h
     refine aF ?_
     refine aC ?_
     refine tr1 rfl (aH (v := .d (.lit (.bool false))) (aA rfl) rfl rfl) ?_
     refine aG ?_
     have h := Option.some.inj h
     subst h
     exact bU ⟨rfl, _, .one _, rfl, rfl⟩
    ·have h := aY c9 h
     refine dY ?_
     refine aC ?_
     refine tr1 rfl (aD (v := .d (.lit (.int .i64 i_0_2))) (aA rfl) rfl rfl) ?_
     refine tr1 rfl (bT (aA rfl) rfl rfl rfl) ?_
     refine tr1 rfl (aH (v := .d (.lit (.int .i64 ((w64 (i_0_2 + 1)))))) (aA rfl) rfl rfl) ?_
     refine aG ?_
     exact ⟨(w64 (i_0_2 + 1)), h, bE [] rfl rfl (aU rfl (bC ⟨rfl, rfl, trivial⟩))⟩
  ·have h := aY c4 h
   refine dA ?_
   refine .inl ⟨rfl, ?_⟩
   simp only [nS] at h
   refine aF ?_
   refine aC ?_
   refine tr1 rfl (aH (v := .d (.lit (.bool true))) (aA rfl) rfl rfl) ?_
   refine aG ?_
   have h := Option.some.inj h
   subst h
   exact bU ⟨rfl, _, .one _, rfl, rfl⟩

theorem xH (a_0 : List cI) (b_1 : List cI) {r : Bool} (h : jO a_0 b_1 = some r) : Fn Try.prog 29 [.d (.sl 6 (a_0.map aQ)), .d (.sl 6 (b_1.map aQ))] (.d (.lit (.bool r))) := by
 unfold jO at h
 refine Fn.of_tr Try.func29 rfl (rs := [.tmp 4]) Try.results29 Try.ntmps29 (Nat.le_of_ble_eq_true rfl) ?_
 refine aF ?_
 refine aC ?_
 refine tr1 rfl (aH (v := .d (.lit (.bool false))) (aA rfl) rfl rfl) ?_
 refine aG ?_
 refine aF ?_
 refine aF ?_
 refine aC ?_
 refine tr1 rfl (aD (v := .d (.sl 6 (a_0.map aQ))) (aA rfl) rfl rfl) ?_
 refine tr1 rfl (dC (aA rfl) rfl dW.of) ?_
 refine tr1 rfl (aD (v := .d (.sl 6 (b_1.map aQ))) (aA rfl) rfl rfl) ?_
 refine tr1 rfl (dC (aA rfl) rfl dW.of) ?_
 refine tr1 rfl (bR (aA rfl) rfl rfl rfl) ?_
 refine aG ?_
 refine cA rfl (fun c1 => ?_) (fun c1 => ?_)
 ·have h := aX c1 h
  refine aF ?_
  refine aC ?_
  refine tr1 rfl (aH (v := .d (.lit (.bool false))) (aA rfl) rfl rfl) ?_
  refine aG ?_
  have h := Option.some.inj h
  subst h
  exact bU ⟨rfl, _, .one _, rfl, rfl⟩
 ·have h := aY c1 h
  refine bX ?_
  refine aF ?_
  refine aF ?_
  refine aC ?_
  refine tr1 rfl (aH (v := .d (.lit (.int .i64 0))) (aA rfl) rfl rfl) ?_
  refine aG ?_
  refine cO ?_
  refine dG [0, 1] (fun (s2 : Int) => [(5, .d (.lit (.int .i64 s2)))]) (fun (s2 : Int) => []) (fun (k : Nat) (s2 : Int) => gD a_0 b_1 k s2) (fun _ => rfl) (0) h (bE [] rfl rfl (aU rfl (bC ⟨rfl, rfl, trivial⟩))) ?_
  rintro k3 i_0_2 h
  simp only [gD] at h
  refine aF ?_
  refine aF ?_
  refine aC ?_
  refine tr1 rfl (aD (v := .d (.lit (.int .i64 i_0_2))) (aA rfl) rfl rfl) ?_
  refine tr1 rfl (aD (v := .d (.sl 6 (a_0.map aQ))) (aA rfl) rfl rfl) ?_
  refine tr1 rfl (dC (aA rfl) rfl dW.of) ?_
  refine tr1 rfl (bR (aA rfl) rfl rfl rfl) ?_
  refine aG ?_
  refine cA rfl (fun c4 => ?_) (fun c4 => ?_)
  ·have h := aX c4 h
   refine bX ?_
   refine aF ?_
   refine cO ?_
   refine aF ?_
   obtain ⟨x5, h6, h⟩ := bind_some h
   obtain ⟨x7, h8, h⟩ := bind_some h
   obtain ⟨b9, h10, h⟩ := bind_some h
   obtain ⟨b18, h19, h⟩ := bind_some h
   obtain ⟨b27, h28, h⟩ := bind_some h
   obtain ⟨b34, h35, h⟩ := bind_some h
   refine eD mix 65 [0, 1, 5] [(81, .d (.lit (.bool b34)))] ?_ ?_
   ·refine bY (!decide (x5.Length = x7.Length)) (fun c11 => ?_) (fun c11 => ?_)
    ·have h10 := aX c11 h10
     have h10 := Option.some.inj h10
     subst h10
     have c20 : true = true := rfl
     have h19 := aX c20 h19
     have h19 := Option.some.inj h19
     subst h19
     have c29 : true = true := rfl
     have h28 := aX c29 h28
     have h28 := Option.some.inj h28
     subst h28
     have c36 : true = true := rfl
     have h35 := aX c36 h35
     have h35 := Option.some.inj h35
     subst h35
     refine ⟨[(17, 0, .d (.sl 6 (a_0.map aQ))), (18, 1, .d (.lit (.int .i64 i_0_2))), (19, 2, .cp [.lit (.int .i64 x5.Length.Low), .lit (.int .i64 x5.Length.High), .sl 1 (x5.After.map aP), .sl 1 (x5.With.map aP), .lit (.int .i64 x5.Due), .lit (.int .i64 x5.Earliest)]), (20, 3, .cp [.lit (.int .i64 x5.Length.Low), .lit (.int .i64 x5.Length.High)]), (21, 4, .agg (bF x5.Length)), (22, 5, .d (.sl 6 (b_1.map aQ))), (23, 6, .d (.lit (.int .i64 i_0_2))), (24, 7, .cp [.lit (.int .i64 x7.Length.Low), .lit (.int .i64 x7.Length.High), .sl 1 (x7.After.map aP), .sl 1 (x7.With.map aP), .lit (.int .i64 x7.Due), .lit (.int .i64 x7.Earliest)]), (25, 8, .cp [.lit (.int .i64 x7.Length.Low), .lit (.int .i64 x7.Length.High)]), (26, 9, .agg (bF x7.Length)), (27, 10, .d (.lit (.bool ((!decide (x5.Length = x7.Length)))))), (28, 11, .d (.lit (.bool ((!decide (x5.Length = x7.Length)))))), (29, 12, .tup []), (30, 13, .tup []), (31, 14, .tup []), (32, 15, .tup []), (33, 16, .tup []), (34, 17, .tup []), (35, 18, .tup []), (36, 19, .tup []), (37, 20, .tup []), (38, 21, .tup []), (39, 22, .tup []), (40, 23, .tup []), (41, 24, .d (.lit (.bool true))), (42, 25, .d (.lit (.bool (true)))), (43, 26, .tup []), (44, 27, .tup []), (45, 28, .tup []), (46, 29, .tup []), (47, 30, .tup []), (48, 31, .tup []), (49, 32, .tup []), (50, 33, .tup []), (51, 34, .tup []), (52, 35, .tup []), (53, 36, .tup []), (54, 37, .tup []), (55, 38, .d (.lit (.bool true))), (56, 39, .d (.lit (.bool (true)))), (57, 40, .tup []), (58, 41, .tup []), (59, 42, .tup []), (60, 43, .tup []), (61, 44, .tup []), (62, 45, .tup []), (63, 46, .tup []), (64, 47, .tup []), (65, 48, .tup []), (66, 49, .tup []), (67, 50, .tup []), (68, 51, .d (.lit (.bool true))), (69, 52, .d (.lit (.bool (true)))), (70, 53, .tup []), (71, 54, .tup []), (72, 55, .tup []), (73, 56, .tup []), (74, 57, .tup []), (75, 58, .tup []), (76, 59, .tup []), (77, 60, .tup []), (78, 61, .tup []), (79, 62, .tup []), (80, 63, .tup []), (81, 64, .d (.lit (.bool true)))], ?_, ?_⟩
     · exact ⟨by kernel_rfl, by kernel_rfl, by kernel_rfl, by kernel_rfl, by kernel_rfl, [([], []), ([], []), ([0, 1], []), ([2], []), ([3], []), ([], []), ([], []), ([5, 6], []), ([7], []), ([8], []), ([4, 9], []), ([10], []), ([11], []), ([11], []), ([11, 12, 13], []), ([11, 14], []), ([11, 15], []), ([11], []), ([11], []), ([11, 17, 18], []), ([11, 19], []), ([11, 20], []), ([11, 16, 21], []), ([11, 22], []), ([11, 23], []), ([24], []), ([25], []), ([25], []), ([25, 26, 27], []), ([25, 28], []), ([25, 29], []), ([25], []), ([25], []), ([25, 31, 32], []), ([25, 33], []), ([25, 34], []), ([25, 30, 35], []), ([25, 36], []), ([25, 37], []), ([38], []), ([39], []), ([39], []), ([39, 40, 41], []), ([39, 42], []), ([39, 43], []), ([39], []), ([39], []), ([39, 45, 46], []), ([39, 47], []), ([39, 48], []), ([39, 44, 49], []), ([39, 50], []), ([51], []), ([52], []), ([52], []), ([52, 53, 54], []), ([52, 55], []), ([52, 56], []), ([52], []), ([52], []), ([52, 58, 59], []), ([52, 60], []), ([52, 61], []), ([52, 57, 62], []), ([52, 63], [])], by kernel_rfl, ⟨fun S hS => aE rfl (aJ rfl (aD (v := .d (.sl 6 (a_0.map aQ))) (aA rfl) (aB hS rfl) rfl)),
      fun S hS => aE rfl (aJ rfl (aD (v := .d (.lit (.int .i64 i_0_2))) (aA rfl) (aB hS rfl) rfl)),
      fun S hS => aE rfl (aJ rfl (bJ (aA rfl) (aB hS rfl) (aB hS rfl) dW.of (bP aQ h6))),
      fun S hS => aE rfl (aJ rfl (cG (aA rfl) (aB hS rfl) jX (es := [.lit (.int .i64 x5.Length.Low), .lit (.int .i64 x5.Length.High)]) rfl)),
      fun S hS => aE rfl (aJ rfl (dB (aA rfl) (aB hS rfl) gW (es := (bF x5.Length)) rfl rfl)),
      fun S hS => aE rfl (aJ rfl (aD (v := .d (.sl 6 (b_1.map aQ))) (aA rfl) (aB hS rfl) rfl)),
      fun S hS => aE rfl (aJ rfl (aD (v := .d (.lit (.int .i64 i_0_2))) (aA rfl) (aB hS rfl) rfl)),
      fun S hS => aE rfl (aJ rfl (bJ (aA rfl) (aB hS rfl) (aB hS rfl) dW.of (bP aQ h8))),
      fun S hS => aE rfl (aJ rfl (cG (aA rfl) (aB hS rfl) jX (es := [.lit (.int .i64 x7.Length.Low), .lit (.int .i64 x7.Length.High)]) rfl)),
      fun S hS => aE rfl (aJ rfl (dB (aA rfl) (aB hS rfl) gW (es := (bF x7.Length)) rfl rfl)),
      fun S hS => aE rfl (aJ rfl (uP (a := x5.Length) (b := x7.Length) (aA rfl) (aB hS rfl) (aB hS rfl) rfl rfl Try.eqGuardType34 xJ)),
      fun S hS => aE rfl (aJ rfl (aD (v := .d (.lit (.bool ((!decide (x5.Length = x7.Length)))))) (aA rfl) (aB hS rfl) rfl)),
      fun S hS => aE rfl (aZ rfl rfl (aA rfl) rfl (aA rfl) (aL hS rfl) c11),
      fun S hS => aE rfl (aZ rfl rfl (aA rfl) rfl (aA rfl) (aL hS rfl) c11),
      fun S hS => aE rfl (aZ rfl rfl (aA rfl) rfl (aA rfl) (aL hS rfl) c11),
      fun S hS => aE rfl (aZ rfl rfl (aA rfl) rfl (aA rfl) (aL hS rfl) c11),
      fun S hS => aE rfl (aZ rfl rfl (aA rfl) rfl (aA rfl) (aL hS rfl) c11),
      fun S hS => aE rfl (aZ rfl rfl (aA rfl) rfl (aA rfl) (aL hS rfl) c11),
      fun S hS => aE rfl (aZ rfl rfl (aA rfl) rfl (aA rfl) (aL hS rfl) c11),
      fun S hS => aE rfl (aZ rfl rfl (aA rfl) rfl (aA rfl) (aL hS rfl) c11),
      fun S hS => aE rfl (aZ rfl rfl (aA rfl) rfl (aA rfl) (aL hS rfl) c11),
      fun S hS => aE rfl (aZ rfl rfl (aA rfl) rfl (aA rfl) (aL hS rfl) c11),
      fun S hS => aE rfl (aZ rfl rfl (aA rfl) rfl (aA rfl) (aL hS rfl) c11),
      fun S hS => aE rfl (aZ rfl rfl (aA rfl) rfl (aA rfl) (aL hS rfl) c11),
      fun S hS => aE rfl (aJ rfl (cC (v := .d (.lit (.bool true))) (aA rfl) (aB hS rfl) c11 rfl rfl)),
      fun S hS => aE rfl (aJ rfl (aD (v := .d (.lit (.bool (true)))) (aA rfl) (aB hS rfl) rfl)),
      fun S hS => aE rfl (aZ rfl rfl (aA rfl) rfl (aA rfl) (aL hS rfl) c20),
      fun S hS => aE rfl (aZ rfl rfl (aA rfl) rfl (aA rfl) (aL hS rfl) c20),
      fun S hS => aE rfl (aZ rfl rfl (aA rfl) rfl (aA rfl) (aL hS rfl) c20),
      fun S hS => aE rfl (aZ rfl rfl (aA rfl) rfl (aA rfl) (aL hS rfl) c20),
      fun S hS => aE rfl (aZ rfl rfl (aA rfl) rfl (aA rfl) (aL hS rfl) c20),
      fun S hS => aE rfl (aZ rfl rfl (aA rfl) rfl (aA rfl) (aL hS rfl) c20),
      fun S hS => aE rfl (aZ rfl rfl (aA rfl) rfl (aA rfl) (aL hS rfl) c20),
      fun S hS => aE rfl (aZ rfl rfl (aA rfl) rfl (aA rfl) (aL hS rfl) c20),
      fun S hS => aE rfl (aZ rfl rfl (aA rfl) rfl (aA rfl) (aL hS rfl) c20),
      fun S hS => aE rfl (aZ rfl rfl (aA rfl) rfl (aA rfl) (aL hS rfl) c20),
      fun S hS => aE rfl (aZ rfl rfl (aA rfl) rfl (aA rfl) (aL hS rfl) c20),
      fun S hS => aE rfl (aZ rfl rfl (aA rfl) rfl (aA rfl) (aL hS rfl) c20),
      fun S hS => aE rfl (aJ rfl (cC (v := .d (.lit (.bool true))) (aA rfl) (aB hS rfl) c20 rfl rfl)),
      fun S hS => aE rfl (aJ rfl (aD (v := .d (.lit (.bool (true)))) (aA rfl) (aB hS rfl) rfl)),
      fun S hS => aE rfl (aZ rfl rfl (aA rfl) rfl (aA rfl) (aL hS rfl) c29),
      fun S hS => aE rfl (aZ rfl rfl (aA rfl) rfl (aA rfl) (aL hS rfl) c29),
      fun S hS => aE rfl (aZ rfl rfl (aA rfl) rfl (aA rfl) (aL hS rfl) c29),
      fun S hS => aE rfl (aZ rfl rfl (aA rfl) rfl (aA rfl) (aL hS rfl) c29),
      fun S hS => aE rfl (aZ rfl rfl (aA rfl) rfl (aA rfl) (aL hS rfl) c29),
      fun S hS => aE rfl (aZ rfl rfl (aA rfl) rfl (aA rfl) (aL hS rfl) c29),
      fun S hS => aE rfl (aZ rfl rfl (aA rfl) rfl (aA rfl) (aL hS rfl) c29),
      fun S hS => aE rfl (aZ rfl rfl (aA rfl) rfl (aA rfl) (aL hS rfl) c29),
      fun S hS => aE rfl (aZ rfl rfl (aA rfl) rfl (aA rfl) (aL hS rfl) c29),
      fun S hS => aE rfl (aZ rfl rfl (aA rfl) rfl (aA rfl) (aL hS rfl) c29),
      fun S hS => aE rfl (aZ rfl rfl (aA rfl) rfl (aA rfl) (aL hS rfl) c29),
      fun S hS => aE rfl (aJ rfl (cC (v := .d (.lit (.bool true))) (aA rfl) (aB hS rfl) c29 rfl rfl)),
      fun S hS => aE rfl (aJ rfl (aD (v := .d (.lit (.bool (true)))) (aA rfl) (aB hS rfl) rfl)),
      fun S hS => aE rfl (aZ rfl rfl (aA rfl) rfl (aA rfl) (aL hS rfl) c36),
      fun S hS => aE rfl (aZ rfl rfl (aA rfl) rfl (aA rfl) (aL hS rfl) c36),
      fun S hS => aE rfl (aZ rfl rfl (aA rfl) rfl (aA rfl) (aL hS rfl) c36),
      fun S hS => aE rfl (aZ rfl rfl (aA rfl) rfl (aA rfl) (aL hS rfl) c36),
      fun S hS => aE rfl (aZ rfl rfl (aA rfl) rfl (aA rfl) (aL hS rfl) c36),
      fun S hS => aE rfl (aZ rfl rfl (aA rfl) rfl (aA rfl) (aL hS rfl) c36),
      fun S hS => aE rfl (aZ rfl rfl (aA rfl) rfl (aA rfl) (aL hS rfl) c36),
      fun S hS => aE rfl (aZ rfl rfl (aA rfl) rfl (aA rfl) (aL hS rfl) c36),
      fun S hS => aE rfl (aZ rfl rfl (aA rfl) rfl (aA rfl) (aL hS rfl) c36),
      fun S hS => aE rfl (aZ rfl rfl (aA rfl) rfl (aA rfl) (aL hS rfl) c36),
      fun S hS => aE rfl (aZ rfl rfl (aA rfl) rfl (aA rfl) (aL hS rfl) c36),
      fun S hS => aE rfl (aJ rfl (cC (v := .d (.lit (.bool true))) (aA rfl) (aB hS rfl) c36 rfl rfl)), trivial⟩⟩
     · exact dE (aU rfl (bC ⟨rfl, rfl, rfl, trivial⟩))
    ·have h10 := aY c11 h10
     obtain ⟨x12, h13, h10⟩ := bind_some h10
     obtain ⟨x14, h15, h10⟩ := bind_some h10
     obtain ⟨r16, h17, h10⟩ := bind_some h10
     have h10 := Option.some.inj h10
     subst h10
     refine bY (!r16) (fun c20 => ?_) (fun c20 => ?_)
     ·have h19 := aX c20 h19
      have h19 := Option.some.inj h19
      subst h19
      have c29 : true = true := rfl
      have h28 := aX c29 h28
      have h28 := Option.some.inj h28
      subst h28
      have c36 : true = true := rfl
      have h35 := aX c36 h35
      have h35 := Option.some.inj h35
      subst h35
      refine ⟨[(17, 0, .d (.sl 6 (a_0.map aQ))), (18, 1, .d (.lit (.int .i64 i_0_2))), (19, 2, .cp [.lit (.int .i64 x5.Length.Low), .lit (.int .i64 x5.Length.High), .sl 1 (x5.After.map aP), .sl 1 (x5.With.map aP), .lit (.int .i64 x5.Due), .lit (.int .i64 x5.Earliest)]), (20, 3, .cp [.lit (.int .i64 x5.Length.Low), .lit (.int .i64 x5.Length.High)]), (21, 4, .agg (bF x5.Length)), (22, 5, .d (.sl 6 (b_1.map aQ))), (23, 6, .d (.lit (.int .i64 i_0_2))), (24, 7, .cp [.lit (.int .i64 x7.Length.Low), .lit (.int .i64 x7.Length.High), .sl 1 (x7.After.map aP), .sl 1 (x7.With.map aP), .lit (.int .i64 x7.Due), .lit (.int .i64 x7.Earliest)]), (25, 8, .cp [.lit (.int .i64 x7.Length.Low), .lit (.int .i64 x7.Length.High)]), (26, 9, .agg (bF x7.Length)), (27, 10, .d (.lit (.bool ((!decide (x5.Length = x7.Length)))))), (28, 11, .d (.lit (.bool ((!decide (x5.Length = x7.Length)))))), (29, 12, .d (.sl 6 (a_0.map aQ))), (30, 13, .d (.lit (.int .i64 i_0_2))), (31, 14, .cp [.lit (.int .i64 x12.Length.Low), .lit (.int .i64 x12.Length.High), .sl 1 (x12.After.map aP), .sl 1 (x12.With.map aP), .lit (.int .i64 x12.Due), .lit (.int .i64 x12.Earliest)]), (32, 15, .cp [.sl 1 (x12.After.map aP)]), (33, 16, .d (.sl 1 (x12.After.map aP))), (34, 17, .d (.sl 6 (b_1.map aQ))), (35, 18, .d (.lit (.int .i64 i_0_2))), (36, 19, .cp [.lit (.int .i64 x14.Length.Low), .lit (.int .i64 x14.Length.High), .sl 1 (x14.After.map aP), .sl 1 (x14.With.map aP), .lit (.int .i64 x14.Due), .lit (.int .i64 x14.Earliest)]), (37, 20, .cp [.sl 1 (x14.After.map aP)]), (38, 21, .d (.sl 1 (x14.After.map aP))), (39, 22, .d (.lit (.bool r16))), (40, 23, .d (.lit (.bool (!r16)))), (41, 24, .d (.lit (.bool (!r16)))), (42, 25, .d (.lit (.bool (!r16)))), (43, 26, .tup []), (44, 27, .tup []), (45, 28, .tup []), (46, 29, .tup []), (47, 30, .tup []), (48, 31, .tup []), (49, 32, .tup []), (50, 33, .tup []), (51, 34, .tup []), (52, 35, .tup []), (53, 36, .tup []), (54, 37, .tup []), (55, 38, .d (.lit (.bool true))), (56, 39, .d (.lit (.bool (true)))), (57, 40, .tup []), (58, 41, .tup []), (59, 42, .tup []), (60, 43, .tup []), (61, 44, .tup []), (62, 45, .tup []), (63, 46, .tup []), (64, 47, .tup []), (65, 48, .tup []), (66, 49, .tup []), (67, 50, .tup []), (68, 51, .d (.lit (.bool true))), (69, 52, .d (.lit (.bool (true)))), (70, 53, .tup []), (71, 54, .tup []), (72, 55, .tup []), (73, 56, .tup []), (74, 57, .tup []), (75, 58, .tup []), (76, 59, .tup []), (77, 60, .tup []), (78, 61, .tup []), (79, 62, .tup []), (80, 63, .tup []), (81, 64, .d (.lit (.bool true)))], ?_, ?_⟩
      · exact ⟨by kernel_rfl, by kernel_rfl, by kernel_rfl, by kernel_rfl, by kernel_rfl, [([], []), ([], []), ([0, 1], []), ([2], []), ([3], []), ([], []), ([], []), ([5, 6], []), ([7], []), ([8], []), ([4, 9], []), ([10], []), ([11], []), ([11], []), ([11, 12, 13], []), ([11, 14], []), ([11, 15], []), ([11], []), ([11], []), ([11, 17, 18], []), ([11, 19], []), ([11, 20], []), ([11, 16, 21], []), ([11, 22], []), ([11, 23], []), ([24], []), ([25], []), ([25], []), ([25, 26, 27], []), ([25, 28], []), ([25, 29], []), ([25], []), ([25], []), ([25, 31, 32], []), ([25, 33], []), ([25, 34], []), ([25, 30, 35], []), ([25, 36], []), ([25, 37], []), ([38], []), ([39], []), ([39], []), ([39, 40, 41], []), ([39, 42], []), ([39, 43], []), ([39], []), ([39], []), ([39, 45, 46], []), ([39, 47], []), ([39, 48], []), ([39, 44, 49], []), ([39, 50], []), ([51], []), ([52], []), ([52], []), ([52, 53, 54], []), ([52, 55], []), ([52, 56], []), ([52], []), ([52], []), ([52, 58, 59], []), ([52, 60], []), ([52, 61], []), ([52, 57, 62], []), ([52, 63], [])], by kernel_rfl, ⟨fun S hS => aE rfl (aJ rfl (aD (v := .d (.sl 6 (a_0.map aQ))) (aA rfl) (aB hS rfl) rfl)),
      fun S hS => aE rfl (aJ rfl (aD (v := .d (.lit (.int .i64 i_0_2))) (aA rfl) (aB hS rfl) rfl)),
      fun S hS => aE rfl (aJ rfl (bJ (aA rfl) (aB hS rfl) (aB hS rfl) dW.of (bP aQ h6))),
      fun S hS => aE rfl (aJ rfl (cG (aA rfl) (aB hS rfl) jX (es := [.lit (.int .i64 x5.Length.Low), .lit (.int .i64 x5.Length.High)]) rfl)),
      fun S hS => aE rfl (aJ rfl (dB (aA rfl) (aB hS rfl) gW (es := (bF x5.Length)) rfl rfl)),
      fun S hS => aE rfl (aJ rfl (aD (v := .d (.sl 6 (b_1.map aQ))) (aA rfl) (aB hS rfl) rfl)),
      fun S hS => aE rfl (aJ rfl (aD (v := .d (.lit (.int .i64 i_0_2))) (aA rfl) (aB hS rfl) rfl)),
      fun S hS => aE rfl (aJ rfl (bJ (aA rfl) (aB hS rfl) (aB hS rfl) dW.of (bP aQ h8))),
      fun S hS => aE rfl (aJ rfl (cG (aA rfl) (aB hS rfl) jX (es := [.lit (.int .i64 x7.Length.Low), .lit (.int .i64 x7.Length.High)]) rfl)),
      fun S hS => aE rfl (aJ rfl (dB (aA rfl) (aB hS rfl) gW (es := (bF x7.Length)) rfl rfl)),
      fun S hS => aE rfl (aJ rfl (uP (a := x5.Length) (b := x7.Length) (aA rfl) (aB hS rfl) (aB hS rfl) rfl rfl Try.eqGuardType34 xJ)),
      fun S hS => aE rfl (aJ rfl (aD (v := .d (.lit (.bool ((!decide (x5.Length = x7.Length)))))) (aA rfl) (aB hS rfl) rfl)),
      fun S hS => aE rfl (bA rfl rfl (aA rfl) (aL hS rfl) c11 (aD (v := .d (.sl 6 (a_0.map aQ))) (aA rfl) (aB hS rfl) rfl)),
      fun S hS => aE rfl (bA rfl rfl (aA rfl) (aL hS rfl) c11 (aD (v := .d (.lit (.int .i64 i_0_2))) (aA rfl) (aB hS rfl) rfl)),
      fun S hS => aE rfl (bA rfl rfl (aA rfl) (aL hS rfl) c11 (bJ (aA rfl) (aB hS rfl) (aB hS rfl) dW.of (bP aQ h13))),
      fun S hS => aE rfl (bA rfl rfl (aA rfl) (aL hS rfl) c11 (cG (aA rfl) (aB hS rfl) jJ (es := [.sl 1 (x12.After.map aP)]) rfl)),
      fun S hS => aE rfl (bA rfl rfl (aA rfl) (aL hS rfl) c11 (bZ (aA rfl) (aB hS rfl) dF)),
      fun S hS => aE rfl (bA rfl rfl (aA rfl) (aL hS rfl) c11 (aD (v := .d (.sl 6 (b_1.map aQ))) (aA rfl) (aB hS rfl) rfl)),
      fun S hS => aE rfl (bA rfl rfl (aA rfl) (aL hS rfl) c11 (aD (v := .d (.lit (.int .i64 i_0_2))) (aA rfl) (aB hS rfl) rfl)),
      fun S hS => aE rfl (bA rfl rfl (aA rfl) (aL hS rfl) c11 (bJ (aA rfl) (aB hS rfl) (aB hS rfl) dW.of (bP aQ h15))),
      fun S hS => aE rfl (bA rfl rfl (aA rfl) (aL hS rfl) c11 (cG (aA rfl) (aB hS rfl) jJ (es := [.sl 1 (x14.After.map aP)]) rfl)),
      fun S hS => aE rfl (bA rfl rfl (aA rfl) (aL hS rfl) c11 (bZ (aA rfl) (aB hS rfl) dF)),
      fun S hS => aE rfl (bA rfl rfl (aA rfl) (aL hS rfl) c11 (cL (aA rfl) (.func _ _ Try.call66) (ev2 (aB hS rfl) (ev2 (aB hS rfl) evn)) rfl (BVs.refl _ _) (gO _ _ h17) rfl)),
      fun S hS => aE rfl (bA rfl rfl (aA rfl) (aL hS rfl) c11 (dZ (aA rfl) (aB hS rfl))),
      fun S hS => aE rfl (aJ rfl (cB (v := .d (.lit (.bool (!r16)))) (aA rfl) (aB hS rfl) c11 (aB hS rfl) rfl)),
      fun S hS => aE rfl (aJ rfl (aD (v := .d (.lit (.bool (!r16)))) (aA rfl) (aB hS rfl) rfl)),
      fun S hS => aE rfl (aZ rfl rfl (aA rfl) rfl (aA rfl) (aL hS rfl) c20),
      fun S hS => aE rfl (aZ rfl rfl (aA rfl) rfl (aA rfl) (aL hS rfl) c20),
      fun S hS => aE rfl (aZ rfl rfl (aA rfl) rfl (aA rfl) (aL hS rfl) c20),
      fun S hS => aE rfl (aZ rfl rfl (aA rfl) rfl (aA rfl) (aL hS rfl) c20),
      fun S hS => aE rfl (aZ rfl rfl (aA rfl) rfl (aA rfl) (aL hS rfl) c20),
      fun S hS => aE rfl (aZ rfl rfl (aA rfl) rfl (aA rfl) (aL hS rfl) c20),
      fun S hS => aE rfl (aZ rfl rfl (aA rfl) rfl (aA rfl) (aL hS rfl) c20),
      fun S hS => aE rfl (aZ rfl rfl (aA rfl) rfl (aA rfl) (aL hS rfl) c20),
      fun S hS => aE rfl (aZ rfl rfl (aA rfl) rfl (aA rfl) (aL hS rfl) c20),
      fun S hS => aE rfl (aZ rfl rfl (aA rfl) rfl (aA rfl) (aL hS rfl) c20),
      fun S hS => aE rfl (aZ rfl rfl (aA rfl) rfl (aA rfl) (aL hS rfl) c20),
      fun S hS => aE rfl (aZ rfl rfl (aA rfl) rfl (aA rfl) (aL hS rfl) c20),
      fun S hS => aE rfl (aJ rfl (cC (v := .d (.lit (.bool true))) (aA rfl) (aB hS rfl) c20 rfl rfl)),
      fun S hS => aE rfl (aJ rfl (aD (v := .d (.lit (.bool (true)))) (aA rfl) (aB hS rfl) rfl)),
      fun S hS => aE rfl (aZ rfl rfl (aA rfl) rfl (aA rfl) (aL hS rfl) c29),
      fun S hS => aE rfl (aZ rfl rfl (aA rfl) rfl (aA rfl) (aL hS rfl) c29),
      fun S hS => aE rfl (aZ rfl rfl (aA rfl) rfl (aA rfl) (aL hS rfl) c29),
      fun S hS => aE rfl (aZ rfl rfl (aA rfl) rfl (aA rfl) (aL hS rfl) c29),
      fun S hS => aE rfl (aZ rfl rfl (aA rfl) rfl (aA rfl) (aL hS rfl) c29),
      fun S hS => aE rfl (aZ rfl rfl (aA rfl) rfl (aA rfl) (aL hS rfl) c29),
      fun S hS => aE rfl (aZ rfl rfl (aA rfl) rfl (aA rfl) (aL hS rfl) c29),
      fun S hS => aE rfl (aZ rfl rfl (aA rfl) rfl (aA rfl) (aL hS rfl) c29),
      fun S hS => aE rfl (aZ rfl rfl (aA rfl) rfl (aA rfl) (aL hS rfl) c29),
      fun S hS => aE rfl (aZ rfl rfl (aA rfl) rfl (aA rfl) (aL hS rfl) c29),
      fun S hS => aE rfl (aZ rfl rfl (aA rfl) rfl (aA rfl) (aL hS rfl) c29),
      fun S hS => aE rfl (aJ rfl (cC (v := .d (.lit (.bool true))) (aA rfl) (aB hS rfl) c29 rfl rfl)),
      fun S hS => aE rfl (aJ rfl (aD (v := .d (.lit (.bool (true)))) (aA rfl) (aB hS rfl) rfl)),
      fun S hS => aE rfl (aZ rfl rfl (aA rfl) rfl (aA rfl) (aL hS rfl) c36),
      fun S hS => aE rfl (aZ rfl rfl (aA rfl) rfl (aA rfl) (aL hS rfl) c36),
      fun S hS => aE rfl (aZ rfl rfl (aA rfl) rfl (aA rfl) (aL hS rfl) c36),
      fun S hS => aE rfl (aZ rfl rfl (aA rfl) rfl (aA rfl) (aL hS rfl) c36),
      fun S hS => aE rfl (aZ rfl rfl (aA rfl) rfl (aA rfl) (aL hS rfl) c36),
      fun S hS => aE rfl (aZ rfl rfl (aA rfl) rfl (aA rfl) (aL hS rfl) c36),
      fun S hS => aE rfl (aZ rfl rfl (aA rfl) rfl (aA rfl) (aL hS rfl) c36),
      fun S hS => aE rfl (aZ rfl rfl (aA rfl) rfl (aA rfl) (aL hS rfl) c36),
      fun S hS => aE rfl (aZ rfl rfl (aA rfl) rfl (aA rfl) (aL hS rfl) c36),
      fun S hS => aE rfl (aZ rfl rfl (aA rfl) rfl (aA rfl) (aL hS rfl) c36),
      fun S hS => aE rfl (aZ rfl rfl (aA rfl) rfl (aA rfl) (aL hS rfl) c36),
      fun S hS => aE rfl (aJ rfl (cC (v := .d (.lit (.bool true))) (aA rfl) (aB hS rfl) c36 rfl rfl)), trivial⟩⟩
      · exact dE (aU rfl (bC ⟨rfl, rfl, rfl, trivial⟩))
     ·have h19 := aY c20 h19
      obtain ⟨x21, h22, h19⟩ := bind_some h19
      obtain ⟨x23, h24, h19⟩ := bind_some h19
      obtain ⟨r25, h26, h19⟩ := bind_some h19
      have h19 := Option.some.inj h19
      subst h19
      refine bY (!r25) (fun c29 => ?_) (fun c29 => ?_)
      ·have h28 := aX c29 h28
       have h28 := Option.some.inj h28
       subst h28
       have c36 : true = true := rfl
       have h35 := aX c36 h35
       have h35 := Option.some.inj h35
       subst h35
       refine ⟨[(17, 0, .d (.sl 6 (a_0.map aQ))), (18, 1, .d (.lit (.int .i64 i_0_2))), (19, 2, .cp [.lit (.int .i64 x5.Length.Low), .lit (.int .i64 x5.Length.High), .sl 1 (x5.After.map aP), .sl 1 (x5.With.map aP), .lit (.int .i64 x5.Due), .lit (.int .i64 x5.Earliest)]), (20, 3, .cp [.lit (.int .i64 x5.Length.Low), .lit (.int .i64 x5.Length.High)]), (21, 4, .agg (bF x5.Length)), (22, 5, .d (.sl 6 (b_1.map aQ))), (23, 6, .d (.lit (.int .i64 i_0_2))), (24, 7, .cp [.lit (.int .i64 x7.Length.Low), .lit (.int .i64 x7.Length.High), .sl 1 (x7.After.map aP), .sl 1 (x7.With.map aP), .lit (.int .i64 x7.Due), .lit (.int .i64 x7.Earliest)]), (25, 8, .cp [.lit (.int .i64 x7.Length.Low), .lit (.int .i64 x7.Length.High)]), (26, 9, .agg (bF x7.Length)), (27, 10, .d (.lit (.bool ((!decide (x5.Length = x7.Length)))))), (28, 11, .d (.lit (.bool ((!decide (x5.Length = x7.Length)))))), (29, 12, .d (.sl 6 (a_0.map aQ))), (30, 13, .d (.lit (.int .i64 i_0_2))), (31, 14, .cp [.lit (.int .i64 x12.Length.Low), .lit (.int .i64 x12.Length.High), .sl 1 (x12.After.map aP), .sl 1 (x12.With.map aP), .lit (.int .i64 x12.Due), .lit (.int .i64 x12.Earliest)]), (32, 15, .cp [.sl 1 (x12.After.map aP)]), (33, 16, .d (.sl 1 (x12.After.map aP))), (34, 17, .d (.sl 6 (b_1.map aQ))), (35, 18, .d (.lit (.int .i64 i_0_2))), (36, 19, .cp [.lit (.int .i64 x14.Length.Low), .lit (.int .i64 x14.Length.High), .sl 1 (x14.After.map aP), .sl 1 (x14.With.map aP), .lit (.int .i64 x14.Due), .lit (.int .i64 x14.Earliest)]), (37, 20, .cp [.sl 1 (x14.After.map aP)]), (38, 21, .d (.sl 1 (x14.After.map aP))), (39, 22, .d (.lit (.bool r16))), (40, 23, .d (.lit (.bool (!r16)))), (41, 24, .d (.lit (.bool (!r16)))), (42, 25, .d (.lit (.bool (!r16)))), (43, 26, .d (.sl 6 (a_0.map aQ))), (44, 27, .d (.lit (.int .i64 i_0_2))), (45, 28, .cp [.lit (.int .i64 x21.Length.Low), .lit (.int .i64 x21.Length.High), .sl 1 (x21.After.map aP), .sl 1 (x21.With.map aP), .lit (.int .i64 x21.Due), .lit (.int .i64 x21.Earliest)]), (46, 29, .cp [.sl 1 (x21.With.map aP)]), (47, 30, .d (.sl 1 (x21.With.map aP))), (48, 31, .d (.sl 6 (b_1.map aQ))), (49, 32, .d (.lit (.int .i64 i_0_2))), (50, 33, .cp [.lit (.int .i64 x23.Length.Low), .lit (.int .i64 x23.Length.High), .sl 1 (x23.After.map aP), .sl 1 (x23.With.map aP), .lit (.int .i64 x23.Due), .lit (.int .i64 x23.Earliest)]), (51, 34, .cp [.sl 1 (x23.With.map aP)]), (52, 35, .d (.sl 1 (x23.With.map aP))), (53, 36, .d (.lit (.bool r25))), (54, 37, .d (.lit (.bool (!r25)))), (55, 38, .d (.lit (.bool (!r25)))), (56, 39, .d (.lit (.bool (!r25)))), (57, 40, .tup []), (58, 41, .tup []), (59, 42, .tup []), (60, 43, .tup []), (61, 44, .tup []), (62, 45, .tup []), (63, 46, .tup []), (64, 47, .tup []), (65, 48, .tup []), (66, 49, .tup []), (67, 50, .tup []), (68, 51, .d (.lit (.bool true))), (69, 52, .d (.lit (.bool (true)))), (70, 53, .tup []), (71, 54, .tup []), (72, 55, .tup []), (73, 56, .tup []), (74, 57, .tup []), (75, 58, .tup []), (76, 59, .tup []), (77, 60, .tup []), (78, 61, .tup []), (79, 62, .tup []), (80, 63, .tup []), (81, 64, .d (.lit (.bool true)))], ?_, ?_⟩
       · exact ⟨by kernel_rfl, by kernel_rfl, by kernel_rfl, by kernel_rfl, by kernel_rfl, [([], []), ([], []), ([0, 1], []), ([2], []), ([3], []), ([], []), ([], []), ([5, 6], []), ([7], []), ([8], []), ([4, 9], []), ([10], []), ([11], []), ([11], []), ([11, 12, 13], []), ([11, 14], []), ([11, 15], []), ([11], []), ([11], []), ([11, 17, 18], []), ([11, 19], []), ([11, 20], []), ([11, 16, 21], []), ([11, 22], []), ([11, 23], []), ([24], []), ([25], []), ([25], []), ([25, 26, 27], []), ([25, 28], []), ([25, 29], []), ([25], []), ([25], []), ([25, 31, 32], []), ([25, 33], []), ([25, 34], []), ([25, 30, 35], []), ([25, 36], []), ([25, 37], []), ([38], []), ([39], []), ([39], []), ([39, 40, 41], []), ([39, 42], []), ([39, 43], []), ([39], []), ([39], []), ([39, 45, 46], []), ([39, 47], []), ([39, 48], []), ([39, 44, 49], []), ([39, 50], []), ([51], []), ([52], []), ([52], []), ([52, 53, 54], []), ([52, 55], []), ([52, 56], []), ([52], []), ([52], []), ([52, 58, 59], []), ([52, 60], []), ([52, 61], []), ([52, 57, 62], []), ([52, 63], [])], by kernel_rfl, ⟨fun S hS => aE rfl (aJ rfl (aD (v := .d (.sl 6 (a_0.map aQ))) (aA rfl) (aB hS rfl) rfl)),
      fun S hS => aE rfl (aJ rfl (aD (v := .d (.lit (.int .i64 i_0_2))) (aA rfl) (aB hS rfl) rfl)),
      fun S hS => aE rfl (aJ rfl (bJ (aA rfl) (aB hS rfl) (aB hS rfl) dW.of (bP aQ h6))),
      fun S hS => aE rfl (aJ rfl (cG (aA rfl) (aB hS rfl) jX (es := [.lit (.int .i64 x5.Length.Low), .lit (.int .i64 x5.Length.High)]) rfl)),
      fun S hS => aE rfl (aJ rfl (dB (aA rfl) (aB hS rfl) gW (es := (bF x5.Length)) rfl rfl)),
      fun S hS => aE rfl (aJ rfl (aD (v := .d (.sl 6 (b_1.map aQ))) (aA rfl) (aB hS rfl) rfl)),
      fun S hS => aE rfl (aJ rfl (aD (v := .d (.lit (.int .i64 i_0_2))) (aA rfl) (aB hS rfl) rfl)),
      fun S hS => aE rfl (aJ rfl (bJ (aA rfl) (aB hS rfl) (aB hS rfl) dW.of (bP aQ h8))),
      fun S hS => aE rfl (aJ rfl (cG (aA rfl) (aB hS rfl) jX (es := [.lit (.int .i64 x7.Length.Low), .lit (.int .i64 x7.Length.High)]) rfl)),
      fun S hS => aE rfl (aJ rfl (dB (aA rfl) (aB hS rfl) gW (es := (bF x7.Length)) rfl rfl)),
      fun S hS => aE rfl (aJ rfl (uP (a := x5.Length) (b := x7.Length) (aA rfl) (aB hS rfl) (aB hS rfl) rfl rfl Try.eqGuardType34 xJ)),
      fun S hS => aE rfl (aJ rfl (aD (v := .d (.lit (.bool ((!decide (x5.Length = x7.Length)))))) (aA rfl) (aB hS rfl) rfl)),
      fun S hS => aE rfl (bA rfl rfl (aA rfl) (aL hS rfl) c11 (aD (v := .d (.sl 6 (a_0.map aQ))) (aA rfl) (aB hS rfl) rfl)),
      fun S hS => aE rfl (bA rfl rfl (aA rfl) (aL hS rfl) c11 (aD (v := .d (.lit (.int .i64 i_0_2))) (aA rfl) (aB hS rfl) rfl)),
      fun S hS => aE rfl (bA rfl rfl (aA rfl) (aL hS rfl) c11 (bJ (aA rfl) (aB hS rfl) (aB hS rfl) dW.of (bP aQ h13))),
      fun S hS => aE rfl (bA rfl rfl (aA rfl) (aL hS rfl) c11 (cG (aA rfl) (aB hS rfl) jJ (es := [.sl 1 (x12.After.map aP)]) rfl)),
      fun S hS => aE rfl (bA rfl rfl (aA rfl) (aL hS rfl) c11 (bZ (aA rfl) (aB hS rfl) dF)),
      fun S hS => aE rfl (bA rfl rfl (aA rfl) (aL hS rfl) c11 (aD (v := .d (.sl 6 (b_1.map aQ))) (aA rfl) (aB hS rfl) rfl)),
      fun S hS => aE rfl (bA rfl rfl (aA rfl) (aL hS rfl) c11 (aD (v := .d (.lit (.int .i64 i_0_2))) (aA rfl) (aB hS rfl) rfl)),
      fun S hS => aE rfl (bA rfl rfl (aA rfl) (aL hS rfl) c11 (bJ (aA rfl) (aB hS rfl) (aB hS rfl) dW.of (bP aQ h15))),
      fun S hS => aE rfl (bA rfl rfl (aA rfl) (aL hS rfl) c11 (cG (aA rfl) (aB hS rfl) jJ (es := [.sl 1 (x14.After.map aP)]) rfl)),
      fun S hS => aE rfl (bA rfl rfl (aA rfl) (aL hS rfl) c11 (bZ (aA rfl) (aB hS rfl) dF)),
      fun S hS => aE rfl (bA rfl rfl (aA rfl) (aL hS rfl) c11 (cL (aA rfl) (.func _ _ Try.call66) (ev2 (aB hS rfl) (ev2 (aB hS rfl) evn)) rfl (BVs.refl _ _) (gO _ _ h17) rfl)),
      fun S hS => aE rfl (bA rfl rfl (aA rfl) (aL hS rfl) c11 (dZ (aA rfl) (aB hS rfl))),
      fun S hS => aE rfl (aJ rfl (cB (v := .d (.lit (.bool (!r16)))) (aA rfl) (aB hS rfl) c11 (aB hS rfl) rfl)),
      fun S hS => aE rfl (aJ rfl (aD (v := .d (.lit (.bool (!r16)))) (aA rfl) (aB hS rfl) rfl)),
      fun S hS => aE rfl (bA rfl rfl (aA rfl) (aL hS rfl) c20 (aD (v := .d (.sl 6 (a_0.map aQ))) (aA rfl) (aB hS rfl) rfl)),
      fun S hS => aE rfl (bA rfl rfl (aA rfl) (aL hS rfl) c20 (aD (v := .d (.lit (.int .i64 i_0_2))) (aA rfl) (aB hS rfl) rfl)),
      fun S hS => aE rfl (bA rfl rfl (aA rfl) (aL hS rfl) c20 (bJ (aA rfl) (aB hS rfl) (aB hS rfl) dW.of (bP aQ h22))),
      fun S hS => aE rfl (bA rfl rfl (aA rfl) (aL hS rfl) c20 (cG (aA rfl) (aB hS rfl) pA (es := [.sl 1 (x21.With.map aP)]) rfl)),
      fun S hS => aE rfl (bA rfl rfl (aA rfl) (aL hS rfl) c20 (bZ (aA rfl) (aB hS rfl) dF)),
      fun S hS => aE rfl (bA rfl rfl (aA rfl) (aL hS rfl) c20 (aD (v := .d (.sl 6 (b_1.map aQ))) (aA rfl) (aB hS rfl) rfl)),
      fun S hS => aE rfl (bA rfl rfl (aA rfl) (aL hS rfl) c20 (aD (v := .d (.lit (.int .i64 i_0_2))) (aA rfl) (aB hS rfl) rfl)),
      fun S hS => aE rfl (bA rfl rfl (aA rfl) (aL hS rfl) c20 (bJ (aA rfl) (aB hS rfl) (aB hS rfl) dW.of (bP aQ h24))),
      fun S hS => aE rfl (bA rfl rfl (aA rfl) (aL hS rfl) c20 (cG (aA rfl) (aB hS rfl) pA (es := [.sl 1 (x23.With.map aP)]) rfl)),
      fun S hS => aE rfl (bA rfl rfl (aA rfl) (aL hS rfl) c20 (bZ (aA rfl) (aB hS rfl) dF)),
      fun S hS => aE rfl (bA rfl rfl (aA rfl) (aL hS rfl) c20 (cL (aA rfl) (.func _ _ Try.call66) (ev2 (aB hS rfl) (ev2 (aB hS rfl) evn)) rfl (BVs.refl _ _) (gO _ _ h26) rfl)),
      fun S hS => aE rfl (bA rfl rfl (aA rfl) (aL hS rfl) c20 (dZ (aA rfl) (aB hS rfl))),
      fun S hS => aE rfl (aJ rfl (cB (v := .d (.lit (.bool (!r25)))) (aA rfl) (aB hS rfl) c20 (aB hS rfl) rfl)),
      fun S hS => aE rfl (aJ rfl (aD (v := .d (.lit (.bool (!r25)))) (aA rfl) (aB hS rfl) rfl)),
      fun S hS => aE rfl (aZ rfl rfl (aA rfl) rfl (aA rfl) (aL hS rfl) c29),
      fun S hS => aE rfl (aZ rfl rfl (aA rfl) rfl (aA rfl) (aL hS rfl) c29),
      fun S hS => aE rfl (aZ rfl rfl (aA rfl) rfl (aA rfl) (aL hS rfl) c29),
      fun S hS => aE rfl (aZ rfl rfl (aA rfl) rfl (aA rfl) (aL hS rfl) c29),
      fun S hS => aE rfl (aZ rfl rfl (aA rfl) rfl (aA rfl) (aL hS rfl) c29),
      fun S hS => aE rfl (aZ rfl rfl (aA rfl) rfl (aA rfl) (aL hS rfl) c29),
      fun S hS => aE rfl (aZ rfl rfl (aA rfl) rfl (aA rfl) (aL hS rfl) c29),
      fun S hS => aE rfl (aZ rfl rfl (aA rfl) rfl (aA rfl) (aL hS rfl) c29),
      fun S hS => aE rfl (aZ rfl rfl (aA rfl) rfl (aA rfl) (aL hS rfl) c29),
      fun S hS => aE rfl (aZ rfl rfl (aA rfl) rfl (aA rfl) (aL hS rfl) c29),
      fun S hS => aE rfl (aZ rfl rfl (aA rfl) rfl (aA rfl) (aL hS rfl) c29),
      fun S hS => aE rfl (aJ rfl (cC (v := .d (.lit (.bool true))) (aA rfl) (aB hS rfl) c29 rfl rfl)),
      fun S hS => aE rfl (aJ rfl (aD (v := .d (.lit (.bool (true)))) (aA rfl) (aB hS rfl) rfl)),
      fun S hS => aE rfl (aZ rfl rfl (aA rfl) rfl (aA rfl) (aL hS rfl) c36),
      fun S hS => aE rfl (aZ rfl rfl (aA rfl) rfl (aA rfl) (aL hS rfl) c36),
      fun S hS => aE rfl (aZ rfl rfl (aA rfl) rfl (aA rfl) (aL hS rfl) c36),
      fun S hS => aE rfl (aZ rfl rfl (aA rfl) rfl (aA rfl) (aL hS rfl) c36),
      fun S hS => aE rfl (aZ rfl rfl (aA rfl) rfl (aA rfl) (aL hS rfl) c36),
      fun S hS => aE rfl (aZ rfl rfl (aA rfl) rfl (aA rfl) (aL hS rfl) c36),
      fun S hS => aE rfl (aZ rfl rfl (aA rfl) rfl (aA rfl) (aL hS rfl) c36),
      fun S hS => aE rfl (aZ rfl rfl (aA rfl) rfl (aA rfl) (aL hS rfl) c36),
      fun S hS => aE rfl (aZ rfl rfl (aA rfl) rfl (aA rfl) (aL hS rfl) c36),
      fun S hS => aE rfl (aZ rfl rfl (aA rfl) rfl (aA rfl) (aL hS rfl) c36),
      fun S hS => aE rfl (aZ rfl rfl (aA rfl) rfl (aA rfl) (aL hS rfl) c36),
      fun S hS => aE rfl (aJ rfl (cC (v := .d (.lit (.bool true))) (aA rfl) (aB hS rfl) c36 rfl rfl)), trivial⟩⟩
       · exact dE (aU rfl (bC ⟨rfl, rfl, rfl, trivial⟩))
      ·have h28 := aY c29 h28
       obtain ⟨x30, h31, h28⟩ := bind_some h28
       obtain ⟨x32, h33, h28⟩ := bind_some h28
       have h28 := Option.some.inj h28
       subst h28
       refine bY (!decide (x30.Due = x32.Due)) (fun c36 => ?_) (fun c36 => ?_)
       ·have h35 := aX c36 h35
        have h35 := Option.some.inj h35
        subst h35
        refine ⟨[(17, 0, .d (.sl 6 (a_0.map aQ))), (18, 1, .d (.lit (.int .i64 i_0_2))), (19, 2, .cp [.lit (.int .i64 x5.Length.Low), .lit (.int .i64 x5.Length.High), .sl 1 (x5.After.map aP), .sl 1 (x5.With.map aP), .lit (.int .i64 x5.Due), .lit (.int .i64 x5.Earliest)]), (20, 3, .cp [.lit (.int .i64 x5.Length.Low), .lit (.int .i64 x5.Length.High)]), (21, 4, .agg (bF x5.Length)), (22, 5, .d (.sl 6 (b_1.map aQ))), (23, 6, .d (.lit (.int .i64 i_0_2))), (24, 7, .cp [.lit (.int .i64 x7.Length.Low), .lit (.int .i64 x7.Length.High), .sl 1 (x7.After.map aP), .sl 1 (x7.With.map aP), .lit (.int .i64 x7.Due), .lit (.int .i64 x7.Earliest)]), (25, 8, .cp [.lit (.int .i64 x7.Length.Low), .lit (.int .i64 x7.Length.High)]), (26, 9, .agg (bF x7.Length)), (27, 10, .d (.lit (.bool ((!decide (x5.Length = x7.Length)))))), (28, 11, .d (.lit (.bool ((!decide (x5.Length = x7.Length)))))), (29, 12, .d (.sl 6 (a_0.map aQ))), (30, 13, .d (.lit (.int .i64 i_0_2))), (31, 14, .cp [.lit (.int .i64 x12.Length.Low), .lit (.int .i64 x12.Length.High), .sl 1 (x12.After.map aP), .sl 1 (x12.With.map aP), .lit (.int .i64 x12.Due), .lit (.int .i64 x12.Earliest)]), (32, 15, .cp [.sl 1 (x12.After.map aP)]), (33, 16, .d (.sl 1 (x12.After.map aP))), (34, 17, .d (.sl 6 (b_1.map aQ))), (35, 18, .d (.lit (.int .i64 i_0_2))), (36, 19, .cp [.lit (.int .i64 x14.Length.Low), .lit (.int .i64 x14.Length.High), .sl 1 (x14.After.map aP), .sl 1 (x14.With.map aP), .lit (.int .i64 x14.Due), .lit (.int .i64 x14.Earliest)]), (37, 20, .cp [.sl 1 (x14.After.map aP)]), (38, 21, .d (.sl 1 (x14.After.map aP))), (39, 22, .d (.lit (.bool r16))), (40, 23, .d (.lit (.bool (!r16)))), (41, 24, .d (.lit (.bool (!r16)))), (42, 25, .d (.lit (.bool (!r16)))), (43, 26, .d (.sl 6 (a_0.map aQ))), (44, 27, .d (.lit (.int .i64 i_0_2))), (45, 28, .cp [.lit (.int .i64 x21.Length.Low), .lit (.int .i64 x21.Length.High), .sl 1 (x21.After.map aP), .sl 1 (x21.With.map aP), .lit (.int .i64 x21.Due), .lit (.int .i64 x21.Earliest)]), (46, 29, .cp [.sl 1 (x21.With.map aP)]), (47, 30, .d (.sl 1 (x21.With.map aP))), (48, 31, .d (.sl 6 (b_1.map aQ))), (49, 32, .d (.lit (.int .i64 i_0_2))), (50, 33, .cp [.lit (.int .i64 x23.Length.Low), .lit (.int .i64 x23.Length.High), .sl 1 (x23.After.map aP), .sl 1 (x23.With.map aP), .lit (.int .i64 x23.Due), .lit (.int .i64 x23.Earliest)]), (51, 34, .cp [.sl 1 (x23.With.map aP)]), (52, 35, .d (.sl 1 (x23.With.map aP))), (53, 36, .d (.lit (.bool r25))), (54, 37, .d (.lit (.bool (!r25)))), (55, 38, .d (.lit (.bool (!r25)))), (56, 39, .d (.lit (.bool (!r25)))), (57, 40, .d (.sl 6 (a_0.map aQ))), (58, 41, .d (.lit (.int .i64 i_0_2))), (59, 42, .cp [.lit (.int .i64 x30.Length.Low), .lit (.int .i64 x30.Length.High), .sl 1 (x30.After.map aP), .sl 1 (x30.With.map aP), .lit (.int .i64 x30.Due), .lit (.int .i64 x30.Earliest)]), (60, 43, .cp [.lit (.int .i64 x30.Due)]), (61, 44, .d (.lit (.int .i64 x30.Due))), (62, 45, .d (.sl 6 (b_1.map aQ))), (63, 46, .d (.lit (.int .i64 i_0_2))), (64, 47, .cp [.lit (.int .i64 x32.Length.Low), .lit (.int .i64 x32.Length.High), .sl 1 (x32.After.map aP), .sl 1 (x32.With.map aP), .lit (.int .i64 x32.Due), .lit (.int .i64 x32.Earliest)]), (65, 48, .cp [.lit (.int .i64 x32.Due)]), (66, 49, .d (.lit (.int .i64 x32.Due))), (67, 50, .d (.lit (.bool ((!decide (x30.Due = x32.Due)))))), (68, 51, .d (.lit (.bool ((!decide (x30.Due = x32.Due)))))), (69, 52, .d (.lit (.bool (!decide (x30.Due = x32.Due))))), (70, 53, .tup []), (71, 54, .tup []), (72, 55, .tup []), (73, 56, .tup []), (74, 57, .tup []), (75, 58, .tup []), (76, 59, .tup []), (77, 60, .tup []), (78, 61, .tup []), (79, 62, .tup []), (80, 63, .tup []), (81, 64, .d (.lit (.bool true)))], ?_, ?_⟩
        · exact ⟨by kernel_rfl, by kernel_rfl, by kernel_rfl, by kernel_rfl, by kernel_rfl, [([], []), ([], []), ([0, 1], []), ([2], []), ([3], []), ([], []), ([], []), ([5, 6], []), ([7], []), ([8], []), ([4, 9], []), ([10], []), ([11], []), ([11], []), ([11, 12, 13], []), ([11, 14], []), ([11, 15], []), ([11], []), ([11], []), ([11, 17, 18], []), ([11, 19], []), ([11, 20], []), ([11, 16, 21], []), ([11, 22], []), ([11, 23], []), ([24], []), ([25], []), ([25], []), ([25, 26, 27], []), ([25, 28], []), ([25, 29], []), ([25], []), ([25], []), ([25, 31, 32], []), ([25, 33], []), ([25, 34], []), ([25, 30, 35], []), ([25, 36], []), ([25, 37], []), ([38], []), ([39], []), ([39], []), ([39, 40, 41], []), ([39, 42], []), ([39, 43], []), ([39], []), ([39], []), ([39, 45, 46], []), ([39, 47], []), ([39, 48], []), ([39, 44, 49], []), ([39, 50], []), ([51], []), ([52], []), ([52], []), ([52, 53, 54], []), ([52, 55], []), ([52, 56], []), ([52], []), ([52], []), ([52, 58, 59], []), ([52, 60], []), ([52, 61], []), ([52, 57, 62], []), ([52, 63], [])], by kernel_rfl, ⟨fun S hS => aE rfl (aJ rfl (aD (v := .d (.sl 6 (a_0.map aQ))) (aA rfl) (aB hS rfl) rfl)),
      fun S hS => aE rfl (aJ rfl (aD (v := .d (.lit (.int .i64 i_0_2))) (aA rfl) (aB hS rfl) rfl)),
      fun S hS => aE rfl (aJ rfl (bJ (aA rfl) (aB hS rfl) (aB hS rfl) dW.of (bP aQ h6))),
      fun S hS => aE rfl (aJ rfl (cG (aA rfl) (aB hS rfl) jX (es := [.lit (.int .i64 x5.Length.Low), .lit (.int .i64 x5.Length.High)]) rfl)),
      fun S hS => aE rfl (aJ rfl (dB (aA rfl) (aB hS rfl) gW (es := (bF x5.Length)) rfl rfl)),
      fun S hS => aE rfl (aJ rfl (aD (v := .d (.sl 6 (b_1.map aQ))) (aA rfl) (aB hS rfl) rfl)),
      fun S hS => aE rfl (aJ rfl (aD (v := .d (.lit (.int .i64 i_0_2))) (aA rfl) (aB hS rfl) rfl)),
      fun S hS => aE rfl (aJ rfl (bJ (aA rfl) (aB hS rfl) (aB hS rfl) dW.of (bP aQ h8))),
      fun S hS => aE rfl (aJ rfl (cG (aA rfl) (aB hS rfl) jX (es := [.lit (.int .i64 x7.Length.Low), .lit (.int .i64 x7.Length.High)]) rfl)),
      fun S hS => aE rfl (aJ rfl (dB (aA rfl) (aB hS rfl) gW (es := (bF x7.Length)) rfl rfl)),
      fun S hS => aE rfl (aJ rfl (uP (a := x5.Length) (b := x7.Length) (aA rfl) (aB hS rfl) (aB hS rfl) rfl rfl Try.eqGuardType34 xJ)),
      fun S hS => aE rfl (aJ rfl (aD (v := .d (.lit (.bool ((!decide (x5.Length = x7.Length)))))) (aA rfl) (aB hS rfl) rfl)),
      fun S hS => aE rfl (bA rfl rfl (aA rfl) (aL hS rfl) c11 (aD (v := .d (.sl 6 (a_0.map aQ))) (aA rfl) (aB hS rfl) rfl)),
      fun S hS => aE rfl (bA rfl rfl (aA rfl) (aL hS rfl) c11 (aD (v := .d (.lit (.int .i64 i_0_2))) (aA rfl) (aB hS rfl) rfl)),
      fun S hS => aE rfl (bA rfl rfl (aA rfl) (aL hS rfl) c11 (bJ (aA rfl) (aB hS rfl) (aB hS rfl) dW.of (bP aQ h13))),
      fun S hS => aE rfl (bA rfl rfl (aA rfl) (aL hS rfl) c11 (cG (aA rfl) (aB hS rfl) jJ (es := [.sl 1 (x12.After.map aP)]) rfl)),
      fun S hS => aE rfl (bA rfl rfl (aA rfl) (aL hS rfl) c11 (bZ (aA rfl) (aB hS rfl) dF)),
      fun S hS => aE rfl (bA rfl rfl (aA rfl) (aL hS rfl) c11 (aD (v := .d (.sl 6 (b_1.map aQ))) (aA rfl) (aB hS rfl) rfl)),
      fun S hS => aE rfl (bA rfl rfl (aA rfl) (aL hS rfl) c11 (aD (v := .d (.lit (.int .i64 i_0_2))) (aA rfl) (aB hS rfl) rfl)),
      fun S hS => aE rfl (bA rfl rfl (aA rfl) (aL hS rfl) c11 (bJ (aA rfl) (aB hS rfl) (aB hS rfl) dW.of (bP aQ h15))),
      fun S hS => aE rfl (bA rfl rfl (aA rfl) (aL hS rfl) c11 (cG (aA rfl) (aB hS rfl) jJ (es := [.sl 1 (x14.After.map aP)]) rfl)),
      fun S hS => aE rfl (bA rfl rfl (aA rfl) (aL hS rfl) c11 (bZ (aA rfl) (aB hS rfl) dF)),
      fun S hS => aE rfl (bA rfl rfl (aA rfl) (aL hS rfl) c11 (cL (aA rfl) (.func _ _ Try.call66) (ev2 (aB hS rfl) (ev2 (aB hS rfl) evn)) rfl (BVs.refl _ _) (gO _ _ h17) rfl)),
      fun S hS => aE rfl (bA rfl rfl (aA rfl) (aL hS rfl) c11 (dZ (aA rfl) (aB hS rfl))),
      fun S hS => aE rfl (aJ rfl (cB (v := .d (.lit (.bool (!r16)))) (aA rfl) (aB hS rfl) c11 (aB hS rfl) rfl)),
      fun S hS => aE rfl (aJ rfl (aD (v := .d (.lit (.bool (!r16)))) (aA rfl) (aB hS rfl) rfl)),
      fun S hS => aE rfl (bA rfl rfl (aA rfl) (aL hS rfl) c20 (aD (v := .d (.sl 6 (a_0.map aQ))) (aA rfl) (aB hS rfl) rfl)),
      fun S hS => aE rfl (bA rfl rfl (aA rfl) (aL hS rfl) c20 (aD (v := .d (.lit (.int .i64 i_0_2))) (aA rfl) (aB hS rfl) rfl)),
      fun S hS => aE rfl (bA rfl rfl (aA rfl) (aL hS rfl) c20 (bJ (aA rfl) (aB hS rfl) (aB hS rfl) dW.of (bP aQ h22))),
      fun S hS => aE rfl (bA rfl rfl (aA rfl) (aL hS rfl) c20 (cG (aA rfl) (aB hS rfl) pA (es := [.sl 1 (x21.With.map aP)]) rfl)),
      fun S hS => aE rfl (bA rfl rfl (aA rfl) (aL hS rfl) c20 (bZ (aA rfl) (aB hS rfl) dF)),
      fun S hS => aE rfl (bA rfl rfl (aA rfl) (aL hS rfl) c20 (aD (v := .d (.sl 6 (b_1.map aQ))) (aA rfl) (aB hS rfl) rfl)),
      fun S hS => aE rfl (bA rfl rfl (aA rfl) (aL hS rfl) c20 (aD (v := .d (.lit (.int .i64 i_0_2))) (aA rfl) (aB hS rfl) rfl)),
      fun S hS => aE rfl (bA rfl rfl (aA rfl) (aL hS rfl) c20 (bJ (aA rfl) (aB hS rfl) (aB hS rfl) dW.of (bP aQ h24))),
      fun S hS => aE rfl (bA rfl rfl (aA rfl) (aL hS rfl) c20 (cG (aA rfl) (aB hS rfl) pA (es := [.sl 1 (x23.With.map aP)]) rfl)),
      fun S hS => aE rfl (bA rfl rfl (aA rfl) (aL hS rfl) c20 (bZ (aA rfl) (aB hS rfl) dF)),
      fun S hS => aE rfl (bA rfl rfl (aA rfl) (aL hS rfl) c20 (cL (aA rfl) (.func _ _ Try.call66) (ev2 (aB hS rfl) (ev2 (aB hS rfl) evn)) rfl (BVs.refl _ _) (gO _ _ h26) rfl)),
      fun S hS => aE rfl (bA rfl rfl (aA rfl) (aL hS rfl) c20 (dZ (aA rfl) (aB hS rfl))),
      fun S hS => aE rfl (aJ rfl (cB (v := .d (.lit (.bool (!r25)))) (aA rfl) (aB hS rfl) c20 (aB hS rfl) rfl)),
      fun S hS => aE rfl (aJ rfl (aD (v := .d (.lit (.bool (!r25)))) (aA rfl) (aB hS rfl) rfl)),
      fun S hS => aE rfl (bA rfl rfl (aA rfl) (aL hS rfl) c29 (aD (v := .d (.sl 6 (a_0.map aQ))) (aA rfl) (aB hS rfl) rfl)),
      fun S hS => aE rfl (bA rfl rfl (aA rfl) (aL hS rfl) c29 (aD (v := .d (.lit (.int .i64 i_0_2))) (aA rfl) (aB hS rfl) rfl)),
      fun S hS => aE rfl (bA rfl rfl (aA rfl) (aL hS rfl) c29 (bJ (aA rfl) (aB hS rfl) (aB hS rfl) dW.of (bP aQ h31))),
      fun S hS => aE rfl (bA rfl rfl (aA rfl) (aL hS rfl) c29 (cG (aA rfl) (aB hS rfl) nX (es := [.lit (.int .i64 x30.Due)]) rfl)),
      fun S hS => aE rfl (bA rfl rfl (aA rfl) (aL hS rfl) c29 (bZ (aA rfl) (aB hS rfl) bL)),
      fun S hS => aE rfl (bA rfl rfl (aA rfl) (aL hS rfl) c29 (aD (v := .d (.sl 6 (b_1.map aQ))) (aA rfl) (aB hS rfl) rfl)),
      fun S hS => aE rfl (bA rfl rfl (aA rfl) (aL hS rfl) c29 (aD (v := .d (.lit (.int .i64 i_0_2))) (aA rfl) (aB hS rfl) rfl)),
      fun S hS => aE rfl (bA rfl rfl (aA rfl) (aL hS rfl) c29 (bJ (aA rfl) (aB hS rfl) (aB hS rfl) dW.of (bP aQ h33))),
      fun S hS => aE rfl (bA rfl rfl (aA rfl) (aL hS rfl) c29 (cG (aA rfl) (aB hS rfl) nX (es := [.lit (.int .i64 x32.Due)]) rfl)),
      fun S hS => aE rfl (bA rfl rfl (aA rfl) (aL hS rfl) c29 (bZ (aA rfl) (aB hS rfl) bL)),
      fun S hS => aE rfl (bA rfl rfl (aA rfl) (aL hS rfl) c29 (bR (aA rfl) (aB hS rfl) (aB hS rfl) rfl)),
      fun S hS => aE rfl (aJ rfl (cB (v := .d (.lit (.bool ((!decide (x30.Due = x32.Due)))))) (aA rfl) (aB hS rfl) c29 (aB hS rfl) rfl)),
      fun S hS => aE rfl (aJ rfl (aD (v := .d (.lit (.bool (!decide (x30.Due = x32.Due))))) (aA rfl) (aB hS rfl) rfl)),
      fun S hS => aE rfl (aZ rfl rfl (aA rfl) rfl (aA rfl) (aL hS rfl) c36),
      fun S hS => aE rfl (aZ rfl rfl (aA rfl) rfl (aA rfl) (aL hS rfl) c36),
      fun S hS => aE rfl (aZ rfl rfl (aA rfl) rfl (aA rfl) (aL hS rfl) c36),
      fun S hS => aE rfl (aZ rfl rfl (aA rfl) rfl (aA rfl) (aL hS rfl) c36),
      fun S hS => aE rfl (aZ rfl rfl (aA rfl) rfl (aA rfl) (aL hS rfl) c36),
      fun S hS => aE rfl (aZ rfl rfl (aA rfl) rfl (aA rfl) (aL hS rfl) c36),
      fun S hS => aE rfl (aZ rfl rfl (aA rfl) rfl (aA rfl) (aL hS rfl) c36),
      fun S hS => aE rfl (aZ rfl rfl (aA rfl) rfl (aA rfl) (aL hS rfl) c36),
      fun S hS => aE rfl (aZ rfl rfl (aA rfl) rfl (aA rfl) (aL hS rfl) c36),
      fun S hS => aE rfl (aZ rfl rfl (aA rfl) rfl (aA rfl) (aL hS rfl) c36),
      fun S hS => aE rfl (aZ rfl rfl (aA rfl) rfl (aA rfl) (aL hS rfl) c36),
      fun S hS => aE rfl (aJ rfl (cC (v := .d (.lit (.bool true))) (aA rfl) (aB hS rfl) c36 rfl rfl)), trivial⟩⟩
        · exact dE (aU rfl (bC ⟨rfl, rfl, rfl, trivial⟩))
       ·have h35 := aY c36 h35
        obtain ⟨x37, h38, h35⟩ := bind_some h35
        obtain ⟨x39, h40, h35⟩ := bind_some h35
        have h35 := Option.some.inj h35
        subst h35
        refine ⟨[(17, 0, .d (.sl 6 (a_0.map aQ))), (18, 1, .d (.lit (.int .i64 i_0_2))), (19, 2, .cp [.lit (.int .i64 x5.Length.Low), .lit (.int .i64 x5.Length.High), .sl 1 (x5.After.map aP), .sl 1 (x5.With.map aP), .lit (.int .i64 x5.Due), .lit (.int .i64 x5.Earliest)]), (20, 3, .cp [.lit (.int .i64 x5.Length.Low), .lit (.int .i64 x5.Length.High)]), (21, 4, .agg (bF x5.Length)), (22, 5, .d (.sl 6 (b_1.map aQ))), (23, 6, .d (.lit (.int .i64 i_0_2))), (24, 7, .cp [.lit (.int .i64 x7.Length.Low), .lit (.int .i64 x7.Length.High), .sl 1 (x7.After.map aP), .sl 1 (x7.With.map aP), .lit (.int .i64 x7.Due), .lit (.int .i64 x7.Earliest)]), (25, 8, .cp [.lit (.int .i64 x7.Length.Low), .lit (.int .i64 x7.Length.High)]), (26, 9, .agg (bF x7.Length)), (27, 10, .d (.lit (.bool ((!decide (x5.Length = x7.Length)))))), (28, 11, .d (.lit (.bool ((!decide (x5.Length = x7.Length)))))), (29, 12, .d (.sl 6 (a_0.map aQ))), (30, 13, .d (.lit (.int .i64 i_0_2))), (31, 14, .cp [.lit (.int .i64 x12.Length.Low), .lit (.int .i64 x12.Length.High), .sl 1 (x12.After.map aP), .sl 1 (x12.With.map aP), .lit (.int .i64 x12.Due), .lit (.int .i64 x12.Earliest)]), (32, 15, .cp [.sl 1 (x12.After.map aP)]), (33, 16, .d (.sl 1 (x12.After.map aP))), (34, 17, .d (.sl 6 (b_1.map aQ))), (35, 18, .d (.lit (.int .i64 i_0_2))), (36, 19, .cp [.lit (.int .i64 x14.Length.Low), .lit (.int .i64 x14.Length.High), .sl 1 (x14.After.map aP), .sl 1 (x14.With.map aP), .lit (.int .i64 x14.Due), .lit (.int .i64 x14.Earliest)]), (37, 20, .cp [.sl 1 (x14.After.map aP)]), (38, 21, .d (.sl 1 (x14.After.map aP))), (39, 22, .d (.lit (.bool r16))), (40, 23, .d (.lit (.bool (!r16)))), (41, 24, .d (.lit (.bool (!r16)))), (42, 25, .d (.lit (.bool (!r16)))), (43, 26, .d (.sl 6 (a_0.map aQ))), (44, 27, .d (.lit (.int .i64 i_0_2))), (45, 28, .cp [.lit (.int .i64 x21.Length.Low), .lit (.int .i64 x21.Length.High), .sl 1 (x21.After.map aP), .sl 1 (x21.With.map aP), .lit (.int .i64 x21.Due), .lit (.int .i64 x21.Earliest)]), (46, 29, .cp [.sl 1 (x21.With.map aP)]), (47, 30, .d (.sl 1 (x21.With.map aP))), (48, 31, .d (.sl 6 (b_1.map aQ))), (49, 32, .d (.lit (.int .i64 i_0_2))), (50, 33, .cp [.lit (.int .i64 x23.Length.Low), .lit (.int .i64 x23.Length.High), .sl 1 (x23.After.map aP), .sl 1 (x23.With.map aP), .lit (.int .i64 x23.Due), .lit (.int .i64 x23.Earliest)]), (51, 34, .cp [.sl 1 (x23.With.map aP)]), (52, 35, .d (.sl 1 (x23.With.map aP))), (53, 36, .d (.lit (.bool r25))), (54, 37, .d (.lit (.bool (!r25)))), (55, 38, .d (.lit (.bool (!r25)))), (56, 39, .d (.lit (.bool (!r25)))), (57, 40, .d (.sl 6 (a_0.map aQ))), (58, 41, .d (.lit (.int .i64 i_0_2))), (59, 42, .cp [.lit (.int .i64 x30.Length.Low), .lit (.int .i64 x30.Length.High), .sl 1 (x30.After.map aP), .sl 1 (x30.With.map aP), .lit (.int .i64 x30.Due), .lit (.int .i64 x30.Earliest)]), (60, 43, .cp [.lit (.int .i64 x30.Due)]), (61, 44, .d (.lit (.int .i64 x30.Due))), (62, 45, .d (.sl 6 (b_1.map aQ))), (63, 46, .d (.lit (.int .i64 i_0_2))), (64, 47, .cp [.lit (.int .i64 x32.Length.Low), .lit (.int .i64 x32.Length.High), .sl 1 (x32.After.map aP), .sl 1 (x32.With.map aP), .lit (.int .i64 x32.Due), .lit (.int .i64 x32.Earliest)]), (65, 48, .cp [.lit (.int .i64 x32.Due)]), (66, 49, .d (.lit (.int .i64 x32.Due))), (67, 50, .d (.lit (.bool ((!decide (x30.Due = x32.Due)))))), (68, 51, .d (.lit (.bool ((!decide (x30.Due = x32.Due)))))), (69, 52, .d (.lit (.bool (!decide (x30.Due = x32.Due))))), (70, 53, .d (.sl 6 (a_0.map aQ))), (71, 54, .d (.lit (.int .i64 i_0_2))), (72, 55, .cp [.lit (.int .i64 x37.Length.Low), .lit (.int .i64 x37.Length.High), .sl 1 (x37.After.map aP), .sl 1 (x37.With.map aP), .lit (.int .i64 x37.Due), .lit (.int .i64 x37.Earliest)]), (73, 56, .cp [.lit (.int .i64 x37.Earliest)]), (74, 57, .d (.lit (.int .i64 x37.Earliest))), (75, 58, .d (.sl 6 (b_1.map aQ))), (76, 59, .d (.lit (.int .i64 i_0_2))), (77, 60, .cp [.lit (.int .i64 x39.Length.Low), .lit (.int .i64 x39.Length.High), .sl 1 (x39.After.map aP), .sl 1 (x39.With.map aP), .lit (.int .i64 x39.Due), .lit (.int .i64 x39.Earliest)]), (78, 61, .cp [.lit (.int .i64 x39.Earliest)]), (79, 62, .d (.lit (.int .i64 x39.Earliest))), (80, 63, .d (.lit (.bool ((!decide (x37.Earliest = x39.Earliest)))))), (81, 64, .d (.lit (.bool ((!decide (x37.Earliest = x39.Earliest))))))], ?_, ?_⟩
        · exact ⟨by kernel_rfl, by kernel_rfl, by kernel_rfl, by kernel_rfl, by kernel_rfl, [([], []), ([], []), ([0, 1], []), ([2], []), ([3], []), ([], []), ([], []), ([5, 6], []), ([7], []), ([8], []), ([4, 9], []), ([10], []), ([11], []), ([11], []), ([11, 12, 13], []), ([11, 14], []), ([11, 15], []), ([11], []), ([11], []), ([11, 17, 18], []), ([11, 19], []), ([11, 20], []), ([11, 16, 21], []), ([11, 22], []), ([11, 23], []), ([24], []), ([25], []), ([25], []), ([25, 26, 27], []), ([25, 28], []), ([25, 29], []), ([25], []), ([25], []), ([25, 31, 32], []), ([25, 33], []), ([25, 34], []), ([25, 30, 35], []), ([25, 36], []), ([25, 37], []), ([38], []), ([39], []), ([39], []), ([39, 40, 41], []), ([39, 42], []), ([39, 43], []), ([39], []), ([39], []), ([39, 45, 46], []), ([39, 47], []), ([39, 48], []), ([39, 44, 49], []), ([39, 50], []), ([51], []), ([52], []), ([52], []), ([52, 53, 54], []), ([52, 55], []), ([52, 56], []), ([52], []), ([52], []), ([52, 58, 59], []), ([52, 60], []), ([52, 61], []), ([52, 57, 62], []), ([52, 63], [])], by kernel_rfl, ⟨fun S hS => aE rfl (aJ rfl (aD (v := .d (.sl 6 (a_0.map aQ))) (aA rfl) (aB hS rfl) rfl)),
      fun S hS => aE rfl (aJ rfl (aD (v := .d (.lit (.int .i64 i_0_2))) (aA rfl) (aB hS rfl) rfl)),
      fun S hS => aE rfl (aJ rfl (bJ (aA rfl) (aB hS rfl) (aB hS rfl) dW.of (bP aQ h6))),
      fun S hS => aE rfl (aJ rfl (cG (aA rfl) (aB hS rfl) jX (es := [.lit (.int .i64 x5.Length.Low), .lit (.int .i64 x5.Length.High)]) rfl)),
      fun S hS => aE rfl (aJ rfl (dB (aA rfl) (aB hS rfl) gW (es := (bF x5.Length)) rfl rfl)),
      fun S hS => aE rfl (aJ rfl (aD (v := .d (.sl 6 (b_1.map aQ))) (aA rfl) (aB hS rfl) rfl)),
      fun S hS => aE rfl (aJ rfl (aD (v := .d (.lit (.int .i64 i_0_2))) (aA rfl) (aB hS rfl) rfl)),
      fun S hS => aE rfl (aJ rfl (bJ (aA rfl) (aB hS rfl) (aB hS rfl) dW.of (bP aQ h8))),
      fun S hS => aE rfl (aJ rfl (cG (aA rfl) (aB hS rfl) jX (es := [.lit (.int .i64 x7.Length.Low), .lit (.int .i64 x7.Length.High)]) rfl)),
      fun S hS => aE rfl (aJ rfl (dB (aA rfl) (aB hS rfl) gW (es := (bF x7.Length)) rfl rfl)),
      fun S hS => aE rfl (aJ rfl (uP (a := x5.Length) (b := x7.Length) (aA rfl) (aB hS rfl) (aB hS rfl) rfl rfl Try.eqGuardType34 xJ)),
      fun S hS => aE rfl (aJ rfl (aD (v := .d (.lit (.bool ((!decide (x5.Length = x7.Length)))))) (aA rfl) (aB hS rfl) rfl)),
      fun S hS => aE rfl (bA rfl rfl (aA rfl) (aL hS rfl) c11 (aD (v := .d (.sl 6 (a_0.map aQ))) (aA rfl) (aB hS rfl) rfl)),
      fun S hS => aE rfl (bA rfl rfl (aA rfl) (aL hS rfl) c11 (aD (v := .d (.lit (.int .i64 i_0_2))) (aA rfl) (aB hS rfl) rfl)),
      fun S hS => aE rfl (bA rfl rfl (aA rfl) (aL hS rfl) c11 (bJ (aA rfl) (aB hS rfl) (aB hS rfl) dW.of (bP aQ h13))),
      fun S hS => aE rfl (bA rfl rfl (aA rfl) (aL hS rfl) c11 (cG (aA rfl) (aB hS rfl) jJ (es := [.sl 1 (x12.After.map aP)]) rfl)),
      fun S hS => aE rfl (bA rfl rfl (aA rfl) (aL hS rfl) c11 (bZ (aA rfl) (aB hS rfl) dF)),
      fun S hS => aE rfl (bA rfl rfl (aA rfl) (aL hS rfl) c11 (aD (v := .d (.sl 6 (b_1.map aQ))) (aA rfl) (aB hS rfl) rfl)),
      fun S hS => aE rfl (bA rfl rfl (aA rfl) (aL hS rfl) c11 (aD (v := .d (.lit (.int .i64 i_0_2))) (aA rfl) (aB hS rfl) rfl)),
      fun S hS => aE rfl (bA rfl rfl (aA rfl) (aL hS rfl) c11 (bJ (aA rfl) (aB hS rfl) (aB hS rfl) dW.of (bP aQ h15))),
      fun S hS => aE rfl (bA rfl rfl (aA rfl) (aL hS rfl) c11 (cG (aA rfl) (aB hS rfl) jJ (es := [.sl 1 (x14.After.map aP)]) rfl)),
      fun S hS => aE rfl (bA rfl rfl (aA rfl) (aL hS rfl) c11 (bZ (aA rfl) (aB hS rfl) dF)),
      fun S hS => aE rfl (bA rfl rfl (aA rfl) (aL hS rfl) c11 (cL (aA rfl) (.func _ _ Try.call66) (ev2 (aB hS rfl) (ev2 (aB hS rfl) evn)) rfl (BVs.refl _ _) (gO _ _ h17) rfl)),
      fun S hS => aE rfl (bA rfl rfl (aA rfl) (aL hS rfl) c11 (dZ (aA rfl) (aB hS rfl))),
      fun S hS => aE rfl (aJ rfl (cB (v := .d (.lit (.bool (!r16)))) (aA rfl) (aB hS rfl) c11 (aB hS rfl) rfl)),
      fun S hS => aE rfl (aJ rfl (aD (v := .d (.lit (.bool (!r16)))) (aA rfl) (aB hS rfl) rfl)),
      fun S hS => aE rfl (bA rfl rfl (aA rfl) (aL hS rfl) c20 (aD (v := .d (.sl 6 (a_0.map aQ))) (aA rfl) (aB hS rfl) rfl)),
      fun S hS => aE rfl (bA rfl rfl (aA rfl) (aL hS rfl) c20 (aD (v := .d (.lit (.int .i64 i_0_2))) (aA rfl) (aB hS rfl) rfl)),
      fun S hS => aE rfl (bA rfl rfl (aA rfl) (aL hS rfl) c20 (bJ (aA rfl) (aB hS rfl) (aB hS rfl) dW.of (bP aQ h22))),
      fun S hS => aE rfl (bA rfl rfl (aA rfl) (aL hS rfl) c20 (cG (aA rfl) (aB hS rfl) pA (es := [.sl 1 (x21.With.map aP)]) rfl)),
      fun S hS => aE rfl (bA rfl rfl (aA rfl) (aL hS rfl) c20 (bZ (aA rfl) (aB hS rfl) dF)),
      fun S hS => aE rfl (bA rfl rfl (aA rfl) (aL hS rfl) c20 (aD (v := .d (.sl 6 (b_1.map aQ))) (aA rfl) (aB hS rfl) rfl)),
      fun S hS => aE rfl (bA rfl rfl (aA rfl) (aL hS rfl) c20 (aD (v := .d (.lit (.int .i64 i_0_2))) (aA rfl) (aB hS rfl) rfl)),
      fun S hS => aE rfl (bA rfl rfl (aA rfl) (aL hS rfl) c20 (bJ (aA rfl) (aB hS rfl) (aB hS rfl) dW.of (bP aQ h24))),
      fun S hS => aE rfl (bA rfl rfl (aA rfl) (aL hS rfl) c20 (cG (aA rfl) (aB hS rfl) pA (es := [.sl 1 (x23.With.map aP)]) rfl)),
      fun S hS => aE rfl (bA rfl rfl (aA rfl) (aL hS rfl) c20 (bZ (aA rfl) (aB hS rfl) dF)),
      fun S hS => aE rfl (bA rfl rfl (aA rfl) (aL hS rfl) c20 (cL (aA rfl) (.func _ _ Try.call66) (ev2 (aB hS rfl) (ev2 (aB hS rfl) evn)) rfl (BVs.refl _ _) (gO _ _ h26) rfl)),
      fun S hS => aE rfl (bA rfl rfl (aA rfl) (aL hS rfl) c20 (dZ (aA rfl) (aB hS rfl))),
      fun S hS => aE rfl (aJ rfl (cB (v := .d (.lit (.bool (!r25)))) (aA rfl) (aB hS rfl) c20 (aB hS rfl) rfl)),
      fun S hS => aE rfl (aJ rfl (aD (v := .d (.lit (.bool (!r25)))) (aA rfl) (aB hS rfl) rfl)),
      fun S hS => aE rfl (bA rfl rfl (aA rfl) (aL hS rfl) c29 (aD (v := .d (.sl 6 (a_0.map aQ))) (aA rfl) (aB hS rfl) rfl)),
      fun S hS => aE rfl (bA rfl rfl (aA rfl) (aL hS rfl) c29 (aD (v := .d (.lit (.int .i64 i_0_2))) (aA rfl) (aB hS rfl) rfl)),
      fun S hS => aE rfl (bA rfl rfl (aA rfl) (aL hS rfl) c29 (bJ (aA rfl) (aB hS rfl) (aB hS rfl) dW.of (bP aQ h31))),
      fun S hS => aE rfl (bA rfl rfl (aA rfl) (aL hS rfl) c29 (cG (aA rfl) (aB hS rfl) nX (es := [.lit (.int .i64 x30.Due)]) rfl)),
      fun S hS => aE rfl (bA rfl rfl (aA rfl) (aL hS rfl) c29 (bZ (aA rfl) (aB hS rfl) bL)),
      fun S hS => aE rfl (bA rfl rfl (aA rfl) (aL hS rfl) c29 (aD (v := .d (.sl 6 (b_1.map aQ))) (aA rfl) (aB hS rfl) rfl)),
      fun S hS => aE rfl (bA rfl rfl (aA rfl) (aL hS rfl) c29 (aD (v := .d (.lit (.int .i64 i_0_2))) (aA rfl) (aB hS rfl) rfl)),
      fun S hS => aE rfl (bA rfl rfl (aA rfl) (aL hS rfl) c29 (bJ (aA rfl) (aB hS rfl) (aB hS rfl) dW.of (bP aQ h33))),
      fun S hS => aE rfl (bA rfl rfl (aA rfl) (aL hS rfl) c29 (cG (aA rfl) (aB hS rfl) nX (es := [.lit (.int .i64 x32.Due)]) rfl)),
      fun S hS => aE rfl (bA rfl rfl (aA rfl) (aL hS rfl) c29 (bZ (aA rfl) (aB hS rfl) bL)),
      fun S hS => aE rfl (bA rfl rfl (aA rfl) (aL hS rfl) c29 (bR (aA rfl) (aB hS rfl) (aB hS rfl) rfl)),
      fun S hS => aE rfl (aJ rfl (cB (v := .d (.lit (.bool ((!decide (x30.Due = x32.Due)))))) (aA rfl) (aB hS rfl) c29 (aB hS rfl) rfl)),
      fun S hS => aE rfl (aJ rfl (aD (v := .d (.lit (.bool (!decide (x30.Due = x32.Due))))) (aA rfl) (aB hS rfl) rfl)),
      fun S hS => aE rfl (bA rfl rfl (aA rfl) (aL hS rfl) c36 (aD (v := .d (.sl 6 (a_0.map aQ))) (aA rfl) (aB hS rfl) rfl)),
      fun S hS => aE rfl (bA rfl rfl (aA rfl) (aL hS rfl) c36 (aD (v := .d (.lit (.int .i64 i_0_2))) (aA rfl) (aB hS rfl) rfl)),
      fun S hS => aE rfl (bA rfl rfl (aA rfl) (aL hS rfl) c36 (bJ (aA rfl) (aB hS rfl) (aB hS rfl) dW.of (bP aQ h38))),
      fun S hS => aE rfl (bA rfl rfl (aA rfl) (aL hS rfl) c36 (cG (aA rfl) (aB hS rfl) yM (es := [.lit (.int .i64 x37.Earliest)]) rfl)),
      fun S hS => aE rfl (bA rfl rfl (aA rfl) (aL hS rfl) c36 (bZ (aA rfl) (aB hS rfl) bL)),
      fun S hS => aE rfl (bA rfl rfl (aA rfl) (aL hS rfl) c36 (aD (v := .d (.sl 6 (b_1.map aQ))) (aA rfl) (aB hS rfl) rfl)),
      fun S hS => aE rfl (bA rfl rfl (aA rfl) (aL hS rfl) c36 (aD (v := .d (.lit (.int .i64 i_0_2))) (aA rfl) (aB hS rfl) rfl)),
      fun S hS => aE rfl (bA rfl rfl (aA rfl) (aL hS rfl) c36 (bJ (aA rfl) (aB hS rfl) (aB hS rfl) dW.of (bP aQ h40))),
      fun S hS => aE rfl (bA rfl rfl (aA rfl) (aL hS rfl) c36 (cG (aA rfl) (aB hS rfl) yM (es := [.lit (.int .i64 x39.Earliest)]) rfl)),
      fun S hS => aE rfl (bA rfl rfl (aA rfl) (aL hS rfl) c36 (bZ (aA rfl) (aB hS rfl) bL)),
      fun S hS => aE rfl (bA rfl rfl (aA rfl) (aL hS rfl) c36 (bR (aA rfl) (aB hS rfl) (aB hS rfl) rfl)),
      fun S hS => aE rfl (aJ rfl (cB (v := .d (.lit (.bool ((!decide (x37.Earliest = x39.Earliest)))))) (aA rfl) (aB hS rfl) c36 (aB hS rfl) rfl)), trivial⟩⟩
        · exact dE (aU rfl (bC ⟨rfl, rfl, rfl, trivial⟩))
   ·refine aG ?_
    refine cA rfl (fun c41 => ?_) (fun c41 => ?_)
    ·have h := aX c41 h
     refine aF ?_
     refine aC ?_
     refine tr1 rfl (aH (v := .d (.lit (.bool false))) (aA rfl) rfl rfl) ?_
     refine aG ?_
     have h := Option.some.inj h
     subst h
     exact bU ⟨rfl, _, .one _, rfl, rfl⟩
    ·have h := aY c41 h
     refine dY ?_
     refine aC ?_
     refine tr1 rfl (aD (v := .d (.lit (.int .i64 i_0_2))) (aA rfl) rfl rfl) ?_
     refine tr1 rfl (bT (aA rfl) rfl rfl rfl) ?_
     refine tr1 rfl (aH (v := .d (.lit (.int .i64 ((w64 (i_0_2 + 1)))))) (aA rfl) rfl rfl) ?_
     refine aG ?_
     exact ⟨(w64 (i_0_2 + 1)), h, bE [] rfl rfl (aU rfl (bC ⟨rfl, rfl, trivial⟩))⟩
  ·have h := aY c4 h
   refine dA ?_
   refine .inl ⟨rfl, ?_⟩
   simp only [nT] at h
   refine aF ?_
   refine aC ?_
   refine tr1 rfl (aH (v := .d (.lit (.bool true))) (aA rfl) rfl rfl) ?_
   refine aG ?_
   have h := Option.some.inj h
   subst h
   exact bU ⟨rfl, _, .one _, rfl, rfl⟩

theorem xG (t_0 : bD) (l_1 : List aK) (stages_2 : List cZ) {r : Bool} (h : mY t_0 l_1 stages_2 = some r) : Fn Try.prog 11 [.agg (bG t_0), .d (.sl 5 (l_1.map aS)), .d (.sl 3 (stages_2.map cY))] (.d (.lit (.bool r))) := by
 unfold mY at h
 refine Fn.of_tr Try.func11 rfl (rs := [.tmp 6]) Try.results11 Try.ntmps11 (Nat.le_of_ble_eq_true rfl) ?_
 refine aF ?_
 refine aC ?_
 refine cE rfl (eC (v := .agg (bG t_0)) (aA rfl) rfl rfl rfl) ?_
 rintro _ ⟨b1, rfl⟩
 refine tr1 rfl (aH (v := .d (.lit (.bool false))) (aA rfl) rfl rfl) ?_
 refine aG ?_
 refine aF ?_
 refine aF ?_
 refine aC ?_
 refine tr1 rfl (aN (aA rfl) rfl eT) ?_
 refine tr1 rfl (aR (aA rfl) rfl (i := 0) rfl rfl dF) ?_
 refine tr1 rfl (dC (aA rfl) rfl cT.of) ?_
 refine tr1 rfl (bR (aA rfl) rfl rfl rfl) ?_
 refine tr1 rfl (aD (v := .d (.lit (.bool ((decide (40 < (t_0.Slots.length : Int))))))) (aA rfl) rfl rfl) ?_
 obtain ⟨b2, h3, h⟩ := bind_some h
 refine cS 4 [1, 2, 3] 22 b2 ?_ ?_
 ·refine bY (decide (40 < (t_0.Slots.length : Int))) (fun c40 => ?_) (fun c40 => ?_)
  ·have h3 := aX c40 h3
   refine aO rfl rfl (aA rfl) rfl (aA rfl) rfl c40 ?_
   refine aO rfl rfl (aA rfl) rfl (aA rfl) rfl c40 ?_
   refine aO rfl rfl (aA rfl) rfl (aA rfl) rfl c40 ?_
   refine tr1 rfl (cC (v := .d (.lit (.bool true))) (aA rfl) rfl c40 rfl rfl) ?_
   have h3 := Option.some.inj h3
   subst h3
   refine aG (bM rfl ⟨rfl, rfl, rfl, trivial⟩ rfl)
  ·have h3 := aY c40 h3
   refine aM rfl rfl (aA rfl) rfl c40 (aD (v := .d (.sl 5 (l_1.map aS))) (aA rfl) rfl rfl) ?_
   refine aM rfl rfl (aA rfl) rfl c40 (dC (aA rfl) rfl iW.of) ?_
   refine aM rfl rfl (aA rfl) rfl c40 (bR (aA rfl) rfl rfl rfl) ?_
   refine tr1 rfl (cB (v := .d (.lit (.bool ((decide (20 < (l_1.length : Int))))))) (aA rfl) rfl c40 rfl rfl) ?_
   have h3 := Option.some.inj h3
   subst h3
   refine aG (bM rfl ⟨rfl, rfl, rfl, trivial⟩ rfl)
 ·refine tr1 rfl (aD (v := .d (.lit (.bool b2))) (aA rfl) rfl rfl) ?_
  obtain ⟨b4, h5, h⟩ := bind_some h
  refine cS 4 [1, 2, 3] 27 b4 ?_ ?_
  ·refine bY (b2) (fun c39 => ?_) (fun c39 => ?_)
   ·have h5 := aX c39 h5
    refine aO rfl rfl (aA rfl) rfl (aA rfl) rfl c39 ?_
    refine aO rfl rfl (aA rfl) rfl (aA rfl) rfl c39 ?_
    refine aO rfl rfl (aA rfl) rfl (aA rfl) rfl c39 ?_
    refine tr1 rfl (cC (v := .d (.lit (.bool true))) (aA rfl) rfl c39 rfl rfl) ?_
    have h5 := Option.some.inj h5
    subst h5
    refine aG (bM rfl ⟨rfl, rfl, rfl, trivial⟩ rfl)
   ·have h5 := aY c39 h5
    refine aM rfl rfl (aA rfl) rfl c39 (aD (v := .d (.sl 3 (stages_2.map cY))) (aA rfl) rfl rfl) ?_
    refine aM rfl rfl (aA rfl) rfl c39 (dC (aA rfl) rfl pU.of) ?_
    refine aM rfl rfl (aA rfl) rfl c39 (bR (aA rfl) rfl rfl rfl) ?_
    refine tr1 rfl (cB (v := .d (.lit (.bool ((decide (20 < (stages_2.length : Int))))))) (aA rfl) rfl c39 rfl rfl) ?_
    have h5 := Option.some.inj h5
    subst h5
    refine aG (bM rfl ⟨rfl, rfl, rfl, trivial⟩ rfl)
  ·refine aG ?_
   refine cA rfl (fun c6 => ?_) (fun c6 => ?_)
   ·have h := aX c6 h
    refine aF ?_
    refine aC ?_
    obtain ⟨r7, h8, h⟩ := bind_some h
    refine tr1 rfl (cL (aA rfl) (.func _ _ Try.call16) rfl rfl (BVs.refl _ _) (tT h8) rfl) ?_
    refine tr1 rfl (aH (v := .d (.lit (.bool r7))) (aA rfl) rfl rfl) ?_
    refine aG ?_
    have h := Option.some.inj h
    subst h
    refine cQ (cF (cN (l := [6]) ⟨rfl, trivial⟩)) ?_
    exact bU ⟨rfl, _, .one _, rfl, rfl⟩
   ·have h := aY c6 h
    refine bX ?_
    refine aF ?_
    refine aC ?_
    refine tr1 rfl (vX (aA rfl) cT rfl rfl (rows := (([] : List Int)).map aP) rfl (dD (f := aP) fun _ => rfl) rfl (by decide)) ?_
    refine tr1 rfl (aN (aA rfl) rfl eT) ?_
    refine tr1 rfl (aR (aA rfl) rfl (i := 0) rfl rfl dF) ?_
    obtain ⟨x9, h10, h⟩ := bind_some h
    refine tr1 rfl (aBk (.d (.weak _ _)) (uC (nn := true) (f := aP) (xs := ([] : List Int)) (ys := t_0.Slots) (aA rfl) cT rfl rfl (fun _ => rfl) h10 rfl)) ?_
    refine tr1 rfl (aN (aA rfl) rfl eT) ?_
    refine tr1 rfl (cM (i := 0) rfl rfl rfl rfl rfl Try.sizeOf27 rfl (aA rfl) (Nat.le_of_ble_eq_true rfl) (ds' := (bG (bD.mk t_0.Rounds x9))) rfl) ?_
    refine aG ?_
    refine aF ?_
    obtain ⟨x12, h13, h⟩ := bind_some h
    obtain ⟨x14, h15, h⟩ := bind_some h
    obtain ⟨r16, h17, h⟩ := bind_some h
    refine gN mix 14 [1, 2, 3] (fun X11 => [(7, .d (.sl 6 (r16.1.map aQ))), (8, .d (.sl 4 (r16.2.1.map bI))), (45, .d (.lit (.int .i64 r16.2.2)))]) (fun X11 => [.box b1 0 (bG (bD.mk t_0.Rounds x9))]) ?_ ?_
    ·refine ⟨0, fun X11 => [(35, 0, .agg (bG (bD.mk t_0.Rounds x9))), (36, 1, .fl true 5 (([] : List aK).map aS)), (37, 2, .d (.sl 5 (l_1.map aS))), (38, 3, .d (.sl 5 (x12.map aS))), (39, 4, .fl true 3 (([] : List cZ).map cY)), (40, 5, .d (.sl 3 (stages_2.map cY))), (41, 6, .d (.sl 3 (x14.map cY))), (42, 7, .tup [.d (.sl 6 (r16.1.map aQ)), .d (.sl 4 (r16.2.1.map bI)), .d (.lit (.int .i64 r16.2.2))]), (34, 8, .tup [.d (.sl 6 (r16.1.map aQ)), .d (.sl 4 (r16.2.1.map bI)), .d (.lit (.int .i64 r16.2.2))]), (43, 9, .d (.sl 6 (r16.1.map aQ))), (44, 10, .d (.sl 4 (r16.2.1.map bI))), (45, 11, .d (.lit (.int .i64 r16.2.2))), (7, 12, .d (.sl 6 (r16.1.map aQ))), (8, 13, .d (.sl 4 (r16.2.1.map bI)))], fun X11 => [([], .box b1 0 (bG (bD.mk t_0.Rounds x9)))], ?_, ?_⟩
     · exact ⟨by kernel_rfl, by kernel_rfl, by kernel_rfl, fun _ => by kernel_rfl, fun _ => by kernel_rfl, fun _ => by kernel_rfl, fun _ => rfl, [([], []), ([], [3, 6]), ([], [3, 6]), ([1, 2], [6]), ([], [6]), ([], [6]), ([3, 4, 5], []), ([0, 3, 6], []), ([3, 6, 7], []), ([3, 6, 8], []), ([3, 6, 8], []), ([3, 6, 8], []), ([3, 6, 9], []), ([3, 6, 10], [])], by kernel_rfl, ⟨fun X11 S hw hi hS => bH (X := X11) rfl (hw X11) rfl (aJ rfl (bN (aA rfl) (aB hS rfl) (i := 0) (og hS rfl rfl) fO (es := (bG (bD.mk t_0.Rounds x9))) rfl rfl)),
      fun X11 S hw hi hS => bH (X := X11) rfl (hw X11) rfl (aJ rfl (vX (aA rfl) iW rfl pan (rows := (([] : List aK)).map aS) rfl (dD (f := aS) fun _ => rfl) rfl (by decide))),
      fun X11 S hw hi hS => bH (X := X11) rfl (hw X11) rfl (aJ rfl (aD (v := .d (.sl 5 (l_1.map aS))) (aA rfl) (aB hS rfl) rfl)),
      fun X11 S hw hi hS => bH (X := X11) rfl (hw X11) rfl (aJ rfl (aBk (.d (.weak _ _)) (uC (nn := true) (f := aS) (xs := ([] : List aK)) (ys := l_1) (aA rfl) iW (aB hS rfl) (aB hS rfl) (fun _ => rfl) h13 rfl))),
      fun X11 S hw hi hS => bH (X := X11) rfl (hw X11) rfl (aJ rfl (vX (aA rfl) pU rfl pan (rows := (([] : List cZ)).map cY) rfl (dD (f := cY) fun _ => rfl) rfl (by decide))),
      fun X11 S hw hi hS => bH (X := X11) rfl (hw X11) rfl (aJ rfl (aD (v := .d (.sl 3 (stages_2.map cY))) (aA rfl) (aB hS rfl) rfl)),
      fun X11 S hw hi hS => bH (X := X11) rfl (hw X11) rfl (aJ rfl (aBk (.d (.weak _ _)) (uC (nn := true) (f := cY) (xs := ([] : List cZ)) (ys := stages_2) (aA rfl) pU (aB hS rfl) (aB hS rfl) (fun _ => rfl) h15 rfl))),
      fun X11 S hw hi hS => bH (X := X11) rfl (hw X11) rfl (aJ rfl (fT (aA rfl) (.func _ _ Try.call42) (ev2 (aB hS rfl) (ev2 (aB hS rfl) (ev2 (aB hS rfl) evn))) rfl (aIq _ _ _ h17))),
      fun X11 S hw hi hS => bH (X := X11) rfl (hw X11) rfl (aJ rfl (aD (v := .tup [.d (.sl 6 (r16.1.map aQ)), .d (.sl 4 (r16.2.1.map bI)), .d (.lit (.int .i64 r16.2.2))]) (aA rfl) (aB hS rfl) rfl)),
      fun X11 S hw hi hS => bH (X := X11) rfl (hw X11) rfl (aJ rfl (cD (aA rfl) (aB hS rfl) rfl)),
      fun X11 S hw hi hS => bH (X := X11) rfl (hw X11) rfl (aJ rfl (cD (aA rfl) (aB hS rfl) rfl)),
      fun X11 S hw hi hS => bH (X := X11) rfl (hw X11) rfl (aJ rfl (cD (aA rfl) (aB hS rfl) rfl)),
      fun X11 S hw hi hS => bH (X := X11) rfl (hw X11) rfl (aJ rfl (aH (v := .d (.sl 6 (r16.1.map aQ))) (aA rfl) (aB hS rfl) rfl)),
      fun X11 S hw hi hS => bH (X := X11) rfl (hw X11) rfl (aJ rfl (aH (v := .d (.sl 4 (r16.2.1.map bI))) (aA rfl) (aB hS rfl) rfl)), trivial⟩⟩
     · exact fun X11 => dE (aU rfl (aU rfl (aU rfl (bC ⟨rfl, rfl, rfl, trivial⟩))))
    ·intro X11
     refine tr1 rfl (aH (v := .d (.lit (.int .i64 r16.2.2))) (aA rfl) rfl rfl) ?_
     refine aG ?_
     refine aF ?_
     refine aC ?_
     refine tr1 rfl (bN (aA rfl) rfl (i := 0) rfl fO (es := (bG (bD.mk t_0.Rounds x9))) rfl rfl) ?_
     refine tr1 rfl (aD (v := .d (.sl 5 (l_1.map aS))) (aA rfl) rfl rfl) ?_
     refine tr1 rfl (aD (v := .d (.sl 3 (stages_2.map cY))) (aA rfl) rfl rfl) ?_
     obtain ⟨r18, h19, h⟩ := bind_some h
     refine tr1 rfl (fT (aA rfl) (.func _ _ Try.call43) rfl rfl (aCd _ _ _ h19)) ?_
     refine tr1 rfl (aD (v := .tup [.d (.sl 6 (r18.1.map aQ)), .d (.sl 4 (r18.2.1.map bI)), .d (.lit (.int .i64 r18.2.2))]) (aA rfl) rfl rfl) ?_
     refine tr1 rfl (cD (aA rfl) rfl rfl) ?_
     refine tr1 rfl (cD (aA rfl) rfl rfl) ?_
     refine tr1 rfl (cD (aA rfl) rfl rfl) ?_
     refine tr1 rfl (aH (v := .d (.sl 6 (r18.1.map aQ))) (aA rfl) rfl rfl) ?_
     refine tr1 rfl (aH (v := .d (.sl 4 (r18.2.1.map bI))) (aA rfl) rfl rfl) ?_
     refine tr1 rfl (aH (v := .d (.lit (.int .i64 r18.2.2))) (aA rfl) rfl rfl) ?_
     refine aG ?_
     refine aF ?_
     refine aF ?_
     refine aC ?_
     refine tr1 rfl (aD (v := .d (.sl 6 (r16.1.map aQ))) (aA rfl) rfl rfl) ?_
     refine tr1 rfl (aD (v := .d (.sl 6 (r18.1.map aQ))) (aA rfl) rfl rfl) ?_
     obtain ⟨r20, h21, h⟩ := bind_some h
     refine tr1 rfl (cL (aA rfl) (.func _ _ Try.call29) rfl rfl (BVs.refl _ _) (xH _ _ h21) rfl) ?_
     refine tr1 rfl (dZ (aA rfl) rfl) ?_
     refine tr1 rfl (aD (v := .d (.lit (.bool (!r20)))) (aA rfl) rfl rfl) ?_
     obtain ⟨b22, h23, h⟩ := bind_some h
     refine cS 6 [8, 9, 11, 12] 64 b22 ?_ ?_
     ·refine bY (!r20) (fun c38 => ?_) (fun c38 => ?_)
      ·have h23 := aX c38 h23
       refine aO rfl rfl (aA rfl) rfl (aA rfl) rfl c38 ?_
       refine aO rfl rfl (aA rfl) rfl (aA rfl) rfl c38 ?_
       refine aO rfl rfl (aA rfl) rfl (aA rfl) rfl c38 ?_
       refine aO rfl rfl (aA rfl) rfl (aA rfl) rfl c38 ?_
       refine aO rfl rfl (aA rfl) rfl (aA rfl) rfl c38 ?_
       refine tr1 rfl (cC (v := .d (.lit (.bool true))) (aA rfl) rfl c38 rfl rfl) ?_
       have h23 := Option.some.inj h23
       subst h23
       refine aG (bM rfl ⟨rfl, rfl, rfl, rfl, trivial⟩ rfl)
      ·have h23 := aY c38 h23
       refine aM rfl rfl (aA rfl) rfl c38 (aD (v := .d (.sl 4 (r16.2.1.map bI))) (aA rfl) rfl rfl) ?_
       refine aM rfl rfl (aA rfl) rfl c38 (dC (aA rfl) rfl iF.of) ?_
       refine aM rfl rfl (aA rfl) rfl c38 (aD (v := .d (.sl 4 (r18.2.1.map bI))) (aA rfl) rfl rfl) ?_
       refine aM rfl rfl (aA rfl) rfl c38 (dC (aA rfl) rfl iF.of) ?_
       refine aM rfl rfl (aA rfl) rfl c38 (bR (aA rfl) rfl rfl rfl) ?_
       refine tr1 rfl (cB (v := .d (.lit (.bool ((!decide ((r16.2.1.length : Int) = (r18.2.1.length : Int))))))) (aA rfl) rfl c38 rfl rfl) ?_
       have h23 := Option.some.inj h23
       subst h23
       refine aG (bM rfl ⟨rfl, rfl, rfl, rfl, trivial⟩ rfl)
     ·refine tr1 rfl (aD (v := .d (.lit (.bool b22))) (aA rfl) rfl rfl) ?_
      obtain ⟨b24, h25, h⟩ := bind_some h
      refine cS 4 [8, 11] 69 b24 ?_ ?_
      ·refine bY (b22) (fun c37 => ?_) (fun c37 => ?_)
       ·have h25 := aX c37 h25
        refine aO rfl rfl (aA rfl) rfl (aA rfl) rfl c37 ?_
        refine aO rfl rfl (aA rfl) rfl (aA rfl) rfl c37 ?_
        refine aO rfl rfl (aA rfl) rfl (aA rfl) rfl c37 ?_
        refine tr1 rfl (cC (v := .d (.lit (.bool true))) (aA rfl) rfl c37 rfl rfl) ?_
        have h25 := Option.some.inj h25
        subst h25
        refine aG (bM rfl ⟨rfl, rfl, trivial⟩ rfl)
       ·have h25 := aY c37 h25
        refine aM rfl rfl (aA rfl) rfl c37 (aD (v := .d (.lit (.int .i64 r16.2.2))) (aA rfl) rfl rfl) ?_
        refine aM rfl rfl (aA rfl) rfl c37 (aD (v := .d (.lit (.int .i64 r18.2.2))) (aA rfl) rfl rfl) ?_
        refine aM rfl rfl (aA rfl) rfl c37 (bR (aA rfl) rfl rfl rfl) ?_
        refine tr1 rfl (cB (v := .d (.lit (.bool ((!decide (r16.2.2 = r18.2.2)))))) (aA rfl) rfl c37 rfl rfl) ?_
        have h25 := Option.some.inj h25
        subst h25
        refine aG (bM rfl ⟨rfl, rfl, trivial⟩ rfl)
      ·refine aG ?_
       refine cA rfl (fun c26 => ?_) (fun c26 => ?_)
       ·have h := aX c26 h
        refine aF ?_
        refine aC ?_
        refine tr1 rfl (aH (v := .d (.lit (.bool false))) (aA rfl) rfl rfl) ?_
        refine aG ?_
        have h := Option.some.inj h
        subst h
        refine cQ (cF (cN (l := [6]) ⟨rfl, trivial⟩)) ?_
        exact bU ⟨rfl, _, .one _, rfl, rfl⟩
       ·have h := aY c26 h
        refine bX ?_
        refine aF ?_
        refine aF ?_
        refine aC ?_
        refine tr1 rfl (aH (v := .d (.lit (.int .i64 0))) (aA rfl) rfl rfl) ?_
        refine aG ?_
        refine cO ?_
        refine dG [8, 11] (fun (s27 : Int) => [(13, .d (.lit (.int .i64 s27)))]) (fun (s27 : Int) => []) (fun (k : Nat) (s27 : Int) => fA r16.2.1 r18.2.1 k s27) (fun _ => rfl) (0) h (bE [] rfl rfl (aU rfl (bC ⟨rfl, rfl, trivial⟩))) ?_
        rintro k28 i_0_27 h
        simp only [fA] at h
        refine aF ?_
        refine aF ?_
        refine aC ?_
        refine tr1 rfl (aD (v := .d (.lit (.int .i64 i_0_27))) (aA rfl) rfl rfl) ?_
        refine tr1 rfl (aD (v := .d (.sl 4 (r16.2.1.map bI))) (aA rfl) rfl rfl) ?_
        refine tr1 rfl (dC (aA rfl) rfl iF.of) ?_
        refine tr1 rfl (bR (aA rfl) rfl rfl rfl) ?_
        refine aG ?_
        refine cA rfl (fun c29 => ?_) (fun c29 => ?_)
        ·have h := aX c29 h
         refine bX ?_
         refine aF ?_
         refine cO ?_
         refine aF ?_
         obtain ⟨x30, h31, h⟩ := bind_some h
         obtain ⟨x32, h33, h⟩ := bind_some h
         refine eD mix 8 [8, 11, 13] [(79, .agg (bI x30)), (83, .agg (bI x32))] ?_ ?_
         ·refine ⟨[(76, 0, .d (.sl 4 (r16.2.1.map bI))), (77, 1, .d (.lit (.int .i64 i_0_27))), (78, 2, .cp [.lit (.int .i64 x30.Round), .lit (.int .i64 x30.Place), .lit (.int .i64 x30.One), .lit (.int .i64 x30.Two)]), (79, 3, .agg (bI x30)), (80, 4, .d (.sl 4 (r18.2.1.map bI))), (81, 5, .d (.lit (.int .i64 i_0_27))), (82, 6, .cp [.lit (.int .i64 x32.Round), .lit (.int .i64 x32.Place), .lit (.int .i64 x32.One), .lit (.int .i64 x32.Two)]), (83, 7, .agg (bI x32))], ?_, ?_⟩
          · exact ⟨by kernel_rfl, by kernel_rfl, by kernel_rfl, by kernel_rfl, by kernel_rfl, [([], []), ([], []), ([0, 1], []), ([2], []), ([], []), ([], []), ([4, 5], []), ([6], [])], by kernel_rfl, ⟨fun S hS => aE rfl (aJ rfl (aD (v := .d (.sl 4 (r16.2.1.map bI))) (aA rfl) (aB hS rfl) rfl)),
      fun S hS => aE rfl (aJ rfl (aD (v := .d (.lit (.int .i64 i_0_27))) (aA rfl) (aB hS rfl) rfl)),
      fun S hS => aE rfl (aJ rfl (bJ (aA rfl) (aB hS rfl) (aB hS rfl) iF.of (bP bI h31))),
      fun S hS => aE rfl (aJ rfl (dB (aA rfl) (aB hS rfl) vC (es := (bI x30)) rfl rfl)),
      fun S hS => aE rfl (aJ rfl (aD (v := .d (.sl 4 (r18.2.1.map bI))) (aA rfl) (aB hS rfl) rfl)),
      fun S hS => aE rfl (aJ rfl (aD (v := .d (.lit (.int .i64 i_0_27))) (aA rfl) (aB hS rfl) rfl)),
      fun S hS => aE rfl (aJ rfl (bJ (aA rfl) (aB hS rfl) (aB hS rfl) iF.of (bP bI h33))),
      fun S hS => aE rfl (aJ rfl (dB (aA rfl) (aB hS rfl) vC (es := (bI x32)) rfl rfl)), trivial⟩⟩
          · exact dE (aU rfl (aU rfl (bC ⟨rfl, rfl, rfl, trivial⟩)))
         ·refine tr1 rfl (uP (a := x30) (b := x32) (aA rfl) rfl rfl rfl rfl Try.eqGuardType73 aPp) ?_
          refine aG ?_
          refine cA rfl (fun c34 => ?_) (fun c34 => ?_)
          ·have h := aX c34 h
           refine aF ?_
           refine aC ?_
           refine tr1 rfl (aH (v := .d (.lit (.bool false))) (aA rfl) rfl rfl) ?_
           refine aG ?_
           have h := Option.some.inj h
           subst h
           exact bU ⟨rfl, _, .one _, rfl, rfl⟩
          ·have h := aY c34 h
           refine dY ?_
           refine aC ?_
           refine tr1 rfl (aD (v := .d (.lit (.int .i64 i_0_27))) (aA rfl) rfl rfl) ?_
           refine tr1 rfl (bT (aA rfl) rfl rfl rfl) ?_
           refine tr1 rfl (aH (v := .d (.lit (.int .i64 ((w64 (i_0_27 + 1)))))) (aA rfl) rfl rfl) ?_
           refine aG ?_
           exact ⟨(w64 (i_0_27 + 1)), h, bE [] rfl rfl (aU rfl (bC ⟨rfl, rfl, trivial⟩))⟩
        ·have h := aY c29 h
         refine dA ?_
         refine .inl ⟨rfl, ?_⟩
         simp only [nR] at h
         refine aF ?_
         refine aC ?_
         obtain ⟨r35, h36, h⟩ := bind_some h
         refine tr1 rfl (cL (aA rfl) (.func _ _ Try.call16) rfl rfl (BVs.refl _ _) (tT h36) rfl) ?_
         refine tr1 rfl (aH (v := .d (.lit (.bool r35))) (aA rfl) rfl rfl) ?_
         refine aG ?_
         have h := Option.some.inj h
         subst h
         exact bU ⟨rfl, _, .one _, rfl, rfl⟩

end Go.Am
