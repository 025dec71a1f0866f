/- Shallow functions, printed by program. -/
import Derived.Test.YtoflekecpkjghaaPuBase
import Derived.Test.YtoflekecpkjghaaAmSort
namespace Go.Am

def jV (again0 : Int → (List aF) → aR → (List Int) → Int → (List bM) → (List dG) → (List cX) → (List aH) → Option Bool) (later_101 : List Int) (person_101 : Int) (i_101 : Int) (p_101 : aN) (o_101 : List aF) (o_101_2 : aR) (o_101_3 : List Int) (o_101_4 : Int) (o_101_5 : List bM) (o_101_6 : List dG) (o_101_7 : List cX) (o_101_8 : List aH) : Option Bool :=
    again0 (w64 (i_101 + 1)) o_101 o_101_2 o_101_3 o_101_4 o_101_5 o_101_6 o_101_7 o_101_8

def pP (again0 : Int → (List aF) → aR → (List Int) → Int → (List bM) → (List dG) → (List cX) → (List aH) → Option Bool) (later_102 : List Int) (person_102 : Int) (i_102 : Int) (now_102 : Bool) (p_102 : aN) (o_102 : List aF) (o_102_2 : aR) (o_102_3 : List Int) (o_102_4 : Int) (o_102_5 : List bM) (o_102_6 : List dG) (o_102_7 : List cX) (o_102_8 : List aH) : Option Bool :=
    (bif now_102 then (some true) else ((idx p_102.Slips i_102).bind fun x12 =>
    some (decide (x12.Kind = 5)))).bind fun b13 =>
    bif b13 then ((idx p_102.Slips i_102).bind fun x14 =>
    (app 40 o_102 ([x14])).bind fun x15 =>
    jV again0 later_102 person_102 i_102 p_102 x15 o_102_2 o_102_3 o_102_4 o_102_5 o_102_6 o_102_7 o_102_8)
    else (jV again0 later_102 person_102 i_102 p_102 o_102 o_102_2 o_102_3 o_102_4 o_102_5 o_102_6 o_102_7 o_102_8)

def gM (again0 : Int → (List aF) → aR → (List Int) → Int → (List bM) → (List dG) → (List cX) → (List aH) → Option Bool) (later_2 : List Int) (person_2 : Int) (i_2 : Int) (p_2 : aN) (o_2 : List aF) (o_2_2 : aR) (o_2_3 : List Int) (o_2_4 : Int) (o_2_5 : List bM) (o_2_6 : List dG) (o_2_7 : List cX) (o_2_8 : List aH) : Nat → Bool → Int → Option Bool
  | 0, _, _ => none
  | k2 + 1, now_2, k_2 =>
    bif decide (k_2 < (later_2.length : Int)) then ((bif now_2 then ((idx later_2 k_2).bind fun x10 =>
    some (!decide (x10 = i_2))) else (some false)).bind fun b11 =>
    (gM again0 later_2 person_2 i_2 p_2 o_2 o_2_2 o_2_3 o_2_4 o_2_5 o_2_6 o_2_7 o_2_8 k2) b11 (w64 (k_2 + 1)))
    else (pP again0 later_2 person_2 i_2 now_2 p_2 o_2 o_2_2 o_2_3 o_2_4 o_2_5 o_2_6 o_2_7 o_2_8)

def mF (person_100 : Int) (p_100 : aN) (o_100 : List aF) (o_100_2 : aR) (o_100_3 : List Int) (o_100_4 : Int) (o_100_5 : List bM) (o_100_6 : List dG) (o_100_7 : List cX) (o_100_8 : List aH) : Option Bool :=
    (mS (aN.mk o_100_2 o_100 o_100_3 o_100_4 o_100_5 o_100_6 o_100_7 o_100_8)).bind fun r17 =>
    bif !decide (r17 = 0) then ((kR).bind fun r18 =>
    some r18)
    else ((qW (aN.mk o_100_2 o_100 o_100_3 o_100_4 o_100_5 o_100_6 o_100_7 o_100_8) person_100).bind fun r19 =>
    (qW p_100 person_100).bind fun r21 =>
    (sC (aN.mk o_100_2 o_100 o_100_3 o_100_4 o_100_5 o_100_6 o_100_7 o_100_8) person_100).bind fun r23 =>
    (sC p_100 person_100).bind fun r25 =>
    (bif decide (r19.2 = 0) then (some (decide (r21.2 = 0))) else (some false)).bind fun b27 =>
    (bif b27 then (some (decide (r23.2 = 0))) else (some false)).bind fun b28 =>
    (bif b28 then (some (decide (r25.2 = 0))) else (some false)).bind fun b29 =>
    (bif b29 then (some (decide (r19.1.Low ≤ r21.1.Low))) else (some false)).bind fun b30 =>
    (bif b30 then (some (decide (r21.1.High ≤ r19.1.High))) else (some false)).bind fun b31 =>
    (bif b31 then (some (decide (r23.1.Units ≤ r25.1.Units))) else (some false)).bind fun b32 =>
    (bif b32 then ((kR).bind fun r33 =>
    some r33) else (some false)).bind fun b34 =>
    some b34)

def dH (later_0 : List Int) (person_0 : Int) (p_0 : aN) : Nat → Int → (List aF) → aR → (List Int) → Int → (List bM) → (List dG) → (List cX) → (List aH) → Option Bool
  | 0, _, _, _, _, _, _, _, _, _ => none
  | k0 + 1, i_0, o_0, o_0_2, o_0_3, o_0_4, o_0_5, o_0_6, o_0_7, o_0_8 =>
    bif decide (i_0 < (p_0.Slips.length : Int)) then (gM (dH later_0 person_0 p_0 k0) later_0 person_0 i_0 p_0 o_0 o_0_2 o_0_3 o_0_4 o_0_5 o_0_6 o_0_7 o_0_8 BIG true 0)
    else (mF person_0 p_0 o_0 o_0_2 o_0_3 o_0_4 o_0_5 o_0_6 o_0_7 o_0_8)

def oO (p_0 : aN) (later_1 : List Int) (person_2 : Int) : Option Bool :=
    (mR p_0).bind fun r2 =>
    (bif !r2 then (some true) else ((iB p_0 person_2).bind fun r3 =>
    some (!r3))).bind fun b4 =>
    (bif b4 then (some true) else (some (decide (20 < (later_1.length : Int))))).bind fun b5 =>
    bif b5 then ((kR).bind fun r6 =>
    some r6)
    else ((pW p_0).bind fun r7 =>
    dH later_1 person_2 p_0 BIG 0 ([] : List aF) r7.Tree r7.Prizes r7.Daily r7.Teams r7.Levies r7.Rates r7.Items)

end Go.Am
