/- Shallow functions, printed by program. -/
import Derived.Test.YtoflekecpkjghaaPuBase
import Derived.Test.YtoflekecpkjghaaAmSort
namespace Go.Am

def tL (t_0 : aR) (l_1 : List aG) (Q : (Int × Int) → Prop) : Prop :=
    lU t_0 l_1 fun r2 =>
    bif !decide (r2.2 = 0) then (Q (0, r2.2))
    else (nb (r2.1) fun x3 =>
    nb (r2.1) fun x4 =>
    Q (w64 ((w64 ((x3.Tree.Slots.length : Int) - 1)) - (((x4.won.map fun p : aF × Int => ((fun a : aF => Value.agg ((aO a).map bM).toArray) p.1, aK p.2))).length : Int)), 0))

def xL (a0 : aR) (a1 : List aG) : Option (Int × Int) := nX a0 a1

def mL (n_100 : Int) (o_100 : List aG) (o_100_2 : aR) (o_100_3 : List Int) (o_100_4 : Int) (o_100_5 : List bP) (o_100_6 : List eG) (o_100_7 : List dI) (o_100_8 : List aH) : Option Bool :=
    (mZ (aN.mk o_100_2 o_100 o_100_3 o_100_4 o_100_5 o_100_6 o_100_7 o_100_8)).bind fun r20 =>
    bif !decide (r20 = 0) then ((kT).bind fun r21 =>
    some r21)
    else ((sD (aN.mk o_100_2 o_100 o_100_3 o_100_4 o_100_5 o_100_6 o_100_7 o_100_8)).bind fun r22 =>
    (bif decide (r22.2 = 0) then (some (decide (r22.1 = n_100))) else (some false)).bind fun b23 =>
    (bif b23 then ((kT).bind fun r24 =>
    some r24) else (some false)).bind fun b25 =>
    some b25)

def eM (n_0 : Int) (p_0 : aN) : Nat → Int → (List aG) → aR → (List Int) → Int → (List bP) → (List eG) → (List dI) → (List aH) → Option Bool
  | 0, _, _, _, _, _, _, _, _, _ => none
  | k0 + 1, i_0, o_0, o_0_2, o_0_3, o_0_4, o_0_5, o_0_6, o_0_7, o_0_8 =>
    bif decide (i_0 < (p_0.Slips.length : Int)) then ((idx p_0.Slips i_0).bind fun x16 =>
    bif decide (x16.Kind = 5) then ((idx p_0.Slips i_0).bind fun x17 =>
    (app 40 o_0 ([x17])).bind fun x18 =>
    (eM n_0 p_0 k0) (w64 (i_0 + 1)) x18 o_0_2 o_0_3 o_0_4 o_0_5 o_0_6 o_0_7 o_0_8)
    else ((eM n_0 p_0 k0) (w64 (i_0 + 1)) o_0 o_0_2 o_0_3 o_0_4 o_0_5 o_0_6 o_0_7 o_0_8))
    else (mL n_0 o_0 o_0_2 o_0_3 o_0_4 o_0_5 o_0_6 o_0_7 o_0_8)

def oR (p_0 : aN) : Option Bool :=
    (mY p_0).bind fun r2 =>
    bif !r2 then ((kT).bind fun r3 =>
    some r3)
    else ((sD p_0).bind fun r4 =>
    (sT p_0).bind fun r5 =>
    (xL p_0.Tree p_0.Slips).bind fun r7 =>
    (bif !decide (r4.2 = 0) then (some true) else (some (!decide (r5.2 = 0)))).bind fun b8 =>
    (bif b8 then (some true) else (some (!decide (r7.2 = 0)))).bind fun b9 =>
    (bif b9 then (some true) else (some (decide (r4.1 < r5.1.Gross)))).bind fun b10 =>
    (bif b10 then (some true) else ((bif decide (r7.1 = 0) then (some (!decide (r5.1.Gross = r4.1))) else (some false)).bind fun b11 =>
    some b11)).bind fun b12 =>
    bif b12 then (some false)
    else ((qB p_0).bind fun r13 =>
    eM r4.1 p_0 BIG 0 ([] : List aG) r13.Tree r13.Prizes r13.Daily r13.Teams r13.Levies r13.Rates r13.Items))

end Go.Am
