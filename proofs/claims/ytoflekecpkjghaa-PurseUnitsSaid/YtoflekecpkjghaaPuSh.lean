/- Shallow functions, printed by program. -/
import Derived.Test.YtoflekecpkjghaaPuBase
import Derived.Test.YtoflekecpkjghaaAmSort
namespace Go.Am

def mB (b_0 : aY) : Option Bool :=
    (bif decide ((w64 ((w64 (b_0.Gross + b_0.Daily)) + b_0.Debt)) = (w64 ((w64 ((w64 (b_0.Tax + b_0.Fines)) + b_0.Used)) + b_0.Rest))) then (some (decide (0 ≤ (min (min (min (min (min (min (min b_0.Gross b_0.Tax) b_0.Daily) b_0.Fines) b_0.Debt) b_0.Units) b_0.Used) b_0.Rest)))) else (some false)).bind fun b2 =>
    some b2

def lK (num_100 : Int) (den_100 : Int) (b_100 : aY) : Option Bool :=
    (chk (!decide (den_100 = 0))).bind fun u15 =>
    (bif !decide ((w64 ((w64 (b_100.Used * num_100)).tdiv den_100)) = b_100.Units) then (some true) else ((chk (!decide (den_100 = 0))).bind fun u16 =>
    some (!decide ((w64 ((w64 ((w64 (b_100.Used + b_100.Rest)) * num_100)).tdiv den_100)) = b_100.Units)))).bind fun b17 =>
    bif b17 then (some false)
    else ((bif decide (b_100.Used = 0) then (some true) else ((chk (!decide (den_100 = 0))).bind fun u18 =>
    some (decide ((w64 ((w64 ((w64 (b_100.Used - 1)) * num_100)).tdiv den_100)) < b_100.Units)))).bind fun b19 =>
    (bif b19 then ((mL).bind fun r20 =>
    some r20) else (some false)).bind fun b21 =>
    some b21)

def fA (person_0 : Int) (p_0 : aQ) (b_0 : aY) : Nat → Int → Int → Int → Option Bool
  | 0, _, _, _ => none
  | k0 + 1, num_0, den_0, i_0 =>
    bif decide (i_0 < (p_0.Rates.length : Int)) then ((idx p_0.Rates i_0).bind fun x12 =>
    bif decide (x12.Person = person_0) then ((idx p_0.Rates i_0).bind fun x13 =>
    (idx p_0.Rates i_0).bind fun x14 =>
    (fA person_0 p_0 b_0 k0) x13.Num x14.Den (w64 (i_0 + 1)))
    else ((fA person_0 p_0 b_0 k0) num_0 den_0 (w64 (i_0 + 1))))
    else (lK num_0 den_0 b_0)

def nK (p_0 : aQ) (person_1 : Int) : Option Bool :=
    (mK p_0).bind fun r2 =>
    (bif !r2 then (some true) else ((hY p_0 person_1).bind fun r3 =>
    some (!r3))).bind fun b4 =>
    bif b4 then ((mL).bind fun r5 =>
    some r5)
    else ((uA p_0 person_1).bind fun r6 =>
    (bif !decide (r6.2 = 0) then (some true) else ((mB r6.1).bind fun r8 =>
    some (!r8))).bind fun b9 =>
    (bif b9 then (some true) else (some (decide (1000000000000 < r6.1.Used)))).bind fun b10 =>
    (bif b10 then (some true) else (some (decide (1000000000000 < r6.1.Rest)))).bind fun b11 =>
    bif b11 then (some false)
    else (fA person_1 p_0 r6.1 BIG 1 1 0))

end Go.Am
