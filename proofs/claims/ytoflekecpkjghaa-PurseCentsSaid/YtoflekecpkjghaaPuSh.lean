/- Shallow functions, printed by program. -/
import Derived.Test.YtoflekecpkjghaaPuBase
import Derived.Test.YtoflekecpkjghaaAmSort
namespace Go.Am

def jV (b_0 : aV) : Option Bool :=
    (bif decide ((w64 ((w64 (b_0.Gross + b_0.Daily)) + b_0.Debt)) = (w64 ((w64 ((w64 (b_0.Tax + b_0.Fines)) + b_0.Used)) + b_0.Rest))) then (some (decide (0 ≤ (min (min (min (min (min (min (min b_0.Gross b_0.Tax) b_0.Daily) b_0.Fines) b_0.Debt) b_0.Units) b_0.Used) b_0.Rest)))) else (some false)).bind fun b2 =>
    some b2

def lM (t_100 : aV) (sum_100 : aV) : Option Bool :=
    (bif decide (t_100 = sum_100) then ((mK).bind fun r20 =>
    some r20) else (some false)).bind fun b21 =>
    some b21

def fZ (l_0 : List aV) (p_0 : aQ) (t_0 : aV) : Nat → Int → Int → aV → Option Bool
  | 0, _, _, _ => none
  | k0 + 1, last_0, i_0, sum_0 =>
    bif decide (i_0 < (l_0.length : Int)) then ((idx l_0 i_0).bind fun x12 =>
    (jV x12).bind fun r14 =>
    (bif !r14 then (some true) else ((bif decide (0 < x12.Debt) then (some (decide (0 < (w64 (x12.Used + x12.Rest))))) else (some false)).bind fun b15 =>
    some b15)).bind fun b16 =>
    (bif b16 then (some true) else ((hY p_0 x12.Person).bind fun r17 =>
    some (!r17))).bind fun b18 =>
    (bif b18 then (some true) else (some (decide (x12.Person ≤ last_0)))).bind fun b19 =>
    bif b19 then (some false)
    else ((fZ l_0 p_0 t_0 k0) x12.Person (w64 (i_0 + 1)) (aV.mk sum_0.Person (w64 (sum_0.Gross + x12.Gross)) (w64 (sum_0.Tax + x12.Tax)) (w64 (sum_0.Daily + x12.Daily)) (w64 (sum_0.Fines + x12.Fines)) (w64 (sum_0.Debt + x12.Debt)) (w64 (sum_0.Units + x12.Units)) (w64 (sum_0.Used + x12.Used)) (w64 (sum_0.Rest + x12.Rest)))))
    else (lM t_0 sum_0)

def nK (p_0 : aQ) : Option Bool :=
    (mJ p_0).bind fun r2 =>
    bif !r2 then ((mK).bind fun r3 =>
    some r3)
    else ((sQ p_0).bind fun r4 =>
    (sR p_0).bind fun r5 =>
    (bif !decide (r4.2 = 0) then (some true) else (some (!decide (r5.2 = 0)))).bind fun b7 =>
    (bif b7 then (some true) else ((jV r5.1).bind fun r8 =>
    some (!r8))).bind fun b9 =>
    (bif b9 then (some true) else (some (decide (200 < (r4.1.length : Int))))).bind fun b10 =>
    bif b10 then (some false)
    else (fZ r4.1 p_0 r5.1 BIG (-1) 0 (aV.mk (-1) 0 0 0 0 0 0 0 0)))

end Go.Am
