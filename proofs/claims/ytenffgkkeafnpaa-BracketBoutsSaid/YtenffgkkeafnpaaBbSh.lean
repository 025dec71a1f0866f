/- Shallow functions, printed by program. -/
import Derived.Test.YtenffgkkeafnpaaBkSh
import Derived.Test.YtenffgkkeafnpaaAmSort
namespace Go.Am

def nH (t_0 : aN) (l_1 : List aE) (Q : ((List bD) × Int) → Prop) : Prop :=
    gD t_0 l_1 fun r2 =>
    bif !decide (r2.2 = 0) then (Q (([] : List bD), r2.2))
    else (nb (r2.1) fun x6 =>
    nb (fY (S := (List bD)) x6 (fun s7 x8 x9 =>
    (r2.1).bind fun x12 =>
    (bif !(cR x8 x12.won) then (some (decide (0 ≤ (min x9.One x9.Two)))) else (some false)).bind fun b13 =>
    bif b13 then ((app 32 s7 ([x9])).bind fun x14 =>
    some x14)
    else (some s7)) ([] : List bD)) fun s16 =>
    Q (s16, 0))

def qC (a0 : aN) (a1 : List aE) : Option ((List bD) × Int) := eZ a0 a1

def kK : Option Bool :=
    (kY).bind fun r26 =>
    some r26

def dS (l_0 : List aE) (own_0 : List aE) : Nat → Int → Option Bool
  | 0, _ => none
  | k0 + 1, k_0 =>
    bif decide (k_0 < (l_0.length : Int)) then ((idx own_0 k_0).bind fun x24 =>
    (idx l_0 k_0).bind fun x25 =>
    bif !decide (x24 = x25) then (some false)
    else ((dS l_0 own_0 k0) (w64 (k_0 + 1))))
    else (kK)

def jK (t_0 : aN) (l_1 : List aE) : Option Bool :=
    (mG t_0 l_1).bind fun r2 =>
    bif r2 then ((kY).bind fun r3 =>
    some r3)
    else ((nV t_0).bind fun r4 =>
    (app 40 ([] : List aE) l_1).bind fun x5 =>
    (qB r4 x5).bind fun r7 =>
    (dJ t_0 l_1).bind fun r8 =>
    bif !decide (r7 = r8) then (some false)
    else ((nU r4 x5).bind fun r9 =>
    (eY t_0 l_1).bind fun r10 =>
    (qC r4 x5).bind fun r11 =>
    (eZ t_0 l_1).bind fun r12 =>
    (oU r4 x5).bind fun r13 =>
    (fP t_0 l_1).bind fun r14 =>
    (gB r9.1 r10.1).bind fun r15 =>
    (bif !r15 then (some true) else (some (!decide (r9.2 = r10.2)))).bind fun b16 =>
    (bif b16 then (some true) else ((gB r11.1 r12.1).bind fun r17 =>
    some (!r17))).bind fun b18 =>
    (bif b18 then (some true) else (some (!decide (r11.2 = r12.2)))).bind fun b19 =>
    (bif b19 then (some true) else (some (!decide (r13.1 = r14.1)))).bind fun b20 =>
    (bif b20 then (some true) else (some (!decide (r13.2 = r14.2)))).bind fun b21 =>
    (bif b21 then (some true) else ((iE r4.Slots t_0.Slots).bind fun r22 =>
    some (!r22))).bind fun b23 =>
    bif b23 then (some false)
    else (dS l_1 x5 BIG 0)))

end Go.Am
