/- Shallow functions, printed by program. -/
import Derived.Test.YtenffgkkeafnpaaBkSh
import Derived.Test.YtenffgkkeafnpaaAmSort
namespace Go.Am

def nK (t_0 : aO) (l_1 : List aE) (Q : ((List bA) × Int) → Prop) : Prop :=
    gW t_0 l_1 fun r2 =>
    bif !decide (r2.2 = 0) then (Q (([] : List bA), r2.2))
    else (nb (r2.1) fun x6 =>
    nb (fY (S := (List bA)) x6 (fun s7 x8 x9 =>
    (r2.1).bind fun x12 =>
    (bif !(cL x8 x12.won) then (some (decide (0 ≤ (min x9.One x9.Two)))) else (some false)).bind fun b13 =>
    bif b13 then ((app 32 s7 ([x9])).bind fun x14 =>
    some x14)
    else (some s7)) ([] : List bA)) fun s16 =>
    Q (s16, 0))

def qC (a0 : aO) (a1 : List aE) : Option ((List bA) × Int) := jU a0 a1

def iW (l_100 : List aE) (which_100 : Int) (n_100 : Int) (can_100 : List bA) (left_100 : Int) (t_100 : aO) (want_100 : List bA) : Option Bool :=
    (bif !decide (left_100 = n_100) then (some true) else ((jA can_100 want_100).bind fun r18 =>
    some (!r18))).bind fun b19 =>
    (bif b19 then (some true) else ((bif decide (0 < n_100) then (some (decide ((can_100.length : Int) = 0))) else (some false)).bind fun b20 =>
    (bif b20 then (some (decide ((l_100.length : Int) = 0))) else (some false)).bind fun b21 =>
    some b21)).bind fun b22 =>
    bif b22 then (some false)
    else ((bif decide ((can_100.length : Int) = 0) then (some true) else (some (decide (which_100 < 0)))).bind fun b23 =>
    bif b23 then ((jS).bind fun r24 =>
    some r24)
    else ((chk (!decide ((can_100.length : Int) = 0))).bind fun u25 =>
    (idx can_100 (which_100.tmod (can_100.length : Int))).bind fun x26 =>
    (app 40 ([] : List aE) l_100).bind fun x29 =>
    (app 40 x29 ([(aE.mk 1 x26.Round x26.Place x26.Two 0)])).bind fun x31 =>
    (lA t_100 x31).bind fun r33 =>
    (bif decide (r33.2 = 0) then (some (decide (r33.1 = (w64 (n_100 - 1))))) else (some false)).bind fun b34 =>
    (bif b34 then ((jS).bind fun r35 =>
    some r35) else (some false)).bind fun b36 =>
    some b36))

def cX (l_0 : List aE) (which_0 : Int) (bouts_0 : List bA) (winners_0 : List Int) (n_0 : Int) (can_0 : List bA) (t_0 : aO) : Nat → Int → Int → (List bA) → Option Bool
  | 0, _, _, _ => none
  | k0 + 1, left_0, i_0, want_0 =>
    bif decide (i_0 < (bouts_0.length : Int)) then ((idx winners_0 i_0).bind fun x11 =>
    bif decide (x11 = (-2)) then ((idx bouts_0 i_0).bind fun x12 =>
    (bif decide (0 ≤ x12.One) then ((idx bouts_0 i_0).bind fun x13 =>
    some (decide (0 ≤ x13.Two))) else (some false)).bind fun b14 =>
    bif b14 then ((idx bouts_0 i_0).bind fun x15 =>
    (app 32 want_0 ([x15])).bind fun x16 =>
    (cX l_0 which_0 bouts_0 winners_0 n_0 can_0 t_0 k0) (w64 (left_0 + 1)) (w64 (i_0 + 1)) x16)
    else ((cX l_0 which_0 bouts_0 winners_0 n_0 can_0 t_0 k0) (w64 (left_0 + 1)) (w64 (i_0 + 1)) want_0))
    else ((cX l_0 which_0 bouts_0 winners_0 n_0 can_0 t_0 k0) left_0 (w64 (i_0 + 1)) want_0))
    else (iW l_0 which_0 n_0 can_0 left_0 t_0 want_0)

def jY (t_0 : aO) (l_1 : List aE) (which_2 : Int) : Option Bool :=
    (jR t_0 l_1).bind fun r2 =>
    (bif !r2 then (some true) else (some (decide (59 < (l_1.length : Int))))).bind fun b3 =>
    bif b3 then ((jS).bind fun r4 =>
    some r4)
    else ((mL t_0 l_1).bind fun r5 =>
    (lA t_0 l_1).bind fun r6 =>
    (qC t_0 l_1).bind fun r7 =>
    (bif !r5.2.2 then (some true) else (some (!decide (r6.2 = 0)))).bind fun b8 =>
    (bif b8 then (some true) else (some (!decide (r7.2 = 0)))).bind fun b9 =>
    bif b9 then (some false)
    else (cX l_1 which_2 r5.1 r5.2.1 r6.1 r7.1 t_0 BIG 0 0 ([] : List bA)))

end Go.Am
