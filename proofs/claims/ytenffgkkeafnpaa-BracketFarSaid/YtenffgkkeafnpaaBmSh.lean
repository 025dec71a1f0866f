/- Shallow functions, printed by program. -/
import Derived.Test.YtenffgkkeafnpaaBkSh
import Derived.Test.YtenffgkkeafnpaaAmSort
namespace Go.Am

def oQ (round_100 : Int) (player_100 : Int) (place_100 : Int) (l_100 : List aD) : Option ((List aD)) :=
    (app 40 l_100 ([(aD.mk 1 round_100 place_100 player_100 0)])).bind fun x15 =>
    some x15

def fY (round_0 : Int) (player_0 : Int) (place_0 : Int) (l_0 : List aD) : Nat → Int → Option ((List aD))
  | 0, _ => none
  | k0 + 1, i_0 =>
    bif decide (i_0 < (l_0.length : Int)) then ((idx l_0 i_0).bind fun x8 =>
    (bif !decide (x8.Kind = 5) then ((idx l_0 i_0).bind fun x9 =>
    some (decide (x9.Round = round_0))) else (some false)).bind fun b10 =>
    (bif b10 then ((idx l_0 i_0).bind fun x11 =>
    some (decide (x11.Place = place_0))) else (some false)).bind fun b12 =>
    (bif b12 then ((idx l_0 i_0).bind fun x13 =>
    some (decide (x13.Player = player_0))) else (some false)).bind fun b14 =>
    bif b14 then (some l_0)
    else ((fY round_0 player_0 place_0 l_0 k0) (w64 (i_0 + 1))))
    else (oQ round_0 player_0 place_0 l_0)

def mE (t_0 : aO) (l_1 : List aD) (slot_2 : Int) (round_3 : Int) (player_4 : Int) : Option ((List aD)) :=
    (chk (decide (0 ≤ (IntKind.u64.wrap (w64 (round_3 + 1)))))).bind fun u3 =>
    (bif decide (round_3 = 0) then ((idx t_0.Slots (w64 (2 * (slot_2.fdiv (2 ^ (min (IntKind.u64.wrap (w64 (round_3 + 1))).toNat 64)))))).bind fun x4 =>
    (bif decide (x4 = (-1)) then (some true) else ((idx t_0.Slots (w64 ((w64 (2 * (slot_2.fdiv (2 ^ (min (IntKind.u64.wrap (w64 (round_3 + 1))).toNat 64))))) + 1))).bind fun x5 =>
    some (decide (x5 = (-1))))).bind fun b6 =>
    some b6) else (some false)).bind fun b7 =>
    bif b7 then (some l_1)
    else (fY round_3 player_4 (slot_2.fdiv (2 ^ (min (IntKind.u64.wrap (w64 (round_3 + 1))).toNat 64))) l_1 BIG 0)

def lB (other_104 : Bool) : Option Bool :=
    (bif other_104 then ((gO).bind fun r31 =>
    some r31) else (some false)).bind fun b32 =>
    some b32

def dW (may_4 : List Int) (x_4 : dX) : Nat → Bool → Int → Option Bool
  | 0, _, _ => none
  | k4 + 1, other_4, i_4 =>
    bif decide (i_4 < (may_4.length : Int)) then ((bif other_4 then (some true) else ((idx may_4 i_4).bind fun x29 =>
    some (!decide (x29 = x_4.A)))).bind fun b30 =>
    (dW may_4 x_4 k4) b30 (w64 (i_4 + 1)))
    else (lB other_4)

def iU (slot_102 : Int) (t_102 : aO) (x_102 : dX) (o111_102 : List aD) : Option Bool :=
    (nP t_102 o111_102).bind fun r25 =>
    bif !decide (r25 = 0) then (some false)
    else (bif decide (x_102.B = t_102.Rounds) then ((gO).bind fun r26 =>
    some r26)
    else ((chk (decide (0 ≤ (IntKind.u64.wrap (w64 (x_102.B + 1)))))).bind fun u27 =>
    (nB t_102 o111_102 x_102.B (slot_102.fdiv (2 ^ (min (IntKind.u64.wrap (w64 (x_102.B + 1))).toNat 64)))).bind fun r28 =>
    bif !decide (r28.2 = 0) then (some false)
    else (dW r28.1 x_102 BIG false 0)))

def dV (slot_2 : Int) (t_2 : aO) (x_2 : dX) : Nat → Int → (List aD) → Option Bool
  | 0, _, _ => none
  | k2 + 1, k_2, o111_2 =>
    bif decide (k_2 < x_2.B) then ((mE t_2 o111_2 slot_2 k_2 x_2.A).bind fun r23 =>
    (dV slot_2 t_2 x_2 k2) (w64 (k_2 + 1)) r23)
    else (iU slot_2 t_2 x_2 o111_2)

def gN (l_100 : List aD) (e_100 : Int) (slot_100 : Int) (t_100 : aO) (x_100 : dX) (s_100 : cZ) : Option Bool :=
    bif decide (slot_100 < 0) then ((bif decide (e_100 = 3) then ((gO).bind fun r13 =>
    some r13) else (some false)).bind fun b14 =>
    some b14)
    else ((bif !decide (e_100 = 0) then (some true) else (some (decide (s_100.Low < 0)))).bind fun b15 =>
    (bif b15 then (some true) else (some (decide (s_100.High < s_100.Low)))).bind fun b16 =>
    (bif b16 then (some true) else (some (decide (t_100.Rounds < s_100.High)))).bind fun b17 =>
    bif b17 then (some false)
    else ((bif decide (x_100.B < s_100.Low) then (some true) else (some (decide (s_100.High < x_100.B)))).bind fun b18 =>
    bif b18 then ((gO).bind fun r19 =>
    some r19)
    else ((app 40 ([] : List aD) l_100).bind fun x21 =>
    dV slot_100 t_100 x_100 BIG 0 x21)))

def dH (l_0 : List aD) (e_0 : Int) (slots_0 : List Int) (isv_0 : Bool) (t_0 : aO) (x_0 : dX) (s_0 : cZ) : Nat → Int → Int → Option Bool
  | 0, _, _ => none
  | k0 + 1, slot_0, i_0 =>
    (bif decide (i_0 < (slots_0.length : Int)) then (some isv_0) else (some false)).bind fun b11 =>
    bif b11 then ((idx slots_0 i_0).bind fun x12 =>
    bif decide (x12 = x_0.A) then ((dH l_0 e_0 slots_0 isv_0 t_0 x_0 s_0 k0) i_0 (w64 (i_0 + 1)))
    else ((dH l_0 e_0 slots_0 isv_0 t_0 x_0 s_0 k0) slot_0 (w64 (i_0 + 1))))
    else (gN l_0 e_0 slot_0 t_0 x_0 s_0)

def kG (t_0 : aO) (l_1 : List aD) (x_2 : dX) : Option Bool :=
    (jO t_0 l_1).bind fun r3 =>
    (bif !r3 then (some true) else (some (decide (50 < (l_1.length : Int))))).bind fun b4 =>
    (bif b4 then (some true) else (some (decide (x_2.A < 0)))).bind fun b5 =>
    (bif b5 then (some true) else (some (decide (999 < x_2.A)))).bind fun b6 =>
    bif b6 then ((gO).bind fun r7 =>
    some r7)
    else ((mA t_0 l_1 x_2.A).bind fun r8 =>
    (gP t_0 l_1).bind fun r10 =>
    dH l_1 r8.2 r10.1 r10.2 t_0 x_2 r8.1 BIG (-1) 0)

end Go.Am
