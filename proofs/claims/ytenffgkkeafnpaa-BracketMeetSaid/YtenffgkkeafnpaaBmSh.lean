/- Shallow functions, printed by program. -/
import Derived.Test.YtenffgkkeafnpaaBkSh
import Derived.Test.YtenffgkkeafnpaaAmSort
namespace Go.Am

def pN (round_100 : Int) (player_100 : Int) (place_100 : Int) (l_100 : List aE) : Option ((List aE)) :=
    (app 40 l_100 ([(aE.mk 1 round_100 place_100 player_100 0)])).bind fun x15 =>
    some x15

def gJ (round_0 : Int) (player_0 : Int) (place_0 : Int) (l_0 : List aE) : Nat → Int → Option ((List aE))
  | 0, _ => none
  | k0 + 1, i_0 =>
    bif decide (i_0 < (l_0.length : Int)) then ((idx l_0 i_0).bind fun x8 =>
    (bif !decide (x8.Kind = 5) then ((idx l_0 i_0).bind fun x9 =>
    some (decide (x9.Round = round_0))) else (some false)).bind fun b10 =>
    (bif b10 then ((idx l_0 i_0).bind fun x11 =>
    some (decide (x11.Place = place_0))) else (some false)).bind fun b12 =>
    (bif b12 then ((idx l_0 i_0).bind fun x13 =>
    some (decide (x13.Player = player_0))) else (some false)).bind fun b14 =>
    bif b14 then (some l_0)
    else ((gJ round_0 player_0 place_0 l_0 k0) (w64 (i_0 + 1))))
    else (pN round_0 player_0 place_0 l_0)

def lT (t_0 : aO) (l_1 : List aE) (slot_2 : Int) (round_3 : Int) (player_4 : Int) : Option ((List aE)) :=
    (chk (decide (0 ≤ (IntKind.u64.wrap (w64 (round_3 + 1)))))).bind fun u3 =>
    (bif decide (round_3 = 0) then ((idx t_0.Slots (w64 (2 * (slot_2.fdiv (2 ^ (min (IntKind.u64.wrap (w64 (round_3 + 1))).toNat 64)))))).bind fun x4 =>
    (bif decide (x4 = (-1)) then (some true) else ((idx t_0.Slots (w64 ((w64 (2 * (slot_2.fdiv (2 ^ (min (IntKind.u64.wrap (w64 (round_3 + 1))).toNat 64))))) + 1))).bind fun x5 =>
    some (decide (x5 = (-1))))).bind fun b6 =>
    some b6) else (some false)).bind fun b7 =>
    bif b7 then (some l_1)
    else (gJ round_3 player_4 (slot_2.fdiv (2 ^ (min (IntKind.u64.wrap (w64 (round_3 + 1))).toNat 64))) l_1 BIG 0)

def oR : Option Bool :=
    some false

def eE (a_6 : Int) (round_6 : Int) (bouts_6 : List cF) (x_6 : dP) : Nat → Int → Option Bool
  | 0, _ => none
  | k6 + 1, i_6 =>
    bif decide (i_6 < (bouts_6.length : Int)) then ((idx bouts_6 i_6).bind fun x39 =>
    (bif decide (x39.Round = round_6) then ((idx bouts_6 i_6).bind fun x40 =>
    (chk (decide (0 ≤ (IntKind.u64.wrap (w64 (round_6 + 1)))))).bind fun u41 =>
    some (decide (x40.Place = (a_6.fdiv (2 ^ (min (IntKind.u64.wrap (w64 (round_6 + 1))).toNat 64)))))) else (some false)).bind fun b42 =>
    bif b42 then ((idx bouts_6 i_6).bind fun x43 =>
    (bif decide (x43.One = x_6.A) then ((idx bouts_6 i_6).bind fun x44 =>
    some (decide (x44.Two = x_6.B))) else (some false)).bind fun b45 =>
    (bif b45 then (some true) else ((idx bouts_6 i_6).bind fun x46 =>
    (bif decide (x46.One = x_6.B) then ((idx bouts_6 i_6).bind fun x47 =>
    some (decide (x47.Two = x_6.A))) else (some false)).bind fun b48 =>
    some b48)).bind fun b49 =>
    (bif b49 then ((gZ).bind fun r50 =>
    some r50) else (some false)).bind fun b51 =>
    some b51)
    else ((eE a_6 round_6 bouts_6 x_6 k6) (w64 (i_6 + 1))))
    else (oR)

def gR (r_104 : Int) (e_104 : Int) (a_104 : Int) (round_104 : Int) (t_104 : aO) (x_104 : dP) (o151_104 : List aE) : Option Bool :=
    (oQ t_104 o151_104).bind fun r33 =>
    bif !decide (e_104 = 0) then ((bif decide (r33 = 72) then ((gZ).bind fun r34 =>
    some r34) else (some false)).bind fun b35 =>
    some b35)
    else ((mM t_104 o151_104).bind fun r36 =>
    (bif !decide (r_104 = round_104) then (some true) else (some (!decide (r33 = 0)))).bind fun b37 =>
    (bif b37 then (some true) else (some (!decide (r36.2 = 0)))).bind fun b38 =>
    bif b38 then (some false)
    else (eE a_104 round_104 r36.1 x_104 BIG 0))

def eD (r_4 : Int) (e_4 : Int) (a_4 : Int) (b_4 : Int) (round_4 : Int) (t_4 : aO) (x_4 : dP) : Nat → Int → (List aE) → Option Bool
  | 0, _, _ => none
  | k4 + 1, k_4, o151_4 =>
    bif decide (k_4 < round_4) then ((lT t_4 o151_4 a_4 k_4 x_4.A).bind fun r29 =>
    (lT t_4 r29 b_4 k_4 x_4.B).bind fun r31 =>
    (eD r_4 e_4 a_4 b_4 round_4 t_4 x_4 k4) (w64 (k_4 + 1)) r31)
    else (gR r_4 e_4 a_4 round_4 t_4 x_4 o151_4)

def gQ (l_102 : List aE) (r_102 : Int) (e_102 : Int) (a_102 : Int) (b_102 : Int) (round_102 : Int) (t_102 : aO) (x_102 : dP) : Option Bool :=
    (app 40 ([] : List aE) l_102).bind fun x27 =>
    eD r_102 e_102 a_102 b_102 round_102 t_102 x_102 BIG 0 x27

def eC (l_2 : List aE) (r_2 : Int) (e_2 : Int) (a_2 : Int) (b_2 : Int) (t_2 : aO) (x_2 : dP) : Nat → Int → Option Bool
  | 0, _ => none
  | k2 + 1, round_2 =>
    (chk (decide (0 ≤ (IntKind.u64.wrap (w64 (round_2 + 1)))))).bind fun u24 =>
    (chk (decide (0 ≤ (IntKind.u64.wrap (w64 (round_2 + 1)))))).bind fun u25 =>
    bif !decide ((a_2.fdiv (2 ^ (min (IntKind.u64.wrap (w64 (round_2 + 1))).toNat 64))) = (b_2.fdiv (2 ^ (min (IntKind.u64.wrap (w64 (round_2 + 1))).toNat 64)))) then ((eC l_2 r_2 e_2 a_2 b_2 t_2 x_2 k2) (w64 (round_2 + 1)))
    else (gQ l_2 r_2 e_2 a_2 b_2 round_2 t_2 x_2)

def fI (l_100 : List aE) (r_100 : Int) (e_100 : Int) (a_100 : Int) (b_100 : Int) (t_100 : aO) (x_100 : dP) : Option Bool :=
    (bif decide (a_100 < 0) then (some true) else (some (decide (b_100 < 0)))).bind fun b21 =>
    bif b21 then ((bif decide (e_100 = 3) then ((gZ).bind fun r22 =>
    some r22) else (some false)).bind fun b23 =>
    some b23)
    else (eC l_100 r_100 e_100 a_100 b_100 t_100 x_100 BIG 0)

def cS (l_0 : List aE) (r_0 : Int) (e_0 : Int) (slots_0 : List Int) (t_0 : aO) (x_0 : dP) : Nat → Int → Int → Int → Option Bool
  | 0, _, _, _ => none
  | k0 + 1, a_0, b_0, i_0 =>
    bif decide (i_0 < (slots_0.length : Int)) then ((idx slots_0 i_0).bind fun x18 =>
    bif decide (x18 = x_0.A) then ((idx slots_0 i_0).bind fun x19 =>
    bif decide (x19 = x_0.B) then ((cS l_0 r_0 e_0 slots_0 t_0 x_0 k0) i_0 i_0 (w64 (i_0 + 1)))
    else ((cS l_0 r_0 e_0 slots_0 t_0 x_0 k0) i_0 b_0 (w64 (i_0 + 1))))
    else ((idx slots_0 i_0).bind fun x20 =>
    bif decide (x20 = x_0.B) then ((cS l_0 r_0 e_0 slots_0 t_0 x_0 k0) a_0 i_0 (w64 (i_0 + 1)))
    else ((cS l_0 r_0 e_0 slots_0 t_0 x_0 k0) a_0 b_0 (w64 (i_0 + 1)))))
    else (fI l_0 r_0 e_0 a_0 b_0 t_0 x_0)

def kJ (t_0 : aO) (l_1 : List aE) (x_2 : dP) : Option Bool :=
    (kE t_0 l_1).bind fun r3 =>
    (bif !r3 then (some true) else (some (decide (50 < (l_1.length : Int))))).bind fun b4 =>
    (bif b4 then (some true) else (some (decide (x_2.A < 0)))).bind fun b5 =>
    (bif b5 then (some true) else (some (decide (x_2.B < 0)))).bind fun b6 =>
    (bif b6 then (some true) else (some (decide (999 < x_2.A)))).bind fun b7 =>
    (bif b7 then (some true) else (some (decide (999 < x_2.B)))).bind fun b8 =>
    (bif b8 then (some true) else (some (decide (x_2.A = x_2.B)))).bind fun b9 =>
    bif b9 then ((gZ).bind fun r10 =>
    some r10)
    else ((pK t_0 l_1 x_2.A x_2.B).bind fun r11 =>
    (pK t_0 l_1 x_2.B x_2.A).bind fun r12 =>
    (bif !decide (r11.2 = r12.2) then (some true) else (some (!decide (r11.1 = r12.1)))).bind fun b13 =>
    (bif b13 then (some true) else ((bif !decide (r11.2 = 0) then (some (!decide (r11.2 = 3))) else (some false)).bind fun b14 =>
    some b14)).bind fun b15 =>
    bif b15 then (some false)
    else ((hZ t_0 l_1).bind fun r16 =>
    bif !r16.2 then ((gZ).bind fun r17 =>
    some r17)
    else (cS l_1 r11.1 r11.2 r16.1 t_0 x_2 BIG (-1) (-1) 0)))

end Go.Am
