/- Shallow functions, printed by program. -/
import Derived.Test.YtenffgkkeafnpaaBrSh
import Derived.Test.YtenffgkkeafnpaaAmSort
namespace Go.Am

structure dN where
  Low : Int
  High : Int
  deriving DecidableEq, Inhabited
def fC (x : dN) : List D := [.lit (.int .i64 x.Low), .lit (.int .i64 x.High)]

def mK (t_0 : aO) (l_1 : List aE) : Option Bool :=
    (bif decide (100 < (t_0.Slots.length : Int)) then (some true) else (some (decide (100 < (l_1.length : Int))))).bind fun b2 =>
    some b2

def oE : Option (aO × (List aE)) :=
    some ((aO.mk 3 ([1, (-1), 2, 3, 4, 5, 6, 7])), [(aE.mk 1 1 0 2 0), (aE.mk 3 0 3 7 0), (aE.mk 5 0 4 8 4)])

def nQ (d_100 : aW) : Option Int :=
    some d_100.Tree.Rounds

def gJ (d_0 : aW) (slot_0 : Int) (t12_0 : Int) : Nat → Int → Option Int
  | 0, _ => none
  | k0 + 1, t13_0 =>
    bif decide (t13_0 < t12_0) then ((jX t13_0 slot_0).bind fun r1 =>
    (bif cL r1 d_0.won then ((idx d_0.players slot_0).bind fun x2 =>
    some (!decide ((cF r1 0 d_0.won) = x2))) else (some false)).bind fun b3 =>
    bif b3 then (some t13_0)
    else ((gJ d_0 slot_0 t12_0 k0) (w64 (t13_0 + 1))))
    else (nQ d_0)

def jO (d_0 : aW) (slot_1 : Int) : Option Int :=
    gJ d_0 slot_1 d_0.Tree.Rounds BIG 0

def slices_Sort_int (x : List Int) : Option (List Int) := if x.length < 4611686018427387904 then some (iG x) else none

def qZ (againQ : ((List Int) × Int) → Prop) (out_100 : List Int) : Prop :=
    nb (slices_Sort_int out_100) fun r14 =>
    againQ (r14, 0)

def gZ (againQ : ((List Int) × Int) → Prop) (round_0 : Int) (d_0 : Option aW) (t31_0 : List Int) (t32_0 : Int) (m_0 : aB) : Nat → Int → (List Int) → Prop
  | 0, _, _ => False
  | k0 + 1, t33_0, out_0 =>
    bif decide (t33_0 < t32_0) then (nb (idx t31_0 t33_0) fun x6 =>
    nb (d_0) fun x7 =>
    nb (bif !decide (x6 = (-1)) then ((jX round_0 t33_0).bind fun r8 =>
    some (decide (r8 = m_0))) else (some false)) fun b9 =>
    nb (bif b9 then ((jO x7 t33_0).bind fun r10 =>
    some (decide (round_0 < r10))) else (some false)) fun b11 =>
    bif b11 then (nb (app 8 out_0 ([x6])) fun x12 =>
    (gZ againQ round_0 d_0 t31_0 t32_0 m_0 k0) (w64 (t33_0 + 1)) x12)
    else ((gZ againQ round_0 d_0 t31_0 t32_0 m_0 k0) (w64 (t33_0 + 1)) out_0))
    else (qZ againQ out_0)

def pB (t_0 : aO) (l_1 : List aE) (round_2 : Int) (place_3 : Int) (Q : ((List Int) × Int) → Prop) : Prop :=
    lT t_0 l_1 round_2 place_3 fun r2 =>
    bif !decide (r2.2.2 = 0) then (Q (([] : List Int), r2.2.2))
    else (nb (r2.1) fun x5 =>
    gZ Q round_2 r2.1 x5.players (x5.players.length : Int) r2.2.1 BIG 0 ([] : List Int))

def oD (t_0 : aO) (l_1 : List aE) (Q : (Int × Int) → Prop) : Prop :=
    gW t_0 l_1 fun r2 =>
    bif !decide (r2.2 = 0) then (Q (0, r2.2))
    else (nb (r2.1) fun x3 =>
    nb (r2.1) fun x4 =>
    Q (w64 ((w64 ((x3.Tree.Slots.length : Int) - 1)) - (((x4.won.map fun p : aB × Int => ((fun a : aB => Value.agg ((aH a).map bG).toArray) p.1, aP p.2))).length : Int)), 0))

def rA (againQ : ((Option aW) × (List Int) × Int) → Prop) (d_100 : Option aW) (slots_100 : List Int) : Prop :=
    againQ (d_100, slots_100, 0)

def jQ (againQ : ((Option aW) × (List Int) × Int) → Prop) (t20_0 : List Int) (t21_0 : Int) : Nat → (Option aW) → Int → (List Int) → Prop
  | 0, _, _, _ => False
  | k0 + 1, d_0, t22_0, slots_0 =>
    bif decide (t22_0 < t21_0) then (nb (idx t20_0 t22_0) fun x5 =>
    nb (eJ x5 0 999) fun r6 =>
    bif !r6 then (againQ ((none : Option aW), ([] : List Int), 1))
    else (nb (d_0) fun x8 =>
    nb (fE x8.players x5) fun r9 =>
    nb (app 8 slots_0 ([r9])) fun x10 =>
    (jQ againQ t20_0 t21_0 k0) d_0 (w64 (t22_0 + 1)) x10))
    else (rA againQ d_0 slots_0)

def lZ (t_0 : aO) (l_1 : List aE) (players_2 : List Int) (Q : ((Option aW) × (List Int) × Int) → Prop) : Prop :=
    gW t_0 l_1 fun r3 =>
    bif !decide (r3.2 = 0) then (Q ((none : Option aW), ([] : List Int), r3.2))
    else (jQ Q players_2 (players_2.length : Int) BIG r3.1 0 ([] : List Int))

def nR (d_100 : aW) : Option Int :=
    some d_100.Tree.Rounds

def gK (d_0 : aW) (slot_0 : Int) (t12_0 : Int) : Nat → Int → Option Int
  | 0, _ => none
  | k0 + 1, t13_0 =>
    bif decide (t13_0 < t12_0) then ((jX t13_0 slot_0).bind fun r1 =>
    (bif !(cL r1 d_0.won) then (some true) else ((idx d_0.players slot_0).bind fun x2 =>
    some (!decide ((cF r1 0 d_0.won) = x2)))).bind fun b3 =>
    bif b3 then (some t13_0)
    else ((gK d_0 slot_0 t12_0 k0) (w64 (t13_0 + 1))))
    else (nR d_0)

def lC (d_0 : aW) (slot_1 : Int) : Option Int :=
    gK d_0 slot_1 d_0.Tree.Rounds BIG 0

def lS (t_0 : aO) (l_1 : List aE) (player_2 : Int) (Q : (dN × Int) → Prop) : Prop :=
    lZ t_0 l_1 ([player_2]) fun r3 =>
    bif !decide (r3.2.2 = 0) then (Q ((dN.mk 0 0), r3.2.2))
    else (nb (idx r3.2.1 0) fun x4 =>
    bif decide (x4 < 0) then (Q ((dN.mk 0 0), 3))
    else (nb (r3.1) fun x5 =>
    nb (idx r3.2.1 0) fun x6 =>
    nb (lC x5 x6) fun r7 =>
    nb (idx r3.2.1 0) fun x8 =>
    nb (jO x5 x8) fun r9 =>
    Q ((dN.mk r7 r9), 0)))

def pD : Option Bool :=
    some true

def jZ (a_0 : List Int) (b_0 : List Int) : Nat → Int → Option Bool
  | 0, _ => none
  | k0 + 1, i_0 =>
    bif decide (i_0 < (a_0.length : Int)) then ((idx a_0 i_0).bind fun x1 =>
    (idx b_0 i_0).bind fun x2 =>
    bif !decide (x1 = x2) then (some false)
    else ((jZ a_0 b_0 k0) (w64 (i_0 + 1))))
    else (pD)

def nS (a_0 : List Int) (b_1 : List Int) : Option Bool :=
    bif !decide ((a_0.length : Int) = (b_1.length : Int)) then (some false)
    else (jZ a_0 b_1 BIG 0)

def lU (a0 : aO) (a1 : List aE) : Option ((List bA) × Int) := jT a0 a1

def oJ (n_100 : Int) : Option Int :=
    some n_100

def kC (slot_0 : Int) (t_0 : aO) (d_0 : aQ) : Nat → Int → Option Int
  | 0, _ => none
  | k0 + 1, n_0 =>
    (bif decide (n_0 < t_0.Rounds) then ((idx d_0.Must n_0).bind fun x3 =>
    (chk (decide (0 ≤ (IntKind.u64.wrap (w64 (n_0 + 1)))))).bind fun u4 =>
    (idx x3 (slot_0.fdiv (2 ^ (min (IntKind.u64.wrap (w64 (n_0 + 1))).toNat 64)))).bind fun x5 =>
    (bif decide (x5 = (-2)) then (some true) else ((idx d_0.Must n_0).bind fun x6 =>
    (chk (decide (0 ≤ (IntKind.u64.wrap (w64 (n_0 + 1)))))).bind fun u7 =>
    (idx x6 (slot_0.fdiv (2 ^ (min (IntKind.u64.wrap (w64 (n_0 + 1))).toNat 64)))).bind fun x8 =>
    (idx d_0.Slots slot_0).bind fun x9 =>
    some (decide (x8 = x9)))).bind fun b10 =>
    some b10) else (some false)).bind fun b11 =>
    bif b11 then ((kC slot_0 t_0 d_0 k0) (w64 (n_0 + 1)))
    else (oJ n_0)

def nY (t_0 : aO) (d_1 : aQ) (slot_2 : Int) : Option Int :=
    kC slot_2 t_0 d_1 BIG 0

def qF (again0 : Int → (List Int) → Option ((List Int))) (l_101 : List Int) (i_101 : Int) (out_101 : List Int) : Option ((List Int)) :=
    again0 (w64 (i_101 + 1)) out_101

def nE (again0 : Int → (List Int) → Option ((List Int))) (l_102 : List Int) (i_102 : Int) (out_102 : List Int) : Option ((List Int)) :=
    qF again0 l_102 i_102 out_102

def jC (again0 : Int → (List Int) → Option ((List Int))) (l_2 : List Int) (i_2 : Int) : Nat → Int → (List Int) → Option ((List Int))
  | 0, _, _ => none
  | k2 + 1, k_2, out_2 =>
    (bif decide (0 < k_2) then ((idx out_2 k_2).bind fun x5 =>
    (idx out_2 (w64 (k_2 - 1))).bind fun x6 =>
    some (decide (x5 < x6))) else (some false)).bind fun b7 =>
    bif b7 then ((idx out_2 (w64 (k_2 - 1))).bind fun x8 =>
    (idx out_2 k_2).bind fun x9 =>
    (idx out_2 k_2).bind fun x10 =>
    (idx (out_2.set k_2.toNat x8) (w64 (k_2 - 1))).bind fun x11 =>
    (jC again0 l_2 i_2 k2) (w64 (k_2 - 1)) ((out_2.set k_2.toNat x8).set (w64 (k_2 - 1)).toNat x9))
    else (nE again0 l_2 i_2 out_2)

def qE (out_100 : List Int) : Option ((List Int)) :=
    some out_100

def jB (l_0 : List Int) : Nat → Int → (List Int) → Option ((List Int))
  | 0, _, _ => none
  | k0 + 1, i_0, out_0 =>
    bif decide (i_0 < (l_0.length : Int)) then ((idx l_0 i_0).bind fun x2 =>
    (app 8 out_0 ([x2])).bind fun x3 =>
    jC (jB l_0 k0) l_0 i_0 BIG (w64 ((x3.length : Int) - 1)) x3)
    else (qE out_0)

def pA (l_0 : List Int) : Option ((List Int)) :=
    jB l_0 BIG 0 ([] : List Int)

def sP (out_100 : List Int) : Option ((List Int) × Int) :=
    (pA out_100).bind fun r14 =>
    some (r14, 0)

def gG (round_0 : Int) (place_0 : Int) (t_0 : aO) (d_0 : aQ) : Nat → Int → (List Int) → Option ((List Int) × Int)
  | 0, _, _ => none
  | k0 + 1, s_0, out_0 =>
    bif decide (s_0 < (d_0.Slots.length : Int)) then ((idx d_0.Slots s_0).bind fun x6 =>
    (bif !decide (x6 = (-1)) then ((chk (decide (0 ≤ (IntKind.u64.wrap (w64 (round_0 + 1)))))).bind fun u7 =>
    some (decide ((s_0.fdiv (2 ^ (min (IntKind.u64.wrap (w64 (round_0 + 1))).toNat 64))) = place_0))) else (some false)).bind fun b8 =>
    (bif b8 then ((nY t_0 d_0 s_0).bind fun r9 =>
    some (decide (round_0 < r9))) else (some false)).bind fun b10 =>
    bif b10 then ((idx d_0.Slots s_0).bind fun x11 =>
    (app 8 out_0 ([x11])).bind fun x12 =>
    (gG round_0 place_0 t_0 d_0 k0) (w64 (s_0 + 1)) x12)
    else ((gG round_0 place_0 t_0 d_0 k0) (w64 (s_0 + 1)) out_0))
    else (sP out_0)

def iO (t_0 : aO) (l_1 : List aE) (round_2 : Int) (place_3 : Int) : Option ((List Int) × Int) :=
    (gV t_0 l_1 round_2 place_3).bind fun r2 =>
    bif !decide (r2 = 0) then (some (([] : List Int), r2))
    else ((cQ t_0 l_1).bind fun r3 =>
    gG round_2 place_3 t_0 r3.1 BIG 0 ([] : List Int))

def sM (a0 : aO) (a1 : List aE) (a2 : Int) (a3 : Int) : Option ((List Int) × Int) := iO a0 a1 a2 a3

def rX (again0 : Int → Int → Option (Int × Int)) (n_101 : Int) (r_101 : Int) (t_101 : aO) (d_101 : aQ) : Option (Int × Int) :=
    again0 n_101 (w64 (r_101 + 1))

def oG (again0 : Int → Int → Option (Int × Int)) (n_102 : Int) (r_102 : Int) (t_102 : aO) (d_102 : aQ) : Option (Int × Int) :=
    rX again0 n_102 r_102 t_102 d_102

def iN (again0 : Int → Int → Option (Int × Int)) (r_2 : Int) (t_2 : aO) (d_2 : aQ) : Nat → Int → Int → Option (Int × Int)
  | 0, _, _ => none
  | k2 + 1, n_2, p_2 =>
    (gH t_2 r_2).bind fun r5 =>
    bif decide (p_2 < r5) then ((idx d_2.Must r_2).bind fun x6 =>
    (idx x6 p_2).bind fun x7 =>
    bif decide (x7 = (-2)) then ((iN again0 r_2 t_2 d_2 k2) (w64 (n_2 + 1)) (w64 (p_2 + 1)))
    else ((iN again0 r_2 t_2 d_2 k2) n_2 (w64 (p_2 + 1))))
    else (oG again0 n_2 r_2 t_2 d_2)

def rW (n_100 : Int) : Option (Int × Int) :=
    some (n_100, 0)

def fA (t_0 : aO) (d_0 : aQ) : Nat → Int → Int → Option (Int × Int)
  | 0, _, _ => none
  | k0 + 1, n_0, r_0 =>
    bif decide (r_0 < t_0.Rounds) then (iN (fA t_0 d_0 k0) r_0 t_0 d_0 BIG n_0 0)
    else (rW n_0)

def kI (t_0 : aO) (l_1 : List aE) : Option (Int × Int) :=
    (eF t_0 l_1).bind fun r2 =>
    bif !decide (r2 = 0) then (some (0, r2))
    else ((cQ t_0 l_1).bind fun r3 =>
    fA t_0 r3.1 BIG 0 0)

def lA (a0 : aO) (a1 : List aE) : Option (Int × Int) := kI a0 a1

def rY : Option Int :=
    some (-1)

def kE (player_0 : Int) (d_0 : aQ) : Nat → Int → Option Int
  | 0, _ => none
  | k0 + 1, s_0 =>
    bif decide (s_0 < (d_0.Slots.length : Int)) then ((idx d_0.Slots s_0).bind fun x2 =>
    bif decide (x2 = player_0) then (some s_0)
    else ((kE player_0 d_0 k0) (w64 (s_0 + 1))))
    else (rY)

def qD (d_0 : aQ) (player_1 : Int) : Option Int :=
    kE player_1 d_0 BIG 0

def nU (n_100 : Int) : Option Int :=
    some n_100

def jN (slot_0 : Int) (t_0 : aO) (d_0 : aQ) : Nat → Int → Option Int
  | 0, _ => none
  | k0 + 1, n_0 =>
    (bif decide (n_0 < t_0.Rounds) then ((idx d_0.Must n_0).bind fun x3 =>
    (chk (decide (0 ≤ (IntKind.u64.wrap (w64 (n_0 + 1)))))).bind fun u4 =>
    (idx x3 (slot_0.fdiv (2 ^ (min (IntKind.u64.wrap (w64 (n_0 + 1))).toNat 64)))).bind fun x5 =>
    (idx d_0.Slots slot_0).bind fun x6 =>
    some (decide (x5 = x6))) else (some false)).bind fun b7 =>
    bif b7 then ((jN slot_0 t_0 d_0 k0) (w64 (n_0 + 1)))
    else (nU n_0)

def pM (t_0 : aO) (d_1 : aQ) (slot_2 : Int) : Option Int :=
    jN slot_2 t_0 d_1 BIG 0

def iQ (t_0 : aO) (l_1 : List aE) (player_2 : Int) : Option (dN × Int) :=
    (eF t_0 l_1).bind fun r3 =>
    bif !decide (r3 = 0) then (some ((dN.mk 0 0), r3))
    else ((dS player_2 0 999).bind fun r4 =>
    bif !r4 then (some ((dN.mk 0 0), 1))
    else ((cQ t_0 l_1).bind fun r5 =>
    (qD r5.1 player_2).bind fun r7 =>
    bif decide (r7 < 0) then (some ((dN.mk 0 0), 3))
    else ((pM t_0 r5.1 r7).bind fun r8 =>
    (nY t_0 r5.1 r7).bind fun r9 =>
    some ((dN.mk r8 r9), 0))))

def oY (a0 : aO) (a1 : List aE) (a2 : Int) : Option (dN × Int) := iQ a0 a1 a2

def jS : Option Bool :=
    (oE).bind fun r1 =>
    (lU r1.1 r1.2).bind fun r3 =>
    (sM r1.1 r1.2 2 0).bind fun r4 =>
    (lA r1.1 r1.2).bind fun r5 =>
    (oY r1.1 r1.2 2).bind fun r6 =>
    (bif decide (r3.2 = 0) then (some (decide (r4.2 = 0))) else (some false)).bind fun b8 =>
    (bif b8 then (some (decide (r5.2 = 0))) else (some false)).bind fun b9 =>
    (bif b9 then (some (decide (r6.2 = 0))) else (some false)).bind fun b10 =>
    (bif b10 then (some (decide ((r3.1.length : Int) = 7))) else (some false)).bind fun b11 =>
    (bif b11 then ((idx r3.1 4).bind fun x12 =>
    some (decide (x12 = (bA.mk 1 0 1 2)))) else (some false)).bind fun b13 =>
    (bif b13 then ((idx r3.1 6).bind fun x14 =>
    some (decide (x14 = (bA.mk 2 0 2 (-2))))) else (some false)).bind fun b15 =>
    (bif b15 then ((nS r4.1 ([2, 5, 7, 8])).bind fun r16 =>
    some r16) else (some false)).bind fun b17 =>
    (bif b17 then (some (decide (r5.1 = 3))) else (some false)).bind fun b18 =>
    (bif b18 then (some (decide (r6.1 = (dN.mk 2 3)))) else (some false)).bind fun b19 =>
    some b19

def sR (m_100 : Int) : Option Int :=
    some m_100

def kS (x_0 : List Int) : Nat → Int → Int → Option Int
  | 0, _, _ => none
  | k0 + 1, m_0, i_0 =>
    bif decide (i_0 < (x_0.length : Int)) then ((idx x_0 i_0).bind fun x2 =>
    (kS x_0 k0) (min m_0 x2) (w64 (i_0 + 1)))
    else (sR m_0)

def vB (x_0 : List Int) : Option Int :=
    bif decide ((x_0.length : Int) < 1) then (none)
    else ((idx x_0 0).bind fun x1 =>
    kS x_0 BIG x1 1)

def nA (a0 : aO) (a1 : List aE) (a2 : Int) (a3 : Int) : Option (Int × Int) := gI a0 a1 a2 a3

def jR (t_0 : aO) (l_1 : List aE) : Option Bool :=
    (mK t_0 l_1).bind fun r2 =>
    (bif !r2 then ((eF t_0 l_1).bind fun r3 =>
    some (decide (r3 = 0))) else (some false)).bind fun b4 =>
    some b4

def oZ (bouts_100 : List bA) (winners_100 : List Int) : Option ((List bA) × (List Int) × Bool) :=
    some (bouts_100, winners_100, true)

def fL (l_0 : List aE) (t_0 : aO) : Nat → (List bA) → Int → (List Int) → Option ((List bA) × (List Int) × Bool)
  | 0, _, _, _ => none
  | k0 + 1, bouts_0, i_0, winners_0 =>
    bif decide (i_0 < (bouts_0.length : Int)) then ((idx bouts_0 i_0).bind fun x6 =>
    (idx bouts_0 i_0).bind fun x7 =>
    (nA t_0 l_0 x6.Round x7.Place).bind fun r8 =>
    bif decide (r8.2 = 3) then ((app 8 winners_0 ([(-2)])).bind fun x9 =>
    (fL l_0 t_0 k0) bouts_0 (w64 (i_0 + 1)) x9)
    else (bif !decide (r8.2 = 0) then (some (([] : List bA), ([] : List Int), false))
    else ((app 8 winners_0 ([r8.1])).bind fun x12 =>
    (fL l_0 t_0 k0) bouts_0 (w64 (i_0 + 1)) x12)))
    else (oZ bouts_0 winners_0)

def mL (t_0 : aO) (l_1 : List aE) : Option ((List bA) × (List Int) × Bool) :=
    (lU t_0 l_1).bind fun r3 =>
    (bif !decide (r3.2 = 0) then (some true) else (some (!decide ((r3.1.length : Int) = (w64 ((t_0.Slots.length : Int) - 1)))))).bind fun b4 =>
    bif b4 then (some (([] : List bA), ([] : List Int), false))
    else (fL l_1 t_0 BIG r3.1 0 ([] : List Int))

def lQ : Option Bool :=
    some true

def eV (a_0 : List bA) (b_0 : List bA) : Nat → Int → Option Bool
  | 0, _ => none
  | k0 + 1, i_0 =>
    bif decide (i_0 < (a_0.length : Int)) then ((idx a_0 i_0).bind fun x1 =>
    (idx b_0 i_0).bind fun x2 =>
    bif !decide (x1 = x2) then (some false)
    else ((eV a_0 b_0 k0) (w64 (i_0 + 1))))
    else (lQ)

def jA (a_0 : List bA) (b_1 : List bA) : Option Bool :=
    bif !decide ((a_0.length : Int) = (b_1.length : Int)) then (some false)
    else (eV a_0 b_1 BIG 0)

def qU (out_100 : List bA) : Option ((List bA) × Int) :=
    some (out_100, 0)

def fI (allv_0 : List bA) (d_0 : aQ) : Nat → Int → (List bA) → Option ((List bA) × Int)
  | 0, _, _ => none
  | k0 + 1, i_0, out_0 =>
    bif decide (i_0 < (allv_0.length : Int)) then ((idx allv_0 i_0).bind fun x7 =>
    (bif decide (0 ≤ x7.One) then ((idx allv_0 i_0).bind fun x8 =>
    some (decide (0 ≤ x8.Two))) else (some false)).bind fun b9 =>
    (bif b9 then ((idx allv_0 i_0).bind fun x10 =>
    (idx d_0.Must x10.Round).bind fun x11 =>
    (idx allv_0 i_0).bind fun x12 =>
    (idx x11 x12.Place).bind fun x13 =>
    some (decide (x13 = (-2)))) else (some false)).bind fun b14 =>
    bif b14 then ((idx allv_0 i_0).bind fun x15 =>
    (app 32 out_0 ([x15])).bind fun x16 =>
    (fI allv_0 d_0 k0) (w64 (i_0 + 1)) x16)
    else ((fI allv_0 d_0 k0) (w64 (i_0 + 1)) out_0))
    else (qU out_0)

def jU (t_0 : aO) (l_1 : List aE) : Option ((List bA) × Int) :=
    (eF t_0 l_1).bind fun r2 =>
    bif !decide (r2 = 0) then (some (([] : List bA), r2))
    else ((cQ t_0 l_1).bind fun r3 =>
    (lE t_0 r3.1).bind fun r5 =>
    fI r5 r3.1 BIG 0 ([] : List bA))

end Go.Am
