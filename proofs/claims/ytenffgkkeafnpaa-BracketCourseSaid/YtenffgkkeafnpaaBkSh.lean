/- Shallow functions, printed by program. -/
import Derived.Test.YtenffgkkeafnpaaBrSh
import Derived.Test.YtenffgkkeafnpaaAmSort
namespace Go.Am

structure dP where
  Low : Int
  High : Int
  deriving DecidableEq, Inhabited
def dO (x : dP) : List D := [.lit (.int .i64 x.Low), .lit (.int .i64 x.High)]

def mY (t_0 : aT) (l_1 : List aI) : Option Bool :=
    (bif decide (100 < (t_0.Slots.length : Int)) then (some true) else (some (decide (100 < (l_1.length : Int))))).bind fun b2 =>
    some b2

def oM : Option (aT × (List aI)) :=
    some ((aT.mk 3 ([1, (-1), 2, 3, 4, 5, 6, 7])), [(aI.mk 1 1 0 2 0), (aI.mk 3 0 3 7 0), (aI.mk 5 0 4 8 4)])

def nZ (d_100 : bI) : Option Int :=
    some d_100.Tree.Rounds

def gS (d_0 : bI) (slot_0 : Int) (t12_0 : Int) : Nat → Int → Option Int
  | 0, _ => none
  | k0 + 1, t13_0 =>
    bif decide (t13_0 < t12_0) then ((kN t13_0 slot_0).bind fun r1 =>
    (bif cY r1 d_0.won then ((idx d_0.players slot_0).bind fun x2 =>
    some (!decide ((cN r1 0 d_0.won) = x2))) else (some false)).bind fun b3 =>
    bif b3 then (some t13_0)
    else ((gS d_0 slot_0 t12_0 k0) (w64 (t13_0 + 1))))
    else (nZ d_0)

def kF (d_0 : bI) (slot_1 : Int) : Option Int :=
    gS d_0 slot_1 d_0.Tree.Rounds BIG 0

def slices_Sort_int (x : List Int) : Option (List Int) := if x.length < 4611686018427387904 then some (fW x) else none

def rS (againQ : ((List Int) × Int) → Prop) (out_100 : List Int) : Prop :=
    nb (slices_Sort_int out_100) fun r14 =>
    againQ (r14, 0)

def iE (againQ : ((List Int) × Int) → Prop) (round_0 : Int) (d_0 : Option bI) (t31_0 : List Int) (t32_0 : Int) (m_0 : aF) : Nat → Int → (List Int) → Prop
  | 0, _, _ => False
  | k0 + 1, t33_0, out_0 =>
    bif decide (t33_0 < t32_0) then (nb (idx t31_0 t33_0) fun x6 =>
    nb (d_0) fun x7 =>
    nb (bif !decide (x6 = (-1)) then ((kN round_0 t33_0).bind fun r8 =>
    some (decide (r8 = m_0))) else (some false)) fun b9 =>
    nb (bif b9 then ((kF x7 t33_0).bind fun r10 =>
    some (decide (round_0 < r10))) else (some false)) fun b11 =>
    bif b11 then (nb (app 8 out_0 ([x6])) fun x12 =>
    (iE againQ round_0 d_0 t31_0 t32_0 m_0 k0) (w64 (t33_0 + 1)) x12)
    else ((iE againQ round_0 d_0 t31_0 t32_0 m_0 k0) (w64 (t33_0 + 1)) out_0))
    else (rS againQ out_0)

def pM (t_0 : aT) (l_1 : List aI) (round_2 : Int) (place_3 : Int) (Q : ((List Int) × Int) → Prop) : Prop :=
    mE t_0 l_1 round_2 place_3 fun r2 =>
    bif !decide (r2.2.2 = 0) then (Q (([] : List Int), r2.2.2))
    else (nb (r2.1) fun x5 =>
    iE Q round_2 r2.1 x5.players (x5.players.length : Int) r2.2.1 BIG 0 ([] : List Int))

def oL (t_0 : aT) (l_1 : List aI) (Q : (Int × Int) → Prop) : Prop :=
    iQ t_0 l_1 fun r2 =>
    bif !decide (r2.2 = 0) then (Q (0, r2.2))
    else (nb (r2.1) fun x3 =>
    nb (r2.1) fun x4 =>
    Q (w64 ((w64 ((x3.Tree.Slots.length : Int) - 1)) - (((x4.won.map fun p : aF × Int => ((fun a : aF => Value.agg ((aN a).map bQ).toArray) p.1, aO p.2))).length : Int)), 0))

def rT (againQ : ((Option bI) × (List Int) × Int) → Prop) (d_100 : Option bI) (slots_100 : List Int) : Prop :=
    againQ (d_100, slots_100, 0)

def kH (againQ : ((Option bI) × (List Int) × Int) → Prop) (t20_0 : List Int) (t21_0 : Int) : Nat → (Option bI) → Int → (List Int) → Prop
  | 0, _, _, _ => False
  | k0 + 1, d_0, t22_0, slots_0 =>
    bif decide (t22_0 < t21_0) then (nb (idx t20_0 t22_0) fun x5 =>
    nb (eP x5 0 999) fun r6 =>
    bif !r6 then (againQ ((none : Option bI), ([] : List Int), 1))
    else (nb (d_0) fun x8 =>
    nb (fL x8.players x5) fun r9 =>
    nb (app 8 slots_0 ([r9])) fun x10 =>
    (kH againQ t20_0 t21_0 k0) d_0 (w64 (t22_0 + 1)) x10))
    else (rT againQ d_0 slots_0)

def mK (t_0 : aT) (l_1 : List aI) (players_2 : List Int) (Q : ((Option bI) × (List Int) × Int) → Prop) : Prop :=
    iQ t_0 l_1 fun r3 =>
    bif !decide (r3.2 = 0) then (Q ((none : Option bI), ([] : List Int), r3.2))
    else (kH Q players_2 (players_2.length : Int) BIG r3.1 0 ([] : List Int))

def oA (d_100 : bI) : Option Int :=
    some d_100.Tree.Rounds

def gT (d_0 : bI) (slot_0 : Int) (t12_0 : Int) : Nat → Int → Option Int
  | 0, _ => none
  | k0 + 1, t13_0 =>
    bif decide (t13_0 < t12_0) then ((kN t13_0 slot_0).bind fun r1 =>
    (bif !(cY r1 d_0.won) then (some true) else ((idx d_0.players slot_0).bind fun x2 =>
    some (!decide ((cN r1 0 d_0.won) = x2)))).bind fun b3 =>
    bif b3 then (some t13_0)
    else ((gT d_0 slot_0 t12_0 k0) (w64 (t13_0 + 1))))
    else (oA d_0)

def lQ (d_0 : bI) (slot_1 : Int) : Option Int :=
    gT d_0 slot_1 d_0.Tree.Rounds BIG 0

def mD (t_0 : aT) (l_1 : List aI) (player_2 : Int) (Q : (dP × Int) → Prop) : Prop :=
    mK t_0 l_1 ([player_2]) fun r3 =>
    bif !decide (r3.2.2 = 0) then (Q ((dP.mk 0 0), r3.2.2))
    else (nb (idx r3.2.1 0) fun x4 =>
    bif decide (x4 < 0) then (Q ((dP.mk 0 0), 3))
    else (nb (r3.1) fun x5 =>
    nb (idx r3.2.1 0) fun x6 =>
    nb (lQ x5 x6) fun r7 =>
    nb (idx r3.2.1 0) fun x8 =>
    nb (kF x5 x8) fun r9 =>
    Q ((dP.mk r7 r9), 0)))

def pN : Option Bool :=
    some true

def kO (a_0 : List Int) (b_0 : List Int) : Nat → Int → Option Bool
  | 0, _ => none
  | k0 + 1, i_0 =>
    bif decide (i_0 < (a_0.length : Int)) then ((idx a_0 i_0).bind fun x1 =>
    (idx b_0 i_0).bind fun x2 =>
    bif !decide (x1 = x2) then (some false)
    else ((kO a_0 b_0 k0) (w64 (i_0 + 1))))
    else (pN)

def oB (a_0 : List Int) (b_1 : List Int) : Option Bool :=
    bif !decide ((a_0.length : Int) = (b_1.length : Int)) then (some false)
    else (kO a_0 b_1 BIG 0)

def mF (a0 : aT) (a1 : List aI) : Option ((List bS) × Int) := kK a0 a1

def oR (n_100 : Int) : Option Int :=
    some n_100

def kR (slot_0 : Int) (t_0 : aT) (d_0 : aW) : Nat → Int → Option Int
  | 0, _ => none
  | k0 + 1, n_0 =>
    (bif decide (n_0 < t_0.Rounds) then ((idx d_0.Must n_0).bind fun x3 =>
    (chk (decide (0 ≤ (IntKind.u64.wrap (w64 (n_0 + 1)))))).bind fun u4 =>
    (idx x3 (slot_0.fdiv (2 ^ (min (IntKind.u64.wrap (w64 (n_0 + 1))).toNat 64)))).bind fun x5 =>
    (bif decide (x5 = (-2)) then (some true) else ((idx d_0.Must n_0).bind fun x6 =>
    (chk (decide (0 ≤ (IntKind.u64.wrap (w64 (n_0 + 1)))))).bind fun u7 =>
    (idx x6 (slot_0.fdiv (2 ^ (min (IntKind.u64.wrap (w64 (n_0 + 1))).toNat 64)))).bind fun x8 =>
    (idx d_0.Slots slot_0).bind fun x9 =>
    some (decide (x8 = x9)))).bind fun b10 =>
    some b10) else (some false)).bind fun b11 =>
    bif b11 then ((kR slot_0 t_0 d_0 k0) (w64 (n_0 + 1)))
    else (oR n_0)

def oH (t_0 : aT) (d_1 : aW) (slot_2 : Int) : Option Int :=
    kR slot_2 t_0 d_1 BIG 0

def qX (again0 : Int → (List Int) → Option ((List Int))) (l_101 : List Int) (i_101 : Int) (out_101 : List Int) : Option ((List Int)) :=
    again0 (w64 (i_101 + 1)) out_101

def nR (again0 : Int → (List Int) → Option ((List Int))) (l_102 : List Int) (i_102 : Int) (out_102 : List Int) : Option ((List Int)) :=
    qX again0 l_102 i_102 out_102

def jO (again0 : Int → (List Int) → Option ((List Int))) (l_2 : List Int) (i_2 : Int) : Nat → Int → (List Int) → Option ((List Int))
  | 0, _, _ => none
  | k2 + 1, k_2, out_2 =>
    (bif decide (0 < k_2) then ((idx out_2 k_2).bind fun x5 =>
    (idx out_2 (w64 (k_2 - 1))).bind fun x6 =>
    some (decide (x5 < x6))) else (some false)).bind fun b7 =>
    bif b7 then ((idx out_2 (w64 (k_2 - 1))).bind fun x8 =>
    (idx out_2 k_2).bind fun x9 =>
    (idx out_2 k_2).bind fun x10 =>
    (idx (out_2.set k_2.toNat x8) (w64 (k_2 - 1))).bind fun x11 =>
    (jO again0 l_2 i_2 k2) (w64 (k_2 - 1)) ((out_2.set k_2.toNat x8).set (w64 (k_2 - 1)).toNat x9))
    else (nR again0 l_2 i_2 out_2)

def qW (out_100 : List Int) : Option ((List Int)) :=
    some out_100

def jN (l_0 : List Int) : Nat → Int → (List Int) → Option ((List Int))
  | 0, _, _ => none
  | k0 + 1, i_0, out_0 =>
    bif decide (i_0 < (l_0.length : Int)) then ((idx l_0 i_0).bind fun x2 =>
    (app 8 out_0 ([x2])).bind fun x3 =>
    jO (jN l_0 k0) l_0 i_0 BIG (w64 ((x3.length : Int) - 1)) x3)
    else (qW out_0)

def pL (l_0 : List Int) : Option ((List Int)) :=
    jN l_0 BIG 0 ([] : List Int)

def tE (out_100 : List Int) : Option ((List Int) × Int) :=
    (pL out_100).bind fun r14 =>
    some (r14, 0)

def gQ (round_0 : Int) (place_0 : Int) (t_0 : aT) (d_0 : aW) : Nat → Int → (List Int) → Option ((List Int) × Int)
  | 0, _, _ => none
  | k0 + 1, s_0, out_0 =>
    bif decide (s_0 < (d_0.Slots.length : Int)) then ((idx d_0.Slots s_0).bind fun x6 =>
    (bif !decide (x6 = (-1)) then ((chk (decide (0 ≤ (IntKind.u64.wrap (w64 (round_0 + 1)))))).bind fun u7 =>
    some (decide ((s_0.fdiv (2 ^ (min (IntKind.u64.wrap (w64 (round_0 + 1))).toNat 64))) = place_0))) else (some false)).bind fun b8 =>
    (bif b8 then ((oH t_0 d_0 s_0).bind fun r9 =>
    some (decide (round_0 < r9))) else (some false)).bind fun b10 =>
    bif b10 then ((idx d_0.Slots s_0).bind fun x11 =>
    (app 8 out_0 ([x11])).bind fun x12 =>
    (gQ round_0 place_0 t_0 d_0 k0) (w64 (s_0 + 1)) x12)
    else ((gQ round_0 place_0 t_0 d_0 k0) (w64 (s_0 + 1)) out_0))
    else (tE out_0)

def iX (t_0 : aT) (l_1 : List aI) (round_2 : Int) (place_3 : Int) : Option ((List Int) × Int) :=
    (iB t_0 l_1 round_2 place_3).bind fun r2 =>
    bif !decide (r2 = 0) then (some (([] : List Int), r2))
    else ((dA t_0 l_1).bind fun r3 =>
    gQ round_2 place_3 t_0 r3.1 BIG 0 ([] : List Int))

def jV (a0 : aT) (a1 : List aI) (a2 : Int) (a3 : Int) : Option ((List Int) × Int) := iX a0 a1 a2 a3

def sM (again0 : Int → Int → Option (Int × Int)) (n_101 : Int) (r_101 : Int) (t_101 : aT) (d_101 : aW) : Option (Int × Int) :=
    again0 n_101 (w64 (r_101 + 1))

def oO (again0 : Int → Int → Option (Int × Int)) (n_102 : Int) (r_102 : Int) (t_102 : aT) (d_102 : aW) : Option (Int × Int) :=
    sM again0 n_102 r_102 t_102 d_102

def iW (again0 : Int → Int → Option (Int × Int)) (r_2 : Int) (t_2 : aT) (d_2 : aW) : Nat → Int → Int → Option (Int × Int)
  | 0, _, _ => none
  | k2 + 1, n_2, p_2 =>
    (fB t_2 r_2).bind fun r5 =>
    bif decide (p_2 < r5) then ((idx d_2.Must r_2).bind fun x6 =>
    (idx x6 p_2).bind fun x7 =>
    bif decide (x7 = (-2)) then ((iW again0 r_2 t_2 d_2 k2) (w64 (n_2 + 1)) (w64 (p_2 + 1)))
    else ((iW again0 r_2 t_2 d_2 k2) n_2 (w64 (p_2 + 1))))
    else (oO again0 n_2 r_2 t_2 d_2)

def sL (n_100 : Int) : Option (Int × Int) :=
    some (n_100, 0)

def fH (t_0 : aT) (d_0 : aW) : Nat → Int → Int → Option (Int × Int)
  | 0, _, _ => none
  | k0 + 1, n_0, r_0 =>
    bif decide (r_0 < t_0.Rounds) then (iW (fH t_0 d_0 k0) r_0 t_0 d_0 BIG n_0 0)
    else (sL n_0)

def kY (t_0 : aT) (l_1 : List aI) : Option (Int × Int) :=
    (eT t_0 l_1).bind fun r2 =>
    bif !decide (r2 = 0) then (some (0, r2))
    else ((dA t_0 l_1).bind fun r3 =>
    fH t_0 r3.1 BIG 0 0)

def rU (a0 : aT) (a1 : List aI) : Option (Int × Int) := kY a0 a1

def sN : Option Int :=
    some (-1)

def kT (player_0 : Int) (d_0 : aW) : Nat → Int → Option Int
  | 0, _ => none
  | k0 + 1, s_0 =>
    bif decide (s_0 < (d_0.Slots.length : Int)) then ((idx d_0.Slots s_0).bind fun x2 =>
    bif decide (x2 = player_0) then (some s_0)
    else ((kT player_0 d_0 k0) (w64 (s_0 + 1))))
    else (sN)

def qV (d_0 : aW) (player_1 : Int) : Option Int :=
    kT player_1 d_0 BIG 0

def oD (n_100 : Int) : Option Int :=
    some n_100

def kD (slot_0 : Int) (t_0 : aT) (d_0 : aW) : Nat → Int → Option Int
  | 0, _ => none
  | k0 + 1, n_0 =>
    (bif decide (n_0 < t_0.Rounds) then ((idx d_0.Must n_0).bind fun x3 =>
    (chk (decide (0 ≤ (IntKind.u64.wrap (w64 (n_0 + 1)))))).bind fun u4 =>
    (idx x3 (slot_0.fdiv (2 ^ (min (IntKind.u64.wrap (w64 (n_0 + 1))).toNat 64)))).bind fun x5 =>
    (idx d_0.Slots slot_0).bind fun x6 =>
    some (decide (x5 = x6))) else (some false)).bind fun b7 =>
    bif b7 then ((kD slot_0 t_0 d_0 k0) (w64 (n_0 + 1)))
    else (oD n_0)

def qC (t_0 : aT) (d_1 : aW) (slot_2 : Int) : Option Int :=
    kD slot_2 t_0 d_1 BIG 0

def iZ (t_0 : aT) (l_1 : List aI) (player_2 : Int) : Option (dP × Int) :=
    (eT t_0 l_1).bind fun r3 =>
    bif !decide (r3 = 0) then (some ((dP.mk 0 0), r3))
    else ((eA player_2 0 999).bind fun r4 =>
    bif !r4 then (some ((dP.mk 0 0), 1))
    else ((dA t_0 l_1).bind fun r5 =>
    (qV r5.1 player_2).bind fun r7 =>
    bif decide (r7 < 0) then (some ((dP.mk 0 0), 3))
    else ((qC t_0 r5.1 r7).bind fun r8 =>
    (oH t_0 r5.1 r7).bind fun r9 =>
    some ((dP.mk r8 r9), 0))))

def lH (a0 : aT) (a1 : List aI) (a2 : Int) : Option (dP × Int) := iZ a0 a1 a2

def kJ : Option Bool :=
    (oM).bind fun r1 =>
    (mF r1.1 r1.2).bind fun r3 =>
    (jV r1.1 r1.2 2 0).bind fun r4 =>
    (rU r1.1 r1.2).bind fun r5 =>
    (lH r1.1 r1.2 2).bind fun r6 =>
    (bif decide (r3.2 = 0) then (some (decide (r4.2 = 0))) else (some false)).bind fun b8 =>
    (bif b8 then (some (decide (r5.2 = 0))) else (some false)).bind fun b9 =>
    (bif b9 then (some (decide (r6.2 = 0))) else (some false)).bind fun b10 =>
    (bif b10 then (some (decide ((r3.1.length : Int) = 7))) else (some false)).bind fun b11 =>
    (bif b11 then ((idx r3.1 4).bind fun x12 =>
    some (decide (x12 = (bS.mk 1 0 1 2)))) else (some false)).bind fun b13 =>
    (bif b13 then ((idx r3.1 6).bind fun x14 =>
    some (decide (x14 = (bS.mk 2 0 2 (-2))))) else (some false)).bind fun b15 =>
    (bif b15 then ((oB r4.1 ([2, 5, 7, 8])).bind fun r16 =>
    some r16) else (some false)).bind fun b17 =>
    (bif b17 then (some (decide (r5.1 = 3))) else (some false)).bind fun b18 =>
    (bif b18 then (some (decide (r6.1 = (dP.mk 2 3)))) else (some false)).bind fun b19 =>
    some b19

def nM (a0 : aT) (a1 : List aI) (a2 : Int) (a3 : Int) : Option (Int × Int) := gR a0 a1 a2 a3

def kI (t_0 : aT) (l_1 : List aI) : Option Bool :=
    (mY t_0 l_1).bind fun r2 =>
    (bif !r2 then ((eT t_0 l_1).bind fun r3 =>
    some (decide (r3 = 0))) else (some false)).bind fun b4 =>
    some b4

def pK (bouts_100 : List bS) (winners_100 : List Int) : Option ((List bS) × (List Int) × Bool) :=
    some (bouts_100, winners_100, true)

def fS (l_0 : List aI) (t_0 : aT) : Nat → (List bS) → Int → (List Int) → Option ((List bS) × (List Int) × Bool)
  | 0, _, _, _ => none
  | k0 + 1, bouts_0, i_0, winners_0 =>
    bif decide (i_0 < (bouts_0.length : Int)) then ((idx bouts_0 i_0).bind fun x6 =>
    (idx bouts_0 i_0).bind fun x7 =>
    (nM t_0 l_0 x6.Round x7.Place).bind fun r8 =>
    bif decide (r8.2 = 3) then ((app 8 winners_0 ([(-2)])).bind fun x9 =>
    (fS l_0 t_0 k0) bouts_0 (w64 (i_0 + 1)) x9)
    else (bif !decide (r8.2 = 0) then (some (([] : List bS), ([] : List Int), false))
    else ((app 8 winners_0 ([r8.1])).bind fun x12 =>
    (fS l_0 t_0 k0) bouts_0 (w64 (i_0 + 1)) x12)))
    else (pK bouts_0 winners_0)

def mZ (t_0 : aT) (l_1 : List aI) : Option ((List bS) × (List Int) × Bool) :=
    (mF t_0 l_1).bind fun r3 =>
    (bif !decide (r3.2 = 0) then (some true) else (some (!decide ((r3.1.length : Int) = (w64 ((t_0.Slots.length : Int) - 1)))))).bind fun b4 =>
    bif b4 then (some (([] : List bS), ([] : List Int), false))
    else (fS l_1 t_0 BIG r3.1 0 ([] : List Int))

def mM (again0 : (List Int) → Int → Option Bool) (course_101 : List (List Int)) (before_101 : List Int) (r_101 : Int) (t_101 : aT) : Option Bool :=
    again0 before_101 (w64 (r_101 + 1))

def mN (again0 : (List Int) → Int → Option Bool) (course_102 : List (List Int)) (r_102 : Int) (t_102 : aT) : Option Bool :=
    (idx course_102 r_102).bind fun x12 =>
    mM again0 course_102 x12 r_102 t_102

def fK (again0 : (List Int) → Int → Option Bool) (course_2 : List (List Int)) (before_2 : List Int) (r_2 : Int) (t_2 : aT) : Nat → Int → Option Bool
  | 0, _ => none
  | k2 + 1, p_2 =>
    (fB t_2 r_2).bind fun r5 =>
    bif decide (p_2 < r5) then ((idx before_2 (w64 (2 * p_2))).bind fun x6 =>
    (idx before_2 (w64 ((w64 (2 * p_2)) + 1))).bind fun x7 =>
    (idx course_2 r_2).bind fun x8 =>
    (idx x8 p_2).bind fun x9 =>
    (bif decide (x9 = (-1)) then (some true) else ((bif !decide (x9 = x6) then (some (!decide (x9 = x7))) else (some false)).bind fun b10 =>
    some b10)).bind fun b11 =>
    bif b11 then (some false)
    else ((fK again0 course_2 before_2 r_2 t_2 k2) (w64 (p_2 + 1))))
    else (mN again0 course_2 r_2 t_2)

def mL : Option Bool :=
    some true

def eG (course_0 : List (List Int)) (t_0 : aT) : Nat → (List Int) → Int → Option Bool
  | 0, _, _ => none
  | k0 + 1, before_0, r_0 =>
    bif decide (r_0 < t_0.Rounds) then ((idx course_0 r_0).bind fun x3 =>
    (fB t_0 r_0).bind fun r4 =>
    bif !decide ((x3.length : Int) = r4) then (some false)
    else (fK (eG course_0 t_0 k0) course_0 before_0 r_0 t_0 BIG 0))
    else (mL)

def gU (t_0 : aT) (slots_1 : List Int) (course_2 : List (List Int)) : Option Bool :=
    (bif !decide ((course_2.length : Int) = t_0.Rounds) then (some true) else (some (!decide ((slots_1.length : Int) = (t_0.Slots.length : Int))))).bind fun b2 =>
    bif b2 then (some false)
    else (eG course_2 t_0 BIG slots_1 0)

def nQ : Option Bool :=
    some true

def gJ (l_0 : List aI) (course_0 : List (List Int)) : Nat → Int → Option Bool
  | 0, _ => none
  | k0 + 1, i_0 =>
    bif decide (i_0 < (l_0.length : Int)) then ((idx l_0 i_0).bind fun x2 =>
    (bif !decide (x2.Kind = 5) then ((idx l_0 i_0).bind fun x3 =>
    (idx course_0 x3.Round).bind fun x4 =>
    (idx l_0 i_0).bind fun x5 =>
    (idx x4 x5.Place).bind fun x6 =>
    (idx l_0 i_0).bind fun x7 =>
    some (!decide (x6 = x7.Player))) else (some false)).bind fun b8 =>
    bif b8 then (some false)
    else ((gJ l_0 course_0 k0) (w64 (i_0 + 1))))
    else (nQ)

def jU (t_0 : aT) (l_1 : List aI) (course_2 : List (List Int)) : Option Bool :=
    gJ l_1 course_2 BIG 0

def iL (again0 : Int → Option Bool) (l_101 : List aI) (course_101 : List (List Int)) (slots_101 : List Int) (bouts_101 : List bS) (winners_101 : List Int) (i_101 : Int) (t_101 : aT) : Option Bool :=
    again0 (w64 (i_101 + 1))

def iM (again0 : Int → Option Bool) (l_102 : List aI) (course_102 : List (List Int)) (slots_102 : List Int) (bouts_102 : List bS) (winners_102 : List Int) (i_102 : Int) (e_102 : Int) (found_102 : Bool) (t_102 : aT) : Option Bool :=
    (bif !decide (e_102 = 0) then (some true) else (some (!found_102))).bind fun b31 =>
    bif b31 then (some false)
    else (iL again0 l_102 course_102 slots_102 bouts_102 winners_102 i_102 t_102)

def cM (again0 : Int → Option Bool) (l_2 : List aI) (course_2 : List (List Int)) (slots_2 : List Int) (bouts_2 : List bS) (winners_2 : List Int) (i_2 : Int) (may_2 : List Int) (e_2 : Int) (t_2 : aT) (b_2 : bS) : Nat → Bool → Int → Option Bool
  | 0, _, _ => none
  | k2 + 1, found_2, k_2 =>
    bif decide (k_2 < (may_2.length : Int)) then ((bif found_2 then (some true) else ((idx may_2 k_2).bind fun x27 =>
    (idx course_2 b_2.Round).bind fun x28 =>
    (idx x28 b_2.Place).bind fun x29 =>
    some (decide (x27 = x29)))).bind fun b30 =>
    (cM again0 l_2 course_2 slots_2 bouts_2 winners_2 i_2 may_2 e_2 t_2 b_2 k2) b30 (w64 (k_2 + 1)))
    else (iM again0 l_2 course_2 slots_2 bouts_2 winners_2 i_2 e_2 found_2 t_2)

def eW (again4 : Int → Option Bool) (l_105 : List aI) (course_105 : List (List Int)) (slots_105 : List Int) (s_105 : Int) (t_105 : aT) : Option Bool :=
    again4 (w64 (s_105 + 1))

def fX (again4 : Int → Option Bool) (l_106 : List aI) (course_106 : List (List Int)) (slots_106 : List Int) (s_106 : Int) (n_106 : Int) (t_106 : aT) : Option Bool :=
    (idx slots_106 s_106).bind fun x50 =>
    (lH t_106 l_106 x50).bind fun r51 =>
    (bif !decide (r51.2 = 0) then (some true) else (some (decide (n_106 < r51.1.Low)))).bind fun b53 =>
    (bif b53 then (some true) else (some (decide (r51.1.High < n_106)))).bind fun b54 =>
    bif b54 then (some false)
    else (eW again4 l_106 course_106 slots_106 s_106 t_106)

def dY (again4 : Int → Option Bool) (l_6 : List aI) (course_6 : List (List Int)) (slots_6 : List Int) (s_6 : Int) (t_6 : aT) : Nat → Int → Option Bool
  | 0, _ => none
  | k6 + 1, n_6 =>
    (bif decide (n_6 < t_6.Rounds) then ((idx course_6 n_6).bind fun x45 =>
    (chk (decide (0 ≤ (IntKind.u64.wrap (w64 (n_6 + 1)))))).bind fun u46 =>
    (idx x45 (s_6.fdiv (2 ^ (min (IntKind.u64.wrap (w64 (n_6 + 1))).toNat 64)))).bind fun x47 =>
    (idx slots_6 s_6).bind fun x48 =>
    some (decide (x47 = x48))) else (some false)).bind fun b49 =>
    bif b49 then ((dY again4 l_6 course_6 slots_6 s_6 t_6 k6) (w64 (n_6 + 1)))
    else (fX again4 l_6 course_6 slots_6 s_6 n_6 t_6)

def kQ : Option Bool :=
    (kJ).bind fun r55 =>
    some r55

def cT (l_4 : List aI) (course_4 : List (List Int)) (slots_4 : List Int) (t_4 : aT) : Nat → Int → Option Bool
  | 0, _ => none
  | k4 + 1, s_4 =>
    bif decide (s_4 < (slots_4.length : Int)) then ((idx slots_4 s_4).bind fun x44 =>
    bif decide (x44 = (-1)) then (eW (cT l_4 course_4 slots_4 t_4 k4) l_4 course_4 slots_4 s_4 t_4)
    else (dY (cT l_4 course_4 slots_4 t_4 k4) l_4 course_4 slots_4 s_4 t_4 BIG 0))
    else (kQ)

def iK (l_100 : List aI) (course_100 : List (List Int)) (slots_100 : List Int) (t_100 : aT) : Option Bool :=
    cT l_100 course_100 slots_100 t_100 BIG 0

def cB (l_0 : List aI) (course_0 : List (List Int)) (slots_0 : List Int) (bouts_0 : List bS) (winners_0 : List Int) (t_0 : aT) : Nat → Int → Option Bool
  | 0, _ => none
  | k0 + 1, i_0 =>
    bif decide (i_0 < (bouts_0.length : Int)) then ((idx bouts_0 i_0).bind fun x12 =>
    bif decide (0 < x12.Round) then ((idx course_0 (w64 (x12.Round - 1))).bind fun x14 =>
    (bif !decide (x12.One = (-2)) then ((idx x14 (w64 (2 * x12.Place))).bind fun x15 =>
    some (!decide (x12.One = x15))) else (some false)).bind fun b16 =>
    (bif b16 then (some true) else ((bif !decide (x12.Two = (-2)) then ((idx x14 (w64 ((w64 (2 * x12.Place)) + 1))).bind fun x17 =>
    some (!decide (x12.Two = x17))) else (some false)).bind fun b18 =>
    some b18)).bind fun b19 =>
    (bif b19 then (some true) else ((idx winners_0 i_0).bind fun x20 =>
    (bif !decide (x20 = (-2)) then ((idx winners_0 i_0).bind fun x21 =>
    (idx course_0 x12.Round).bind fun x22 =>
    (idx x22 x12.Place).bind fun x23 =>
    some (!decide (x21 = x23))) else (some false)).bind fun b24 =>
    some b24)).bind fun b25 =>
    bif b25 then (some false)
    else ((jV t_0 l_0 x12.Round x12.Place).bind fun r26 =>
    cM (cB l_0 course_0 slots_0 bouts_0 winners_0 t_0 k0) l_0 course_0 slots_0 bouts_0 winners_0 i_0 r26.1 r26.2 t_0 x12 BIG false 0))
    else ((bif !decide (x12.One = (-2)) then ((idx slots_0 (w64 (2 * x12.Place))).bind fun x32 =>
    some (!decide (x12.One = x32))) else (some false)).bind fun b33 =>
    (bif b33 then (some true) else ((bif !decide (x12.Two = (-2)) then ((idx slots_0 (w64 ((w64 (2 * x12.Place)) + 1))).bind fun x34 =>
    some (!decide (x12.Two = x34))) else (some false)).bind fun b35 =>
    some b35)).bind fun b36 =>
    (bif b36 then (some true) else ((idx winners_0 i_0).bind fun x37 =>
    (bif !decide (x37 = (-2)) then ((idx winners_0 i_0).bind fun x38 =>
    (idx course_0 x12.Round).bind fun x39 =>
    (idx x39 x12.Place).bind fun x40 =>
    some (!decide (x38 = x40))) else (some false)).bind fun b41 =>
    some b41)).bind fun b42 =>
    bif b42 then (some false)
    else ((jV t_0 l_0 x12.Round x12.Place).bind fun r43 =>
    cM (cB l_0 course_0 slots_0 bouts_0 winners_0 t_0 k0) l_0 course_0 slots_0 bouts_0 winners_0 i_0 r43.1 r43.2 t_0 x12 BIG false 0)))
    else (iK l_0 course_0 slots_0 t_0)

def jM (t_0 : aT) (l_1 : List aI) (course_2 : List (List Int)) : Option Bool :=
    (kI t_0 l_1).bind fun r2 =>
    (bif !r2 then (some true) else (some (decide (20 < (course_2.length : Int))))).bind fun b3 =>
    bif b3 then ((kJ).bind fun r4 =>
    some r4)
    else ((iC t_0 l_1).bind fun r5 =>
    (bif !r5.2 then (some true) else ((gU t_0 r5.1 course_2).bind fun r6 =>
    some (!r6))).bind fun b7 =>
    (bif b7 then (some true) else ((jU t_0 l_1 course_2).bind fun r8 =>
    some (!r8))).bind fun b9 =>
    bif b9 then ((kJ).bind fun r10 =>
    some r10)
    else ((mZ t_0 l_1).bind fun r11 =>
    bif !r11.2.2 then (some false)
    else (cB l_1 course_2 r5.1 r11.1 r11.2.1 t_0 BIG 0)))

end Go.Am
