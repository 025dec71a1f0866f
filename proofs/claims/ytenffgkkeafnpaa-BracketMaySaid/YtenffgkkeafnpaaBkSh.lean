/- Shallow functions, printed by program. -/
import Derived.Test.YtenffgkkeafnpaaBrSh
import Derived.Test.YtenffgkkeafnpaaAmSort
namespace Go.Am

structure dH where
  Low : Int
  High : Int
  deriving DecidableEq, Inhabited
def eW (x : dH) : List D := [.lit (.int .i64 x.Low), .lit (.int .i64 x.High)]

structure eD where
  Round : Int
  Place : Int
  A : Int
  B : Int
  deriving DecidableEq, Inhabited
def fL (x : eD) : List D := [.lit (.int .i64 x.Round), .lit (.int .i64 x.Place), .lit (.int .i64 x.A), .lit (.int .i64 x.B)]

def rR (x : eD) : Prop := okI x.Round ∧ okI x.Place ∧ okI x.A ∧ okI x.B

def lS (t_0 : aO) (l_1 : List aD) : Option Bool :=
    (bif decide (100 < (t_0.Slots.length : Int)) then (some true) else (some (decide (100 < (l_1.length : Int))))).bind fun b2 =>
    some b2

def nJ : Option (aO × (List aD)) :=
    some ((aO.mk 3 ([1, (-1), 2, 3, 4, 5, 6, 7])), [(aD.mk 1 1 0 2 0), (aD.mk 3 0 3 7 0), (aD.mk 5 0 4 8 4)])

def mT (d_100 : aY) : Option Int :=
    some d_100.Tree.Rounds

def fX (d_0 : aY) (slot_0 : Int) (t12_0 : Int) : Nat → Int → Option Int
  | 0, _ => none
  | k0 + 1, t13_0 =>
    bif decide (t13_0 < t12_0) then ((jL t13_0 slot_0).bind fun r1 =>
    (bif cQ r1 d_0.won then ((idx d_0.players slot_0).bind fun x2 =>
    some (!decide ((cK r1 0 d_0.won) = x2))) else (some false)).bind fun b3 =>
    bif b3 then (some t13_0)
    else ((fX d_0 slot_0 t12_0 k0) (w64 (t13_0 + 1))))
    else (mT d_0)

def jC (d_0 : aY) (slot_1 : Int) : Option Int :=
    fX d_0 slot_1 d_0.Tree.Rounds BIG 0

def slices_Sort_int (x : List Int) : Option (List Int) := if x.length < 4611686018427387904 then some (eZ x) else none

def qC (againQ : ((List Int) × Int) → Prop) (out_100 : List Int) : Prop :=
    nb (slices_Sort_int out_100) fun r14 =>
    againQ (r14, 0)

def gP (againQ : ((List Int) × Int) → Prop) (round_0 : Int) (d_0 : Option aY) (t31_0 : List Int) (t32_0 : Int) (m_0 : aB) : Nat → Int → (List Int) → Prop
  | 0, _, _ => False
  | k0 + 1, t33_0, out_0 =>
    bif decide (t33_0 < t32_0) then (nb (idx t31_0 t33_0) fun x6 =>
    nb (d_0) fun x7 =>
    nb (bif !decide (x6 = (-1)) then ((jL round_0 t33_0).bind fun r8 =>
    some (decide (r8 = m_0))) else (some false)) fun b9 =>
    nb (bif b9 then ((jC x7 t33_0).bind fun r10 =>
    some (decide (round_0 < r10))) else (some false)) fun b11 =>
    bif b11 then (nb (app 8 out_0 ([x6])) fun x12 =>
    (gP againQ round_0 d_0 t31_0 t32_0 m_0 k0) (w64 (t33_0 + 1)) x12)
    else ((gP againQ round_0 d_0 t31_0 t32_0 m_0 k0) (w64 (t33_0 + 1)) out_0))
    else (qC againQ out_0)

def oF (t_0 : aO) (l_1 : List aD) (round_2 : Int) (place_3 : Int) (Q : ((List Int) × Int) → Prop) : Prop :=
    mE t_0 l_1 round_2 place_3 fun r2 =>
    bif !decide (r2.2.2 = 0) then (Q (([] : List Int), r2.2.2))
    else (nb (r2.1) fun x5 =>
    gP Q round_2 r2.1 x5.players (x5.players.length : Int) r2.2.1 BIG 0 ([] : List Int))

def nI (t_0 : aO) (l_1 : List aD) (Q : (Int × Int) → Prop) : Prop :=
    gK t_0 l_1 fun r2 =>
    bif !decide (r2.2 = 0) then (Q (0, r2.2))
    else (nb (r2.1) fun x3 =>
    nb (r2.1) fun x4 =>
    Q (w64 ((w64 ((x3.Tree.Slots.length : Int) - 1)) - (((x4.won.map fun p : aB × Int => ((fun a : aB => Value.agg ((aJ a).map bI).toArray) p.1, aP p.2))).length : Int)), 0))

def qD (againQ : ((Option aY) × (List Int) × Int) → Prop) (d_100 : Option aY) (slots_100 : List Int) : Prop :=
    againQ (d_100, slots_100, 0)

def jE (againQ : ((Option aY) × (List Int) × Int) → Prop) (t20_0 : List Int) (t21_0 : Int) : Nat → (Option aY) → Int → (List Int) → Prop
  | 0, _, _, _ => False
  | k0 + 1, d_0, t22_0, slots_0 =>
    bif decide (t22_0 < t21_0) then (nb (idx t20_0 t22_0) fun x5 =>
    nb (eC x5 0 999) fun r6 =>
    bif !r6 then (againQ ((none : Option aY), ([] : List Int), 1))
    else (nb (d_0) fun x8 =>
    nb (eY x8.players x5) fun r9 =>
    nb (app 8 slots_0 ([r9])) fun x10 =>
    (jE againQ t20_0 t21_0 k0) d_0 (w64 (t22_0 + 1)) x10))
    else (qD againQ d_0 slots_0)

def lH (t_0 : aO) (l_1 : List aD) (players_2 : List Int) (Q : ((Option aY) × (List Int) × Int) → Prop) : Prop :=
    gK t_0 l_1 fun r3 =>
    bif !decide (r3.2 = 0) then (Q ((none : Option aY), ([] : List Int), r3.2))
    else (jE Q players_2 (players_2.length : Int) BIG r3.1 0 ([] : List Int))

def mU (d_100 : aY) : Option Int :=
    some d_100.Tree.Rounds

def fY (d_0 : aY) (slot_0 : Int) (t12_0 : Int) : Nat → Int → Option Int
  | 0, _ => none
  | k0 + 1, t13_0 =>
    bif decide (t13_0 < t12_0) then ((jL t13_0 slot_0).bind fun r1 =>
    (bif !(cQ r1 d_0.won) then (some true) else ((idx d_0.players slot_0).bind fun x2 =>
    some (!decide ((cK r1 0 d_0.won) = x2)))).bind fun b3 =>
    bif b3 then (some t13_0)
    else ((fY d_0 slot_0 t12_0 k0) (w64 (t13_0 + 1))))
    else (mU d_0)

def kS (d_0 : aY) (slot_1 : Int) : Option Int :=
    fY d_0 slot_1 d_0.Tree.Rounds BIG 0

def lC (t_0 : aO) (l_1 : List aD) (player_2 : Int) (Q : (dH × Int) → Prop) : Prop :=
    lH t_0 l_1 ([player_2]) fun r3 =>
    bif !decide (r3.2.2 = 0) then (Q ((dH.mk 0 0), r3.2.2))
    else (nb (idx r3.2.1 0) fun x4 =>
    bif decide (x4 < 0) then (Q ((dH.mk 0 0), 3))
    else (nb (r3.1) fun x5 =>
    nb (idx r3.2.1 0) fun x6 =>
    nb (kS x5 x6) fun r7 =>
    nb (idx r3.2.1 0) fun x8 =>
    nb (jC x5 x8) fun r9 =>
    Q ((dH.mk r7 r9), 0)))

def oG : Option Bool :=
    some true

def jM (a_0 : List Int) (b_0 : List Int) : Nat → Int → Option Bool
  | 0, _ => none
  | k0 + 1, i_0 =>
    bif decide (i_0 < (a_0.length : Int)) then ((idx a_0 i_0).bind fun x1 =>
    (idx b_0 i_0).bind fun x2 =>
    bif !decide (x1 = x2) then (some false)
    else ((jM a_0 b_0 k0) (w64 (i_0 + 1))))
    else (oG)

def mV (a_0 : List Int) (b_1 : List Int) : Option Bool :=
    bif !decide ((a_0.length : Int) = (b_1.length : Int)) then (some false)
    else (jM a_0 b_1 BIG 0)

def pH (a0 : aO) (a1 : List aD) : Option ((List bY) × Int) := jH a0 a1

def nO (n_100 : Int) : Option Int :=
    some n_100

def jQ (slot_0 : Int) (t_0 : aO) (d_0 : aQ) : Nat → Int → Option Int
  | 0, _ => none
  | k0 + 1, n_0 =>
    (bif decide (n_0 < t_0.Rounds) then ((idx d_0.Must n_0).bind fun x3 =>
    (chk (decide (0 ≤ (IntKind.u64.wrap (w64 (n_0 + 1)))))).bind fun u4 =>
    (idx x3 (slot_0.fdiv (2 ^ (min (IntKind.u64.wrap (w64 (n_0 + 1))).toNat 64)))).bind fun x5 =>
    (bif decide (x5 = (-2)) then (some true) else ((idx d_0.Must n_0).bind fun x6 =>
    (chk (decide (0 ≤ (IntKind.u64.wrap (w64 (n_0 + 1)))))).bind fun u7 =>
    (idx x6 (slot_0.fdiv (2 ^ (min (IntKind.u64.wrap (w64 (n_0 + 1))).toNat 64)))).bind fun x8 =>
    (idx d_0.Slots slot_0).bind fun x9 =>
    some (decide (x8 = x9)))).bind fun b10 =>
    some b10) else (some false)).bind fun b11 =>
    bif b11 then ((jQ slot_0 t_0 d_0 k0) (w64 (n_0 + 1)))
    else (nO n_0)

def nC (t_0 : aO) (d_1 : aQ) (slot_2 : Int) : Option Int :=
    jQ slot_2 t_0 d_1 BIG 0

def pL (again0 : Int → (List Int) → Option ((List Int))) (l_101 : List Int) (i_101 : Int) (out_101 : List Int) : Option ((List Int)) :=
    again0 (w64 (i_101 + 1)) out_101

def mJ (again0 : Int → (List Int) → Option ((List Int))) (l_102 : List Int) (i_102 : Int) (out_102 : List Int) : Option ((List Int)) :=
    pL again0 l_102 i_102 out_102

def iO (again0 : Int → (List Int) → Option ((List Int))) (l_2 : List Int) (i_2 : Int) : Nat → Int → (List Int) → Option ((List Int))
  | 0, _, _ => none
  | k2 + 1, k_2, out_2 =>
    (bif decide (0 < k_2) then ((idx out_2 k_2).bind fun x5 =>
    (idx out_2 (w64 (k_2 - 1))).bind fun x6 =>
    some (decide (x5 < x6))) else (some false)).bind fun b7 =>
    bif b7 then ((idx out_2 (w64 (k_2 - 1))).bind fun x8 =>
    (idx out_2 k_2).bind fun x9 =>
    (idx out_2 k_2).bind fun x10 =>
    (idx (out_2.set k_2.toNat x8) (w64 (k_2 - 1))).bind fun x11 =>
    (iO again0 l_2 i_2 k2) (w64 (k_2 - 1)) ((out_2.set k_2.toNat x8).set (w64 (k_2 - 1)).toNat x9))
    else (mJ again0 l_2 i_2 out_2)

def pK (out_100 : List Int) : Option ((List Int)) :=
    some out_100

def iN (l_0 : List Int) : Nat → Int → (List Int) → Option ((List Int))
  | 0, _, _ => none
  | k0 + 1, i_0, out_0 =>
    bif decide (i_0 < (l_0.length : Int)) then ((idx l_0 i_0).bind fun x2 =>
    (app 8 out_0 ([x2])).bind fun x3 =>
    iO (iN l_0 k0) l_0 i_0 BIG (w64 ((x3.length : Int) - 1)) x3)
    else (pK out_0)

def oE (l_0 : List Int) : Option ((List Int)) :=
    iN l_0 BIG 0 ([] : List Int)

def rP (out_100 : List Int) : Option ((List Int) × Int) :=
    (oE out_100).bind fun r14 =>
    some (r14, 0)

def fV (round_0 : Int) (place_0 : Int) (t_0 : aO) (d_0 : aQ) : Nat → Int → (List Int) → Option ((List Int) × Int)
  | 0, _, _ => none
  | k0 + 1, s_0, out_0 =>
    bif decide (s_0 < (d_0.Slots.length : Int)) then ((idx d_0.Slots s_0).bind fun x6 =>
    (bif !decide (x6 = (-1)) then ((chk (decide (0 ≤ (IntKind.u64.wrap (w64 (round_0 + 1)))))).bind fun u7 =>
    some (decide ((s_0.fdiv (2 ^ (min (IntKind.u64.wrap (w64 (round_0 + 1))).toNat 64))) = place_0))) else (some false)).bind fun b8 =>
    (bif b8 then ((nC t_0 d_0 s_0).bind fun r9 =>
    some (decide (round_0 < r9))) else (some false)).bind fun b10 =>
    bif b10 then ((idx d_0.Slots s_0).bind fun x11 =>
    (app 8 out_0 ([x11])).bind fun x12 =>
    (fV round_0 place_0 t_0 d_0 k0) (w64 (s_0 + 1)) x12)
    else ((fV round_0 place_0 t_0 d_0 k0) (w64 (s_0 + 1)) out_0))
    else (rP out_0)

def iB (t_0 : aO) (l_1 : List aD) (round_2 : Int) (place_3 : Int) : Option ((List Int) × Int) :=
    (iE t_0 l_1 round_2 place_3).bind fun r2 =>
    bif !decide (r2 = 0) then (some (([] : List Int), r2))
    else ((cY t_0 l_1).bind fun r3 =>
    fV round_2 place_3 t_0 r3.1 BIG 0 ([] : List Int))

def mP (a0 : aO) (a1 : List aD) (a2 : Int) (a3 : Int) : Option ((List Int) × Int) := iB a0 a1 a2 a3

def qZ (again0 : Int → Int → Option (Int × Int)) (n_101 : Int) (r_101 : Int) (t_101 : aO) (d_101 : aQ) : Option (Int × Int) :=
    again0 n_101 (w64 (r_101 + 1))

def nL (again0 : Int → Int → Option (Int × Int)) (n_102 : Int) (r_102 : Int) (t_102 : aO) (d_102 : aQ) : Option (Int × Int) :=
    qZ again0 n_102 r_102 t_102 d_102

def iA (again0 : Int → Int → Option (Int × Int)) (r_2 : Int) (t_2 : aO) (d_2 : aQ) : Nat → Int → Int → Option (Int × Int)
  | 0, _, _ => none
  | k2 + 1, n_2, p_2 =>
    (fW t_2 r_2).bind fun r5 =>
    bif decide (p_2 < r5) then ((idx d_2.Must r_2).bind fun x6 =>
    (idx x6 p_2).bind fun x7 =>
    bif decide (x7 = (-2)) then ((iA again0 r_2 t_2 d_2 k2) (w64 (n_2 + 1)) (w64 (p_2 + 1)))
    else ((iA again0 r_2 t_2 d_2 k2) n_2 (w64 (p_2 + 1))))
    else (nL again0 n_2 r_2 t_2 d_2)

def qY (n_100 : Int) : Option (Int × Int) :=
    some (n_100, 0)

def eU (t_0 : aO) (d_0 : aQ) : Nat → Int → Int → Option (Int × Int)
  | 0, _, _ => none
  | k0 + 1, n_0, r_0 =>
    bif decide (r_0 < t_0.Rounds) then (iA (eU t_0 d_0 k0) r_0 t_0 d_0 BIG n_0 0)
    else (qY n_0)

def jY (t_0 : aO) (l_1 : List aD) : Option (Int × Int) :=
    (dQ t_0 l_1).bind fun r2 =>
    bif !decide (r2 = 0) then (some (0, r2))
    else ((cY t_0 l_1).bind fun r3 =>
    eU t_0 r3.1 BIG 0 0)

def qE (a0 : aO) (a1 : List aD) : Option (Int × Int) := jY a0 a1

def rA : Option Int :=
    some (-1)

def jS (player_0 : Int) (d_0 : aQ) : Nat → Int → Option Int
  | 0, _ => none
  | k0 + 1, s_0 =>
    bif decide (s_0 < (d_0.Slots.length : Int)) then ((idx d_0.Slots s_0).bind fun x2 =>
    bif decide (x2 = player_0) then (some s_0)
    else ((jS player_0 d_0 k0) (w64 (s_0 + 1))))
    else (rA)

def pJ (d_0 : aQ) (player_1 : Int) : Option Int :=
    jS player_1 d_0 BIG 0

def mX (n_100 : Int) : Option Int :=
    some n_100

def jB (slot_0 : Int) (t_0 : aO) (d_0 : aQ) : Nat → Int → Option Int
  | 0, _ => none
  | k0 + 1, n_0 =>
    (bif decide (n_0 < t_0.Rounds) then ((idx d_0.Must n_0).bind fun x3 =>
    (chk (decide (0 ≤ (IntKind.u64.wrap (w64 (n_0 + 1)))))).bind fun u4 =>
    (idx x3 (slot_0.fdiv (2 ^ (min (IntKind.u64.wrap (w64 (n_0 + 1))).toNat 64)))).bind fun x5 =>
    (idx d_0.Slots slot_0).bind fun x6 =>
    some (decide (x5 = x6))) else (some false)).bind fun b7 =>
    bif b7 then ((jB slot_0 t_0 d_0 k0) (w64 (n_0 + 1)))
    else (mX n_0)

def oP (t_0 : aO) (d_1 : aQ) (slot_2 : Int) : Option Int :=
    jB slot_2 t_0 d_1 BIG 0

def iD (t_0 : aO) (l_1 : List aD) (player_2 : Int) : Option (dH × Int) :=
    (dQ t_0 l_1).bind fun r3 =>
    bif !decide (r3 = 0) then (some ((dH.mk 0 0), r3))
    else ((dL player_2 0 999).bind fun r4 =>
    bif !r4 then (some ((dH.mk 0 0), 1))
    else ((cY t_0 l_1).bind fun r5 =>
    (pJ r5.1 player_2).bind fun r7 =>
    bif decide (r7 < 0) then (some ((dH.mk 0 0), 3))
    else ((oP t_0 r5.1 r7).bind fun r8 =>
    (nC t_0 r5.1 r7).bind fun r9 =>
    some ((dH.mk r8 r9), 0))))

def oD (a0 : aO) (a1 : List aD) (a2 : Int) : Option (dH × Int) := iD a0 a1 a2

def jG : Option Bool :=
    (nJ).bind fun r1 =>
    (pH r1.1 r1.2).bind fun r3 =>
    (mP r1.1 r1.2 2 0).bind fun r4 =>
    (qE r1.1 r1.2).bind fun r5 =>
    (oD r1.1 r1.2 2).bind fun r6 =>
    (bif decide (r3.2 = 0) then (some (decide (r4.2 = 0))) else (some false)).bind fun b8 =>
    (bif b8 then (some (decide (r5.2 = 0))) else (some false)).bind fun b9 =>
    (bif b9 then (some (decide (r6.2 = 0))) else (some false)).bind fun b10 =>
    (bif b10 then (some (decide ((r3.1.length : Int) = 7))) else (some false)).bind fun b11 =>
    (bif b11 then ((idx r3.1 4).bind fun x12 =>
    some (decide (x12 = (bY.mk 1 0 1 2)))) else (some false)).bind fun b13 =>
    (bif b13 then ((idx r3.1 6).bind fun x14 =>
    some (decide (x14 = (bY.mk 2 0 2 (-2))))) else (some false)).bind fun b15 =>
    (bif b15 then ((mV r4.1 ([2, 5, 7, 8])).bind fun r16 =>
    some r16) else (some false)).bind fun b17 =>
    (bif b17 then (some (decide (r5.1 = 3))) else (some false)).bind fun b18 =>
    (bif b18 then (some (decide (r6.1 = (dH.mk 2 3)))) else (some false)).bind fun b19 =>
    some b19

def jF (t_0 : aO) (l_1 : List aD) : Option Bool :=
    (lS t_0 l_1).bind fun r2 =>
    (bif !r2 then ((dQ t_0 l_1).bind fun r3 =>
    some (decide (r3 = 0))) else (some false)).bind fun b4 =>
    some b4

def nB (a0 : aO) (a1 : List aD) : Option Int := dQ a0 a1

def iM (l_102 : List aD) (found_102 : Bool) (t_102 : aO) (x_102 : eD) : Option Bool :=
    (app 40 ([] : List aD) l_102).bind fun x29 =>
    (app 40 x29 ([(aD.mk 1 x_102.Round x_102.Place x_102.A 0)])).bind fun x31 =>
    (nB t_102 x31).bind fun r33 =>
    (bif found_102 then (some (decide (r33 = 0))) else (some false)).bind fun b34 =>
    (bif b34 then (some true) else ((bif !found_102 then (some (decide (r33 = 72))) else (some false)).bind fun b35 =>
    some b35)).bind fun b36 =>
    (bif b36 then ((jG).bind fun r37 =>
    some r37) else (some false)).bind fun b38 =>
    some b38

def eG (l_2 : List aD) (may_2 : List Int) (t_2 : aO) (x_2 : eD) : Nat → Bool → Int → Option Bool
  | 0, _, _ => none
  | k2 + 1, found_2, i_2 =>
    bif decide (i_2 < (may_2.length : Int)) then ((bif found_2 then (some true) else ((idx may_2 i_2).bind fun x23 =>
    some (decide (x23 = x_2.A)))).bind fun b24 =>
    (bif decide (0 < i_2) then ((idx may_2 i_2).bind fun x25 =>
    (idx may_2 (w64 (i_2 - 1))).bind fun x26 =>
    some (decide (x25 ≤ x26))) else (some false)).bind fun b27 =>
    bif b27 then (some false)
    else ((eG l_2 may_2 t_2 x_2 k2) b24 (w64 (i_2 + 1))))
    else (iM l_2 found_2 t_2 x_2)

def gL (l_100 : List aD) (t_100 : aO) (x_100 : eD) : Option Bool :=
    (mP t_100 l_100 x_100.Round x_100.Place).bind fun r21 =>
    (bif !decide (r21.2 = 0) then (some true) else (some (decide ((r21.1.length : Int) = 0)))).bind fun b22 =>
    bif b22 then (some false)
    else (eG l_100 r21.1 t_100 x_100 BIG false 0)

def dT (l_0 : List aD) (t_0 : aO) (x_0 : eD) : Nat → Int → Option Bool
  | 0, _ => none
  | k0 + 1, i_0 =>
    bif decide (i_0 < (l_0.length : Int)) then ((idx l_0 i_0).bind fun x15 =>
    (bif !decide (x15.Kind = 5) then ((idx l_0 i_0).bind fun x16 =>
    some (decide (x16.Round = x_0.Round))) else (some false)).bind fun b17 =>
    (bif b17 then ((idx l_0 i_0).bind fun x18 =>
    some (decide (x18.Place = x_0.Place))) else (some false)).bind fun b19 =>
    bif b19 then ((jG).bind fun r20 =>
    some r20)
    else ((dT l_0 t_0 x_0 k0) (w64 (i_0 + 1))))
    else (gL l_0 t_0 x_0)

def jX (t_0 : aO) (l_1 : List aD) (x_2 : eD) : Option Bool :=
    (jF t_0 l_1).bind fun r3 =>
    (bif !r3 then (some true) else (some (decide (59 < (l_1.length : Int))))).bind fun b4 =>
    (bif b4 then (some true) else ((gM t_0 x_2.Round x_2.Place).bind fun r5 =>
    some (!r5))).bind fun b6 =>
    (bif b6 then (some true) else (some (decide (x_2.A < 0)))).bind fun b7 =>
    (bif b7 then (some true) else (some (decide (999 < x_2.A)))).bind fun b8 =>
    (bif b8 then (some true) else ((bif decide (x_2.Round = 0) then ((idx t_0.Slots (w64 (2 * x_2.Place))).bind fun x9 =>
    (bif decide (x9 = (-1)) then (some true) else ((idx t_0.Slots (w64 ((w64 (2 * x_2.Place)) + 1))).bind fun x10 =>
    some (decide (x10 = (-1))))).bind fun b11 =>
    some b11) else (some false)).bind fun b12 =>
    some b12)).bind fun b13 =>
    bif b13 then ((jG).bind fun r14 =>
    some r14)
    else (dT l_1 t_0 x_2 BIG 0)

end Go.Am
