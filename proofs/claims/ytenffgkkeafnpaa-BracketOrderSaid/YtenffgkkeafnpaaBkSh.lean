/- Shallow functions, printed by program. -/
import Derived.Test.YtenffgkkeafnpaaBrSh
import Derived.Test.YtenffgkkeafnpaaAmSort
namespace Go.Am

structure dP where
  Low : Int
  High : Int
  deriving DecidableEq, Inhabited
def fN (x : dP) : List D := [.lit (.int .i64 x.Low), .lit (.int .i64 x.High)]

structure eQ where
  Round : Int
  Place : Int
  A : Int
  B : Int
  deriving DecidableEq, Inhabited
def dY (x : eQ) : List D := [.lit (.int .i64 x.Round), .lit (.int .i64 x.Place), .lit (.int .i64 x.A), .lit (.int .i64 x.B)]

def sH (x : eQ) : Prop := okI x.Round ∧ okI x.Place ∧ okI x.A ∧ okI x.B

def mN (t_0 : aP) (l_1 : List aE) : Option Bool :=
    (bif decide (100 < (t_0.Slots.length : Int)) then (some true) else (some (decide (100 < (l_1.length : Int))))).bind fun b2 =>
    some b2

def oB : Option (aP × (List aE)) :=
    some ((aP.mk 3 ([1, (-1), 2, 3, 4, 5, 6, 7])), [(aE.mk 1 1 0 2 0), (aE.mk 3 0 3 7 0), (aE.mk 5 0 4 8 4)])

def nO (d_100 : bC) : Option Int :=
    some d_100.Tree.Rounds

def gS (d_0 : bC) (slot_0 : Int) (t12_0 : Int) : Nat → Int → Option Int
  | 0, _ => none
  | k0 + 1, t13_0 =>
    bif decide (t13_0 < t12_0) then ((kF t13_0 slot_0).bind fun r1 =>
    (bif cS r1 d_0.won then ((idx d_0.players slot_0).bind fun x2 =>
    some (!decide ((cI r1 0 d_0.won) = x2))) else (some false)).bind fun b3 =>
    bif b3 then (some t13_0)
    else ((gS d_0 slot_0 t12_0 k0) (w64 (t13_0 + 1))))
    else (nO d_0)

def jY (d_0 : bC) (slot_1 : Int) : Option Int :=
    gS d_0 slot_1 d_0.Tree.Rounds BIG 0

def slices_Sort_int (x : List Int) : Option (List Int) := if x.length < 4611686018427387904 then some (iS x) else none

def qX (againQ : ((List Int) × Int) → Prop) (out_100 : List Int) : Prop :=
    nb (slices_Sort_int out_100) fun r14 =>
    againQ (r14, 0)

def iI (againQ : ((List Int) × Int) → Prop) (round_0 : Int) (d_0 : Option bC) (t31_0 : List Int) (t32_0 : Int) (m_0 : aB) : Nat → Int → (List Int) → Prop
  | 0, _, _ => False
  | k0 + 1, t33_0, out_0 =>
    bif decide (t33_0 < t32_0) then (nb (idx t31_0 t33_0) fun x6 =>
    nb (d_0) fun x7 =>
    nb (bif !decide (x6 = (-1)) then ((kF round_0 t33_0).bind fun r8 =>
    some (decide (r8 = m_0))) else (some false)) fun b9 =>
    nb (bif b9 then ((jY x7 t33_0).bind fun r10 =>
    some (decide (round_0 < r10))) else (some false)) fun b11 =>
    bif b11 then (nb (app 8 out_0 ([x6])) fun x12 =>
    (iI againQ round_0 d_0 t31_0 t32_0 m_0 k0) (w64 (t33_0 + 1)) x12)
    else ((iI againQ round_0 d_0 t31_0 t32_0 m_0 k0) (w64 (t33_0 + 1)) out_0))
    else (qX againQ out_0)

def oX (t_0 : aP) (l_1 : List aE) (round_2 : Int) (place_3 : Int) (Q : ((List Int) × Int) → Prop) : Prop :=
    lX t_0 l_1 round_2 place_3 fun r2 =>
    bif !decide (r2.2.2 = 0) then (Q (([] : List Int), r2.2.2))
    else (nb (r2.1) fun x5 =>
    iI Q round_2 r2.1 x5.players (x5.players.length : Int) r2.2.1 BIG 0 ([] : List Int))

def oA (t_0 : aP) (l_1 : List aE) (Q : (Int × Int) → Prop) : Prop :=
    iR t_0 l_1 fun r2 =>
    bif !decide (r2.2 = 0) then (Q (0, r2.2))
    else (nb (r2.1) fun x3 =>
    nb (r2.1) fun x4 =>
    Q (w64 ((w64 ((x3.Tree.Slots.length : Int) - 1)) - (((x4.won.map fun p : aB × Int => ((fun a : aB => Value.agg ((aM a).map bO).toArray) p.1, aO p.2))).length : Int)), 0))

def qY (againQ : ((Option bC) × (List Int) × Int) → Prop) (d_100 : Option bC) (slots_100 : List Int) : Prop :=
    againQ (d_100, slots_100, 0)

def kA (againQ : ((Option bC) × (List Int) × Int) → Prop) (t20_0 : List Int) (t21_0 : Int) : Nat → (Option bC) → Int → (List Int) → Prop
  | 0, _, _, _ => False
  | k0 + 1, d_0, t22_0, slots_0 =>
    bif decide (t22_0 < t21_0) then (nb (idx t20_0 t22_0) fun x5 =>
    nb (eP x5 0 999) fun r6 =>
    bif !r6 then (againQ ((none : Option bC), ([] : List Int), 1))
    else (nb (d_0) fun x8 =>
    nb (fQ x8.players x5) fun r9 =>
    nb (app 8 slots_0 ([r9])) fun x10 =>
    (kA againQ t20_0 t21_0 k0) d_0 (w64 (t22_0 + 1)) x10))
    else (qY againQ d_0 slots_0)

def mD (t_0 : aP) (l_1 : List aE) (players_2 : List Int) (Q : ((Option bC) × (List Int) × Int) → Prop) : Prop :=
    iR t_0 l_1 fun r3 =>
    bif !decide (r3.2 = 0) then (Q ((none : Option bC), ([] : List Int), r3.2))
    else (kA Q players_2 (players_2.length : Int) BIG r3.1 0 ([] : List Int))

def nP (d_100 : bC) : Option Int :=
    some d_100.Tree.Rounds

def gT (d_0 : bC) (slot_0 : Int) (t12_0 : Int) : Nat → Int → Option Int
  | 0, _ => none
  | k0 + 1, t13_0 =>
    bif decide (t13_0 < t12_0) then ((kF t13_0 slot_0).bind fun r1 =>
    (bif !(cS r1 d_0.won) then (some true) else ((idx d_0.players slot_0).bind fun x2 =>
    some (!decide ((cI r1 0 d_0.won) = x2)))).bind fun b3 =>
    bif b3 then (some t13_0)
    else ((gT d_0 slot_0 t12_0 k0) (w64 (t13_0 + 1))))
    else (nP d_0)

def lK (d_0 : bC) (slot_1 : Int) : Option Int :=
    gT d_0 slot_1 d_0.Tree.Rounds BIG 0

def lW (t_0 : aP) (l_1 : List aE) (player_2 : Int) (Q : (dP × Int) → Prop) : Prop :=
    mD t_0 l_1 ([player_2]) fun r3 =>
    bif !decide (r3.2.2 = 0) then (Q ((dP.mk 0 0), r3.2.2))
    else (nb (idx r3.2.1 0) fun x4 =>
    bif decide (x4 < 0) then (Q ((dP.mk 0 0), 3))
    else (nb (r3.1) fun x5 =>
    nb (idx r3.2.1 0) fun x6 =>
    nb (lK x5 x6) fun r7 =>
    nb (idx r3.2.1 0) fun x8 =>
    nb (jY x5 x8) fun r9 =>
    Q ((dP.mk r7 r9), 0)))

def mE : Option Bool :=
    some true

def fO (a_0 : List Int) (b_0 : List Int) : Nat → Int → Option Bool
  | 0, _ => none
  | k0 + 1, i_0 =>
    bif decide (i_0 < (a_0.length : Int)) then ((idx a_0 i_0).bind fun x1 =>
    (idx b_0 i_0).bind fun x2 =>
    bif !decide (x1 = x2) then (some false)
    else ((fO a_0 b_0 k0) (w64 (i_0 + 1))))
    else (mE)

def dS (a_0 : List Int) (b_1 : List Int) : Option Bool :=
    bif !decide ((a_0.length : Int) = (b_1.length : Int)) then (some false)
    else (fO a_0 b_1 BIG 0)

def lY (a0 : aP) (a1 : List aE) : Option ((List bP) × Int) := kC a0 a1

def oF (n_100 : Int) : Option Int :=
    some n_100

def kK (slot_0 : Int) (t_0 : aP) (d_0 : aR) : Nat → Int → Option Int
  | 0, _ => none
  | k0 + 1, n_0 =>
    (bif decide (n_0 < t_0.Rounds) then ((idx d_0.Must n_0).bind fun x3 =>
    (chk (decide (0 ≤ (IntKind.u64.wrap (w64 (n_0 + 1)))))).bind fun u4 =>
    (idx x3 (slot_0.fdiv (2 ^ (min (IntKind.u64.wrap (w64 (n_0 + 1))).toNat 64)))).bind fun x5 =>
    (bif decide (x5 = (-2)) then (some true) else ((idx d_0.Must n_0).bind fun x6 =>
    (chk (decide (0 ≤ (IntKind.u64.wrap (w64 (n_0 + 1)))))).bind fun u7 =>
    (idx x6 (slot_0.fdiv (2 ^ (min (IntKind.u64.wrap (w64 (n_0 + 1))).toNat 64)))).bind fun x8 =>
    (idx d_0.Slots slot_0).bind fun x9 =>
    some (decide (x8 = x9)))).bind fun b10 =>
    some b10) else (some false)).bind fun b11 =>
    bif b11 then ((kK slot_0 t_0 d_0 k0) (w64 (n_0 + 1)))
    else (oF n_0)

def nV (t_0 : aP) (d_1 : aR) (slot_2 : Int) : Option Int :=
    kK slot_2 t_0 d_1 BIG 0

def qD (again0 : Int → (List Int) → Option ((List Int))) (l_101 : List Int) (i_101 : Int) (out_101 : List Int) : Option ((List Int)) :=
    again0 (w64 (i_101 + 1)) out_101

def nE (again0 : Int → (List Int) → Option ((List Int))) (l_102 : List Int) (i_102 : Int) (out_102 : List Int) : Option ((List Int)) :=
    qD again0 l_102 i_102 out_102

def jM (again0 : Int → (List Int) → Option ((List Int))) (l_2 : List Int) (i_2 : Int) : Nat → Int → (List Int) → Option ((List Int))
  | 0, _, _ => none
  | k2 + 1, k_2, out_2 =>
    (bif decide (0 < k_2) then ((idx out_2 k_2).bind fun x5 =>
    (idx out_2 (w64 (k_2 - 1))).bind fun x6 =>
    some (decide (x5 < x6))) else (some false)).bind fun b7 =>
    bif b7 then ((idx out_2 (w64 (k_2 - 1))).bind fun x8 =>
    (idx out_2 k_2).bind fun x9 =>
    (idx out_2 k_2).bind fun x10 =>
    (idx (out_2.set k_2.toNat x8) (w64 (k_2 - 1))).bind fun x11 =>
    (jM again0 l_2 i_2 k2) (w64 (k_2 - 1)) ((out_2.set k_2.toNat x8).set (w64 (k_2 - 1)).toNat x9))
    else (nE again0 l_2 i_2 out_2)

def qC (out_100 : List Int) : Option ((List Int)) :=
    some out_100

def jL (l_0 : List Int) : Nat → Int → (List Int) → Option ((List Int))
  | 0, _, _ => none
  | k0 + 1, i_0, out_0 =>
    bif decide (i_0 < (l_0.length : Int)) then ((idx l_0 i_0).bind fun x2 =>
    (app 8 out_0 ([x2])).bind fun x3 =>
    jM (jL l_0 k0) l_0 i_0 BIG (w64 ((x3.length : Int) - 1)) x3)
    else (qC out_0)

def oW (l_0 : List Int) : Option ((List Int)) :=
    jL l_0 BIG 0 ([] : List Int)

def sF (out_100 : List Int) : Option ((List Int) × Int) :=
    (oW out_100).bind fun r14 =>
    some (r14, 0)

def gP (round_0 : Int) (place_0 : Int) (t_0 : aP) (d_0 : aR) : Nat → Int → (List Int) → Option ((List Int) × Int)
  | 0, _, _ => none
  | k0 + 1, s_0, out_0 =>
    bif decide (s_0 < (d_0.Slots.length : Int)) then ((idx d_0.Slots s_0).bind fun x6 =>
    (bif !decide (x6 = (-1)) then ((chk (decide (0 ≤ (IntKind.u64.wrap (w64 (round_0 + 1)))))).bind fun u7 =>
    some (decide ((s_0.fdiv (2 ^ (min (IntKind.u64.wrap (w64 (round_0 + 1))).toNat 64))) = place_0))) else (some false)).bind fun b8 =>
    (bif b8 then ((nV t_0 d_0 s_0).bind fun r9 =>
    some (decide (round_0 < r9))) else (some false)).bind fun b10 =>
    bif b10 then ((idx d_0.Slots s_0).bind fun x11 =>
    (app 8 out_0 ([x11])).bind fun x12 =>
    (gP round_0 place_0 t_0 d_0 k0) (w64 (s_0 + 1)) x12)
    else ((gP round_0 place_0 t_0 d_0 k0) (w64 (s_0 + 1)) out_0))
    else (sF out_0)

def iZ (t_0 : aP) (l_1 : List aE) (round_2 : Int) (place_3 : Int) : Option ((List Int) × Int) :=
    (iC t_0 l_1 round_2 place_3).bind fun r2 =>
    bif !decide (r2 = 0) then (some (([] : List Int), r2))
    else ((cY t_0 l_1).bind fun r3 =>
    gP round_2 place_3 t_0 r3.1 BIG 0 ([] : List Int))

def sC (a0 : aP) (a1 : List aE) (a2 : Int) (a3 : Int) : Option ((List Int) × Int) := iZ a0 a1 a2 a3

def rS (again0 : Int → Int → Option (Int × Int)) (n_101 : Int) (r_101 : Int) (t_101 : aP) (d_101 : aR) : Option (Int × Int) :=
    again0 n_101 (w64 (r_101 + 1))

def oC (again0 : Int → Int → Option (Int × Int)) (n_102 : Int) (r_102 : Int) (t_102 : aP) (d_102 : aR) : Option (Int × Int) :=
    rS again0 n_102 r_102 t_102 d_102

def iY (again0 : Int → Int → Option (Int × Int)) (r_2 : Int) (t_2 : aP) (d_2 : aR) : Nat → Int → Int → Option (Int × Int)
  | 0, _, _ => none
  | k2 + 1, n_2, p_2 =>
    (gQ t_2 r_2).bind fun r5 =>
    bif decide (p_2 < r5) then ((idx d_2.Must r_2).bind fun x6 =>
    (idx x6 p_2).bind fun x7 =>
    bif decide (x7 = (-2)) then ((iY again0 r_2 t_2 d_2 k2) (w64 (n_2 + 1)) (w64 (p_2 + 1)))
    else ((iY again0 r_2 t_2 d_2 k2) n_2 (w64 (p_2 + 1))))
    else (oC again0 n_2 r_2 t_2 d_2)

def rR (n_100 : Int) : Option (Int × Int) :=
    some (n_100, 0)

def fK (t_0 : aP) (d_0 : aR) : Nat → Int → Int → Option (Int × Int)
  | 0, _, _ => none
  | k0 + 1, n_0, r_0 =>
    bif decide (r_0 < t_0.Rounds) then (iY (fK t_0 d_0 k0) r_0 t_0 d_0 BIG n_0 0)
    else (rR n_0)

def kS (t_0 : aP) (l_1 : List aE) : Option (Int × Int) :=
    (eU t_0 l_1).bind fun r2 =>
    bif !decide (r2 = 0) then (some (0, r2))
    else ((cY t_0 l_1).bind fun r3 =>
    fK t_0 r3.1 BIG 0 0)

def qZ (a0 : aP) (a1 : List aE) : Option (Int × Int) := kS a0 a1

def rT : Option Int :=
    some (-1)

def kM (player_0 : Int) (d_0 : aR) : Nat → Int → Option Int
  | 0, _ => none
  | k0 + 1, s_0 =>
    bif decide (s_0 < (d_0.Slots.length : Int)) then ((idx d_0.Slots s_0).bind fun x2 =>
    bif decide (x2 = player_0) then (some s_0)
    else ((kM player_0 d_0 k0) (w64 (s_0 + 1))))
    else (rT)

def qB (d_0 : aR) (player_1 : Int) : Option Int :=
    kM player_1 d_0 BIG 0

def nR (n_100 : Int) : Option Int :=
    some n_100

def jX (slot_0 : Int) (t_0 : aP) (d_0 : aR) : Nat → Int → Option Int
  | 0, _ => none
  | k0 + 1, n_0 =>
    (bif decide (n_0 < t_0.Rounds) then ((idx d_0.Must n_0).bind fun x3 =>
    (chk (decide (0 ≤ (IntKind.u64.wrap (w64 (n_0 + 1)))))).bind fun u4 =>
    (idx x3 (slot_0.fdiv (2 ^ (min (IntKind.u64.wrap (w64 (n_0 + 1))).toNat 64)))).bind fun x5 =>
    (idx d_0.Slots slot_0).bind fun x6 =>
    some (decide (x5 = x6))) else (some false)).bind fun b7 =>
    bif b7 then ((jX slot_0 t_0 d_0 k0) (w64 (n_0 + 1)))
    else (nR n_0)

def pK (t_0 : aP) (d_1 : aR) (slot_2 : Int) : Option Int :=
    jX slot_2 t_0 d_1 BIG 0

def jB (t_0 : aP) (l_1 : List aE) (player_2 : Int) : Option (dP × Int) :=
    (eU t_0 l_1).bind fun r3 =>
    bif !decide (r3 = 0) then (some ((dP.mk 0 0), r3))
    else ((dU player_2 0 999).bind fun r4 =>
    bif !r4 then (some ((dP.mk 0 0), 1))
    else ((cY t_0 l_1).bind fun r5 =>
    (qB r5.1 player_2).bind fun r7 =>
    bif decide (r7 < 0) then (some ((dP.mk 0 0), 3))
    else ((pK t_0 r5.1 r7).bind fun r8 =>
    (nV t_0 r5.1 r7).bind fun r9 =>
    some ((dP.mk r8 r9), 0))))

def oU (a0 : aP) (a1 : List aE) (a2 : Int) : Option (dP × Int) := jB a0 a1 a2

def fP : Option Bool :=
    (oB).bind fun r1 =>
    (lY r1.1 r1.2).bind fun r3 =>
    (sC r1.1 r1.2 2 0).bind fun r4 =>
    (qZ r1.1 r1.2).bind fun r5 =>
    (oU r1.1 r1.2 2).bind fun r6 =>
    (bif decide (r3.2 = 0) then (some (decide (r4.2 = 0))) else (some false)).bind fun b8 =>
    (bif b8 then (some (decide (r5.2 = 0))) else (some false)).bind fun b9 =>
    (bif b9 then (some (decide (r6.2 = 0))) else (some false)).bind fun b10 =>
    (bif b10 then (some (decide ((r3.1.length : Int) = 7))) else (some false)).bind fun b11 =>
    (bif b11 then ((idx r3.1 4).bind fun x12 =>
    some (decide (x12 = (bP.mk 1 0 1 2)))) else (some false)).bind fun b13 =>
    (bif b13 then ((idx r3.1 6).bind fun x14 =>
    some (decide (x14 = (bP.mk 2 0 2 (-2))))) else (some false)).bind fun b15 =>
    (bif b15 then ((dS r4.1 ([2, 5, 7, 8])).bind fun r16 =>
    some r16) else (some false)).bind fun b17 =>
    (bif b17 then (some (decide (r5.1 = 3))) else (some false)).bind fun b18 =>
    (bif b18 then (some (decide (r6.1 = (dP.mk 2 3)))) else (some false)).bind fun b19 =>
    some b19

def iE (a0 : aP) (a1 : List aE) (a2 : Int) (a3 : Int) : Option (Int × Int) := gR a0 a1 a2 a3

def kB (t_0 : aP) (l_1 : List aE) : Option Bool :=
    (mN t_0 l_1).bind fun r2 =>
    (bif !r2 then ((eU t_0 l_1).bind fun r3 =>
    some (decide (r3 = 0))) else (some false)).bind fun b4 =>
    some b4

def oV (bouts_100 : List bP) (winners_100 : List Int) : Option ((List bP) × (List Int) × Bool) :=
    some (bouts_100, winners_100, true)

def fV (l_0 : List aE) (t_0 : aP) : Nat → (List bP) → Int → (List Int) → Option ((List bP) × (List Int) × Bool)
  | 0, _, _, _ => none
  | k0 + 1, bouts_0, i_0, winners_0 =>
    bif decide (i_0 < (bouts_0.length : Int)) then ((idx bouts_0 i_0).bind fun x6 =>
    (idx bouts_0 i_0).bind fun x7 =>
    (iE t_0 l_0 x6.Round x7.Place).bind fun r8 =>
    bif decide (r8.2 = 3) then ((app 8 winners_0 ([(-2)])).bind fun x9 =>
    (fV l_0 t_0 k0) bouts_0 (w64 (i_0 + 1)) x9)
    else (bif !decide (r8.2 = 0) then (some (([] : List bP), ([] : List Int), false))
    else ((app 8 winners_0 ([r8.1])).bind fun x12 =>
    (fV l_0 t_0 k0) bouts_0 (w64 (i_0 + 1)) x12)))
    else (oV bouts_0 winners_0)

def dK (t_0 : aP) (l_1 : List aE) : Option ((List bP) × (List Int) × Bool) :=
    (lY t_0 l_1).bind fun r3 =>
    (bif !decide (r3.2 = 0) then (some true) else (some (!decide ((r3.1.length : Int) = (w64 ((t_0.Slots.length : Int) - 1)))))).bind fun b4 =>
    bif b4 then (some (([] : List bP), ([] : List Int), false))
    else (fV l_1 t_0 BIG r3.1 0 ([] : List Int))

def lV : Option Bool :=
    some true

def fC (a_0 : List bP) (b_0 : List bP) : Nat → Int → Option Bool
  | 0, _ => none
  | k0 + 1, i_0 =>
    bif decide (i_0 < (a_0.length : Int)) then ((idx a_0 i_0).bind fun x1 =>
    (idx b_0 i_0).bind fun x2 =>
    bif !decide (x1 = x2) then (some false)
    else ((fC a_0 b_0 k0) (w64 (i_0 + 1))))
    else (lV)

def dT (a_0 : List bP) (b_1 : List bP) : Option Bool :=
    bif !decide ((a_0.length : Int) = (b_1.length : Int)) then (some false)
    else (fC a_0 b_1 BIG 0)

def gJ (l_102 : List aE) (free_102 : Bool) (t_102 : aP) (moved_102 : List aE) (own_102 : aE) : Option Bool :=
    bif free_102 then ((app 40 moved_102 ([own_102])).bind fun x30 =>
    (dK t_102 l_102).bind fun r32 =>
    (dK t_102 x30).bind fun r33 =>
    (bif r32.2.2 then (some r33.2.2) else (some false)).bind fun b34 =>
    (bif b34 then ((dT r32.1 r33.1).bind fun r35 =>
    some r35) else (some false)).bind fun b36 =>
    (bif b36 then ((dS r32.2.1 r33.2.1).bind fun r37 =>
    some r37) else (some false)).bind fun b38 =>
    (bif b38 then ((fP).bind fun r39 =>
    some r39) else (some false)).bind fun b40 =>
    some b40)
    else ((dK t_102 l_102).bind fun r41 =>
    (dK t_102 moved_102).bind fun r42 =>
    (bif r41.2.2 then (some r42.2.2) else (some false)).bind fun b43 =>
    (bif b43 then ((dT r41.1 r42.1).bind fun r44 =>
    some r44) else (some false)).bind fun b45 =>
    (bif b45 then ((dS r41.2.1 r42.2.1).bind fun r46 =>
    some r46) else (some false)).bind fun b47 =>
    (bif b47 then ((fP).bind fun r48 =>
    some r48) else (some false)).bind fun b49 =>
    some b49)

def cU (l_2 : List aE) (t_2 : aP) (x_2 : eQ) (moved_2 : List aE) (own_2 : aE) : Nat → Bool → Int → Option Bool
  | 0, _, _ => none
  | k2 + 1, free_2, i_2 =>
    bif decide (i_2 < (l_2.length : Int)) then ((bif free_2 then ((idx l_2 i_2).bind fun x24 =>
    (bif decide (x24.Kind = 5) then (some true) else ((idx l_2 i_2).bind fun x25 =>
    some (!decide (x25.Round = x_2.Round)))).bind fun b26 =>
    (bif b26 then (some true) else ((idx l_2 i_2).bind fun x27 =>
    some (!decide (x27.Place = x_2.Place)))).bind fun b28 =>
    some b28) else (some false)).bind fun b29 =>
    (cU l_2 t_2 x_2 moved_2 own_2 k2) b29 (w64 (i_2 + 1)))
    else (gJ l_2 free_2 t_2 moved_2 own_2)

def fE (l_100 : List aE) (t_100 : aP) (x_100 : eQ) (moved_100 : List aE) : Option Bool :=
    bif decide (0 < (l_100.length : Int)) then ((idx l_100 0).bind fun x13 =>
    (app 40 moved_100 ([x13])).bind fun x14 =>
    (fH t_100 x_100.Round x_100.Place).bind fun r16 =>
    bif r16 then ((iE t_100 l_100 x_100.Round x_100.Place).bind fun r17 =>
    (bif decide (r17.2 = 0) then ((bif decide (0 < x_100.Round) then (some true) else ((idx t_100.Slots (w64 (2 * x_100.Place))).bind fun x19 =>
    (bif !decide (x19 = (-1)) then ((idx t_100.Slots (w64 ((w64 (2 * x_100.Place)) + 1))).bind fun x20 =>
    some (!decide (x20 = (-1)))) else (some false)).bind fun b21 =>
    some b21)).bind fun b22 =>
    some b22) else (some false)).bind fun b23 =>
    cU l_100 t_100 x_100 x14 (aE.mk 1 x_100.Round x_100.Place (max 0 r17.1) 0) BIG b23 0)
    else ((dK t_100 l_100).bind fun r50 =>
    (dK t_100 x14).bind fun r51 =>
    (bif r50.2.2 then (some r51.2.2) else (some false)).bind fun b52 =>
    (bif b52 then ((dT r50.1 r51.1).bind fun r53 =>
    some r53) else (some false)).bind fun b54 =>
    (bif b54 then ((dS r50.2.1 r51.2.1).bind fun r55 =>
    some r55) else (some false)).bind fun b56 =>
    (bif b56 then ((fP).bind fun r57 =>
    some r57) else (some false)).bind fun b58 =>
    some b58))
    else ((fH t_100 x_100.Round x_100.Place).bind fun r59 =>
    bif r59 then ((iE t_100 l_100 x_100.Round x_100.Place).bind fun r60 =>
    (bif decide (r60.2 = 0) then ((bif decide (0 < x_100.Round) then (some true) else ((idx t_100.Slots (w64 (2 * x_100.Place))).bind fun x62 =>
    (bif !decide (x62 = (-1)) then ((idx t_100.Slots (w64 ((w64 (2 * x_100.Place)) + 1))).bind fun x63 =>
    some (!decide (x63 = (-1)))) else (some false)).bind fun b64 =>
    some b64)).bind fun b65 =>
    some b65) else (some false)).bind fun b66 =>
    cU l_100 t_100 x_100 moved_100 (aE.mk 1 x_100.Round x_100.Place (max 0 r60.1) 0) BIG b66 0)
    else ((dK t_100 l_100).bind fun r67 =>
    (dK t_100 moved_100).bind fun r68 =>
    (bif r67.2.2 then (some r68.2.2) else (some false)).bind fun b69 =>
    (bif b69 then ((dT r67.1 r68.1).bind fun r70 =>
    some r70) else (some false)).bind fun b71 =>
    (bif b71 then ((dS r67.2.1 r68.2.1).bind fun r72 =>
    some r72) else (some false)).bind fun b73 =>
    (bif b73 then ((fP).bind fun r74 =>
    some r74) else (some false)).bind fun b75 =>
    some b75))

def dV (l_0 : List aE) (t_0 : aP) (x_0 : eQ) : Nat → Int → (List aE) → Option Bool
  | 0, _, _ => none
  | k0 + 1, i_0, moved_0 =>
    bif decide (0 ≤ i_0) then ((chk (!decide ((l_0.length : Int) = 0))).bind fun u8 =>
    (chk (!decide ((l_0.length : Int) = 0))).bind fun u9 =>
    (idx l_0 ((w64 (i_0 + (x_0.A.tmod (l_0.length : Int)))).tmod (l_0.length : Int))).bind fun x10 =>
    (app 40 moved_0 ([x10])).bind fun x11 =>
    (dV l_0 t_0 x_0 k0) (w64 (i_0 - 1)) x11)
    else (fE l_0 t_0 x_0 moved_0)

def jV (t_0 : aP) (l_1 : List aE) (x_2 : eQ) : Option Bool :=
    (kB t_0 l_1).bind fun r3 =>
    (bif !r3 then (some true) else (some (decide (58 < (l_1.length : Int))))).bind fun b4 =>
    (bif b4 then (some true) else (some (decide (x_2.A < 0)))).bind fun b5 =>
    bif b5 then ((fP).bind fun r6 =>
    some r6)
    else (dV l_1 t_0 x_2 BIG (w64 ((l_1.length : Int) - 1)) ([] : List aE))

end Go.Am
