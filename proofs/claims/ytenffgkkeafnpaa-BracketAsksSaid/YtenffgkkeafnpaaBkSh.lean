/- Shallow functions, printed by program. -/
import Derived.Test.YtenffgkkeafnpaaBrSh
import Derived.Test.YtenffgkkeafnpaaAmSort
namespace Go.Am

structure cR where
  Low : Int
  High : Int
  deriving DecidableEq, Inhabited
def cQ (x : cR) : List D := [.lit (.int .i64 x.Low), .lit (.int .i64 x.High)]

structure lT where
  Round : Int
  Place : Int
  A : Int
  B : Int
  deriving DecidableEq, Inhabited
def oS (x : lT) : List D := [.lit (.int .i64 x.Round), .lit (.int .i64 x.Place), .lit (.int .i64 x.A), .lit (.int .i64 x.B)]

def sR (x : lT) : Prop := okI x.Round ∧ okI x.Place ∧ okI x.A ∧ okI x.B

def mQ (t_0 : aO) (l_1 : List aG) : Option Bool :=
    (bif decide (100 < (t_0.Slots.length : Int)) then (some true) else (some (decide (100 < (l_1.length : Int))))).bind fun b2 =>
    some b2

def oL : Option (aO × (List aG)) :=
    some ((aO.mk 3 ([1, (-1), 2, 3, 4, 5, 6, 7])), [(aG.mk 1 1 0 2 0), (aG.mk 3 0 3 7 0), (aG.mk 5 0 4 8 4)])

def nX (d_100 : bA) : Option Int :=
    some d_100.Tree.Rounds

def gL (d_0 : bA) (slot_0 : Int) (t12_0 : Int) : Nat → Int → Option Int
  | 0, _ => none
  | k0 + 1, t13_0 =>
    bif decide (t13_0 < t12_0) then ((iN t13_0 slot_0).bind fun r1 =>
    (bif cT r1 d_0.won then ((idx d_0.players slot_0).bind fun x2 =>
    some (!decide ((cI r1 0 d_0.won) = x2))) else (some false)).bind fun b3 =>
    bif b3 then (some t13_0)
    else ((gL d_0 slot_0 t12_0 k0) (w64 (t13_0 + 1))))
    else (nX d_0)

def gY (d_0 : bA) (slot_1 : Int) : Option Int :=
    gL d_0 slot_1 d_0.Tree.Rounds BIG 0

def slices_Sort_int (x : List Int) : Option (List Int) := if x.length < 4611686018427387904 then some (iI x) else none

def rH (againQ : ((List Int) × Int) → Prop) (out_100 : List Int) : Prop :=
    nb (slices_Sort_int out_100) fun r14 =>
    againQ (r14, 0)

def iA (againQ : ((List Int) × Int) → Prop) (round_0 : Int) (d_0 : Option bA) (t31_0 : List Int) (t32_0 : Int) (m_0 : aB) : Nat → Int → (List Int) → Prop
  | 0, _, _ => False
  | k0 + 1, t33_0, out_0 =>
    bif decide (t33_0 < t32_0) then (nb (idx t31_0 t33_0) fun x6 =>
    nb (d_0) fun x7 =>
    nb (bif !decide (x6 = (-1)) then ((iN round_0 t33_0).bind fun r8 =>
    some (decide (r8 = m_0))) else (some false)) fun b9 =>
    nb (bif b9 then ((gY x7 t33_0).bind fun r10 =>
    some (decide (round_0 < r10))) else (some false)) fun b11 =>
    bif b11 then (nb (app 8 out_0 ([x6])) fun x12 =>
    (iA againQ round_0 d_0 t31_0 t32_0 m_0 k0) (w64 (t33_0 + 1)) x12)
    else ((iA againQ round_0 d_0 t31_0 t32_0 m_0 k0) (w64 (t33_0 + 1)) out_0))
    else (rH againQ out_0)

def pK (t_0 : aO) (l_1 : List aG) (round_2 : Int) (place_3 : Int) (Q : ((List Int) × Int) → Prop) : Prop :=
    lW t_0 l_1 round_2 place_3 fun r2 =>
    bif !decide (r2.2.2 = 0) then (Q (([] : List Int), r2.2.2))
    else (nb (r2.1) fun x5 =>
    iA Q round_2 r2.1 x5.players (x5.players.length : Int) r2.2.1 BIG 0 ([] : List Int))

def oJ (t_0 : aO) (l_1 : List aG) (Q : (Int × Int) → Prop) : Prop :=
    iM t_0 l_1 fun r2 =>
    bif !decide (r2.2 = 0) then (Q (0, r2.2))
    else (nb (r2.1) fun x3 =>
    nb (r2.1) fun x4 =>
    Q (w64 ((w64 ((x3.Tree.Slots.length : Int) - 1)) - (((x4.won.map fun p : aB × Int => ((fun a : aB => Value.agg ((aK a).map bK).toArray) p.1, aN p.2))).length : Int)), 0))

def rI (againQ : ((Option bA) × (List Int) × Int) → Prop) (d_100 : Option bA) (slots_100 : List Int) : Prop :=
    againQ (d_100, slots_100, 0)

def jR (againQ : ((Option bA) × (List Int) × Int) → Prop) (t20_0 : List Int) (t21_0 : Int) : Nat → (Option bA) → Int → (List Int) → Prop
  | 0, _, _, _ => False
  | k0 + 1, d_0, t22_0, slots_0 =>
    bif decide (t22_0 < t21_0) then (nb (idx t20_0 t22_0) fun x5 =>
    nb (eK x5 0 999) fun r6 =>
    bif !r6 then (againQ ((none : Option bA), ([] : List Int), 1))
    else (nb (d_0) fun x8 =>
    nb (fI x8.players x5) fun r9 =>
    nb (app 8 slots_0 ([r9])) fun x10 =>
    (jR againQ t20_0 t21_0 k0) d_0 (w64 (t22_0 + 1)) x10))
    else (rI againQ d_0 slots_0)

def kY (t_0 : aO) (l_1 : List aG) (players_2 : List Int) (Q : ((Option bA) × (List Int) × Int) → Prop) : Prop :=
    iM t_0 l_1 fun r3 =>
    bif !decide (r3.2 = 0) then (Q ((none : Option bA), ([] : List Int), r3.2))
    else (jR Q players_2 (players_2.length : Int) BIG r3.1 0 ([] : List Int))

def nY (d_100 : bA) : Option Int :=
    some d_100.Tree.Rounds

def gM (d_0 : bA) (slot_0 : Int) (t12_0 : Int) : Nat → Int → Option Int
  | 0, _ => none
  | k0 + 1, t13_0 =>
    bif decide (t13_0 < t12_0) then ((iN t13_0 slot_0).bind fun r1 =>
    (bif !(cT r1 d_0.won) then (some true) else ((idx d_0.players slot_0).bind fun x2 =>
    some (!decide ((cI r1 0 d_0.won) = x2)))).bind fun b3 =>
    bif b3 then (some t13_0)
    else ((gM d_0 slot_0 t12_0 k0) (w64 (t13_0 + 1))))
    else (nY d_0)

def lD (d_0 : bA) (slot_1 : Int) : Option Int :=
    gM d_0 slot_1 d_0.Tree.Rounds BIG 0

def lV (t_0 : aO) (l_1 : List aG) (player_2 : Int) (Q : (cR × Int) → Prop) : Prop :=
    kY t_0 l_1 ([player_2]) fun r3 =>
    bif !decide (r3.2.2 = 0) then (Q ((cR.mk 0 0), r3.2.2))
    else (nb (idx r3.2.1 0) fun x4 =>
    bif decide (x4 < 0) then (Q ((cR.mk 0 0), 3))
    else (nb (r3.1) fun x5 =>
    nb (idx r3.2.1 0) fun x6 =>
    nb (lD x5 x6) fun r7 =>
    nb (idx r3.2.1 0) fun x8 =>
    nb (gY x5 x8) fun r9 =>
    Q ((cR.mk r7 r9), 0)))

def mF : Option Bool :=
    some true

def fH (a_0 : List Int) (b_0 : List Int) : Nat → Int → Option Bool
  | 0, _ => none
  | k0 + 1, i_0 =>
    bif decide (i_0 < (a_0.length : Int)) then ((idx a_0 i_0).bind fun x1 =>
    (idx b_0 i_0).bind fun x2 =>
    bif !decide (x1 = x2) then (some false)
    else ((fH a_0 b_0 k0) (w64 (i_0 + 1))))
    else (mF)

def gN (a_0 : List Int) (b_1 : List Int) : Option Bool :=
    bif !decide ((a_0.length : Int) = (b_1.length : Int)) then (some false)
    else (fH a_0 b_1 BIG 0)

def qQ (a0 : aO) (a1 : List aG) : Option ((List cE) × Int) := jS a0 a1

def lZ (n_100 : Int) : Option Int :=
    some n_100

def gZ (slot_0 : Int) (t_0 : aO) (d_0 : aR) : Nat → Int → Option Int
  | 0, _ => none
  | k0 + 1, n_0 =>
    (bif decide (n_0 < t_0.Rounds) then ((idx d_0.Must n_0).bind fun x3 =>
    (chk (decide (0 ≤ (IntKind.u64.wrap (w64 (n_0 + 1)))))).bind fun u4 =>
    (idx x3 (slot_0.fdiv (2 ^ (min (IntKind.u64.wrap (w64 (n_0 + 1))).toNat 64)))).bind fun x5 =>
    (bif decide (x5 = (-2)) then (some true) else ((idx d_0.Must n_0).bind fun x6 =>
    (chk (decide (0 ≤ (IntKind.u64.wrap (w64 (n_0 + 1)))))).bind fun u7 =>
    (idx x6 (slot_0.fdiv (2 ^ (min (IntKind.u64.wrap (w64 (n_0 + 1))).toNat 64)))).bind fun x8 =>
    (idx d_0.Slots slot_0).bind fun x9 =>
    some (decide (x8 = x9)))).bind fun b10 =>
    some b10) else (some false)).bind fun b11 =>
    bif b11 then ((gZ slot_0 t_0 d_0 k0) (w64 (n_0 + 1)))
    else (lZ n_0)

def iG (t_0 : aO) (d_1 : aR) (slot_2 : Int) : Option Int :=
    gZ slot_2 t_0 d_1 BIG 0

def nI (again0 : Int → (List Int) → Option ((List Int))) (l_101 : List Int) (i_101 : Int) (out_101 : List Int) : Option ((List Int)) :=
    again0 (w64 (i_101 + 1)) out_101

def kW (again0 : Int → (List Int) → Option ((List Int))) (l_102 : List Int) (i_102 : Int) (out_102 : List Int) : Option ((List Int)) :=
    nI again0 l_102 i_102 out_102

def gF (again0 : Int → (List Int) → Option ((List Int))) (l_2 : List Int) (i_2 : Int) : Nat → Int → (List Int) → Option ((List Int))
  | 0, _, _ => none
  | k2 + 1, k_2, out_2 =>
    (bif decide (0 < k_2) then ((idx out_2 k_2).bind fun x5 =>
    (idx out_2 (w64 (k_2 - 1))).bind fun x6 =>
    some (decide (x5 < x6))) else (some false)).bind fun b7 =>
    bif b7 then ((idx out_2 (w64 (k_2 - 1))).bind fun x8 =>
    (idx out_2 k_2).bind fun x9 =>
    (idx out_2 k_2).bind fun x10 =>
    (idx (out_2.set k_2.toNat x8) (w64 (k_2 - 1))).bind fun x11 =>
    (gF again0 l_2 i_2 k2) (w64 (k_2 - 1)) ((out_2.set k_2.toNat x8).set (w64 (k_2 - 1)).toNat x9))
    else (kW again0 l_2 i_2 out_2)

def nH (out_100 : List Int) : Option ((List Int)) :=
    some out_100

def fG (l_0 : List Int) : Nat → Int → (List Int) → Option ((List Int))
  | 0, _, _ => none
  | k0 + 1, i_0, out_0 =>
    bif decide (i_0 < (l_0.length : Int)) then ((idx l_0 i_0).bind fun x2 =>
    (app 8 out_0 ([x2])).bind fun x3 =>
    gF (fG l_0 k0) l_0 i_0 BIG (w64 ((x3.length : Int) - 1)) x3)
    else (nH out_0)

def kU (l_0 : List Int) : Option ((List Int)) :=
    fG l_0 BIG 0 ([] : List Int)

def pG (out_100 : List Int) : Option ((List Int) × Int) :=
    (kU out_100).bind fun r14 =>
    some (r14, 0)

def eX (round_0 : Int) (place_0 : Int) (t_0 : aO) (d_0 : aR) : Nat → Int → (List Int) → Option ((List Int) × Int)
  | 0, _, _ => none
  | k0 + 1, s_0, out_0 =>
    bif decide (s_0 < (d_0.Slots.length : Int)) then ((idx d_0.Slots s_0).bind fun x6 =>
    (bif !decide (x6 = (-1)) then ((chk (decide (0 ≤ (IntKind.u64.wrap (w64 (round_0 + 1)))))).bind fun u7 =>
    some (decide ((s_0.fdiv (2 ^ (min (IntKind.u64.wrap (w64 (round_0 + 1))).toNat 64))) = place_0))) else (some false)).bind fun b8 =>
    (bif b8 then ((iG t_0 d_0 s_0).bind fun r9 =>
    some (decide (round_0 < r9))) else (some false)).bind fun b10 =>
    bif b10 then ((idx d_0.Slots s_0).bind fun x11 =>
    (app 8 out_0 ([x11])).bind fun x12 =>
    (eX round_0 place_0 t_0 d_0 k0) (w64 (s_0 + 1)) x12)
    else ((eX round_0 place_0 t_0 d_0 k0) (w64 (s_0 + 1)) out_0))
    else (pG out_0)

def fB (t_0 : aO) (l_1 : List aG) (round_2 : Int) (place_3 : Int) : Option ((List Int) × Int) :=
    (eU t_0 l_1 round_2 place_3).bind fun r2 =>
    bif !decide (r2 = 0) then (some (([] : List Int), r2))
    else ((dA t_0 l_1).bind fun r3 =>
    eX round_2 place_3 t_0 r3.1 BIG 0 ([] : List Int))

def pN (a0 : aO) (a1 : List aG) (a2 : Int) (a3 : Int) : Option ((List Int) × Int) := fB a0 a1 a2 a3

def sD (again0 : Int → Int → Option (Int × Int)) (n_101 : Int) (r_101 : Int) (t_101 : aO) (d_101 : aR) : Option (Int × Int) :=
    again0 n_101 (w64 (r_101 + 1))

def oN (again0 : Int → Int → Option (Int × Int)) (n_102 : Int) (r_102 : Int) (t_102 : aO) (d_102 : aR) : Option (Int × Int) :=
    sD again0 n_102 r_102 t_102 d_102

def iT (again0 : Int → Int → Option (Int × Int)) (r_2 : Int) (t_2 : aO) (d_2 : aR) : Nat → Int → Int → Option (Int × Int)
  | 0, _, _ => none
  | k2 + 1, n_2, p_2 =>
    (gK t_2 r_2).bind fun r5 =>
    bif decide (p_2 < r5) then ((idx d_2.Must r_2).bind fun x6 =>
    (idx x6 p_2).bind fun x7 =>
    bif decide (x7 = (-2)) then ((iT again0 r_2 t_2 d_2 k2) (w64 (n_2 + 1)) (w64 (p_2 + 1)))
    else ((iT again0 r_2 t_2 d_2 k2) n_2 (w64 (p_2 + 1))))
    else (oN again0 n_2 r_2 t_2 d_2)

def sC (n_100 : Int) : Option (Int × Int) :=
    some (n_100, 0)

def fE (t_0 : aO) (d_0 : aR) : Nat → Int → Int → Option (Int × Int)
  | 0, _, _ => none
  | k0 + 1, n_0, r_0 =>
    bif decide (r_0 < t_0.Rounds) then (iT (fE t_0 d_0 k0) r_0 t_0 d_0 BIG n_0 0)
    else (sC n_0)

def kJ (t_0 : aO) (l_1 : List aG) : Option (Int × Int) :=
    (eQ t_0 l_1).bind fun r2 =>
    bif !decide (r2 = 0) then (some (0, r2))
    else ((dA t_0 l_1).bind fun r3 =>
    fE t_0 r3.1 BIG 0 0)

def rJ (a0 : aO) (a1 : List aG) : Option (Int × Int) := kJ a0 a1

def oR : Option Int :=
    some (-1)

def hC (player_0 : Int) (d_0 : aR) : Nat → Int → Option Int
  | 0, _ => none
  | k0 + 1, s_0 =>
    bif decide (s_0 < (d_0.Slots.length : Int)) then ((idx d_0.Slots s_0).bind fun x2 =>
    bif decide (x2 = player_0) then (some s_0)
    else ((hC player_0 d_0 k0) (w64 (s_0 + 1))))
    else (oR)

def gR (d_0 : aR) (player_1 : Int) : Option Int :=
    hC player_1 d_0 BIG 0

def lO (n_100 : Int) : Option Int :=
    some n_100

def gO (slot_0 : Int) (t_0 : aO) (d_0 : aR) : Nat → Int → Option Int
  | 0, _ => none
  | k0 + 1, n_0 =>
    (bif decide (n_0 < t_0.Rounds) then ((idx d_0.Must n_0).bind fun x3 =>
    (chk (decide (0 ≤ (IntKind.u64.wrap (w64 (n_0 + 1)))))).bind fun u4 =>
    (idx x3 (slot_0.fdiv (2 ^ (min (IntKind.u64.wrap (w64 (n_0 + 1))).toNat 64)))).bind fun x5 =>
    (idx d_0.Slots slot_0).bind fun x6 =>
    some (decide (x5 = x6))) else (some false)).bind fun b7 =>
    bif b7 then ((gO slot_0 t_0 d_0 k0) (w64 (n_0 + 1)))
    else (lO n_0)

def lF (t_0 : aO) (d_1 : aR) (slot_2 : Int) : Option Int :=
    gO slot_2 t_0 d_1 BIG 0

def eJ (t_0 : aO) (l_1 : List aG) (player_2 : Int) : Option (cR × Int) :=
    (eQ t_0 l_1).bind fun r3 =>
    bif !decide (r3 = 0) then (some ((cR.mk 0 0), r3))
    else ((dK player_2 0 999).bind fun r4 =>
    bif !r4 then (some ((cR.mk 0 0), 1))
    else ((dA t_0 l_1).bind fun r5 =>
    (gR r5.1 player_2).bind fun r7 =>
    bif decide (r7 < 0) then (some ((cR.mk 0 0), 3))
    else ((lF t_0 r5.1 r7).bind fun r8 =>
    (iG t_0 r5.1 r7).bind fun r9 =>
    some ((cR.mk r8 r9), 0))))

def mM (a0 : aO) (a1 : List aG) (a2 : Int) : Option (cR × Int) := eJ a0 a1 a2

def lE : Option Bool :=
    (oL).bind fun r1 =>
    (qQ r1.1 r1.2).bind fun r3 =>
    (pN r1.1 r1.2 2 0).bind fun r4 =>
    (rJ r1.1 r1.2).bind fun r5 =>
    (mM r1.1 r1.2 2).bind fun r6 =>
    (bif decide (r3.2 = 0) then (some (decide (r4.2 = 0))) else (some false)).bind fun b8 =>
    (bif b8 then (some (decide (r5.2 = 0))) else (some false)).bind fun b9 =>
    (bif b9 then (some (decide (r6.2 = 0))) else (some false)).bind fun b10 =>
    (bif b10 then (some (decide ((r3.1.length : Int) = 7))) else (some false)).bind fun b11 =>
    (bif b11 then ((idx r3.1 4).bind fun x12 =>
    some (decide (x12 = (cE.mk 1 0 1 2)))) else (some false)).bind fun b13 =>
    (bif b13 then ((idx r3.1 6).bind fun x14 =>
    some (decide (x14 = (cE.mk 2 0 2 (-2))))) else (some false)).bind fun b15 =>
    (bif b15 then ((gN r4.1 ([2, 5, 7, 8])).bind fun r16 =>
    some r16) else (some false)).bind fun b17 =>
    (bif b17 then (some (decide (r5.1 = 3))) else (some false)).bind fun b18 =>
    (bif b18 then (some (decide (r6.1 = (cR.mk 2 3)))) else (some false)).bind fun b19 =>
    some b19

def oD (t_0 : aO) : Option aO :=
    (app 8 ([] : List Int) t_0.Slots).bind fun x3 =>
    some (aO.mk t_0.Rounds x3)

def pI (m_100 : Int) : Option Int :=
    some m_100

def iE (x_0 : List Int) : Nat → Int → Int → Option Int
  | 0, _, _ => none
  | k0 + 1, m_0, i_0 =>
    bif decide (i_0 < (x_0.length : Int)) then ((idx x_0 i_0).bind fun x2 =>
    (iE x_0 k0) (min m_0 x2) (w64 (i_0 + 1)))
    else (pI m_0)

def mW (x_0 : List Int) : Option Int :=
    bif decide ((x_0.length : Int) < 1) then (none)
    else ((idx x_0 0).bind fun x1 =>
    iE x_0 BIG x1 1)

def tV (againQ : (Int × Int) → Prop) : Prop :=
    againQ (0, 3)

def jB (againQ : (Int × Int) → Prop) (d_1 : Option bA) (slots_1 : List Int) (t40_1 : Int) : Nat → Int → Prop
  | 0, _ => False
  | k1 + 1, t41_1 =>
    bif decide (t41_1 < t40_1) then (nb (idx slots_1 0) fun x5 =>
    nb (iN t41_1 x5) fun r6 =>
    nb (idx slots_1 1) fun x7 =>
    nb (iN t41_1 x7) fun r8 =>
    bif decide (r6 = r8) then (nb (d_1) fun x9 =>
    nb (idx slots_1 0) fun x10 =>
    nb (gY x9 x10) fun r11 =>
    nb (idx slots_1 1) fun x12 =>
    nb (gY x9 x12) fun r13 =>
    bif decide ((min r11 r13) < t41_1) then (againQ (0, 3))
    else (againQ (t41_1, 0)))
    else ((jB againQ d_1 slots_1 t40_1 k1) (w64 (t41_1 + 1))))
    else (tV againQ)

def oK (t_0 : aO) (l_1 : List aG) (a_2 : Int) (b_3 : Int) (Q : (Int × Int) → Prop) : Prop :=
    kY t_0 l_1 ([a_2, b_3]) fun r2 =>
    bif !decide (r2.2.2 = 0) then (Q (0, r2.2.2))
    else (bif decide (a_2 = b_3) then (Q (0, 1))
    else (nb (mW r2.2.1) fun r3 =>
    bif decide (r3 < 0) then (Q (0, 3))
    else (nb (r2.1) fun x4 =>
    jB Q r2.1 r2.2.1 x4.Tree.Rounds BIG 0)))

def jZ (x_100 : Int) (y_100 : Int) (r_100 : Int) (t_100 : aO) (d_100 : aR) : Option (Int × Int) :=
    (iG t_100 d_100 x_100).bind fun r14 =>
    (bif decide (r14 < r_100) then (some true) else ((iG t_100 d_100 y_100).bind fun r15 =>
    some (decide (r15 < r_100)))).bind fun b16 =>
    bif b16 then (some (0, 3))
    else (some (r_100, 0))

def eI (x_0 : Int) (y_0 : Int) (t_0 : aO) (d_0 : aR) : Nat → Int → Option (Int × Int)
  | 0, _ => none
  | k0 + 1, r_0 =>
    (chk (decide (0 ≤ (IntKind.u64.wrap (w64 (r_0 + 1)))))).bind fun u12 =>
    (chk (decide (0 ≤ (IntKind.u64.wrap (w64 (r_0 + 1)))))).bind fun u13 =>
    bif !decide ((x_0.fdiv (2 ^ (min (IntKind.u64.wrap (w64 (r_0 + 1))).toNat 64))) = (y_0.fdiv (2 ^ (min (IntKind.u64.wrap (w64 (r_0 + 1))).toNat 64)))) then ((eI x_0 y_0 t_0 d_0 k0) (w64 (r_0 + 1)))
    else (jZ x_0 y_0 r_0 t_0 d_0)

def fT (t_0 : aO) (l_1 : List aG) (a_2 : Int) (b_3 : Int) : Option (Int × Int) :=
    (eQ t_0 l_1).bind fun r2 =>
    bif !decide (r2 = 0) then (some (0, r2))
    else ((dK a_2 0 999).bind fun r3 =>
    (bif !r3 then (some true) else ((dK b_3 0 999).bind fun r4 =>
    some (!r4))).bind fun b5 =>
    (bif b5 then (some true) else (some (decide (a_2 = b_3)))).bind fun b6 =>
    bif b6 then (some (0, 1))
    else ((dA t_0 l_1).bind fun r7 =>
    (gR r7.1 a_2).bind fun r9 =>
    (gR r7.1 b_3).bind fun r10 =>
    (bif decide (r9 < 0) then (some true) else (some (decide (r10 < 0)))).bind fun b11 =>
    bif b11 then (some (0, 3))
    else (eI r9 r10 t_0 r7.1 BIG 0)))

def pU (a0 : aO) (a1 : List aG) (a2 : Int) (a3 : Int) : Option (Int × Int) := dZ a0 a1 a2 a3

def rK (a0 : aO) (a1 : List aG) (a2 : Int) (a3 : Int) : Option (Int × Int) := fT a0 a1 a2 a3

def jV (t_0 : aO) (l_1 : List aG) (x_2 : lT) : Option Bool :=
    (mQ t_0 l_1).bind fun r3 =>
    bif r3 then ((lE).bind fun r4 =>
    some r4)
    else ((oD t_0).bind fun r5 =>
    (app 40 ([] : List aG) l_1).bind fun x6 =>
    (pU r5 x6 x_2.Round x_2.Place).bind fun r8 =>
    (dZ t_0 l_1 x_2.Round x_2.Place).bind fun r9 =>
    (pN r5 x6 x_2.Round x_2.Place).bind fun r10 =>
    (fB t_0 l_1 x_2.Round x_2.Place).bind fun r11 =>
    (bif !decide (r8.1 = r9.1) then (some true) else (some (!decide (r8.2 = r9.2)))).bind fun b12 =>
    (bif b12 then (some true) else ((gN r10.1 r11.1).bind fun r13 =>
    some (!r13))).bind fun b14 =>
    (bif b14 then (some true) else (some (!decide (r10.2 = r11.2)))).bind fun b15 =>
    bif b15 then (some false)
    else ((mM r5 x6 x_2.A).bind fun r16 =>
    (eJ t_0 l_1 x_2.A).bind fun r18 =>
    (rK r5 x6 x_2.A x_2.B).bind fun r20 =>
    (fT t_0 l_1 x_2.A x_2.B).bind fun r21 =>
    (bif decide (r16.1 = r18.1) then (some (decide (r16.2 = r18.2))) else (some false)).bind fun b22 =>
    (bif b22 then (some (decide (r20.1 = r21.1))) else (some false)).bind fun b23 =>
    (bif b23 then (some (decide (r20.2 = r21.2))) else (some false)).bind fun b24 =>
    (bif b24 then ((lE).bind fun r25 =>
    some r25) else (some false)).bind fun b26 =>
    some b26))

end Go.Am
