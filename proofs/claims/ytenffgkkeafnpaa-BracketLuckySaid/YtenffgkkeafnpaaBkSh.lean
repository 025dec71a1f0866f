/- Shallow functions, printed by program. -/
import Derived.Test.YtenffgkkeafnpaaBrSh
import Derived.Test.YtenffgkkeafnpaaAmSort
namespace Go.Am

structure dN where
  Low : Int
  High : Int
  deriving DecidableEq, Inhabited
def dJ (x : dN) : List D := [.lit (.int .i64 x.Low), .lit (.int .i64 x.High)]

structure dL where
  Round : Int
  Place : Int
  A : Int
  B : Int
  deriving DecidableEq, Inhabited
def fC (x : dL) : List D := [.lit (.int .i64 x.Round), .lit (.int .i64 x.Place), .lit (.int .i64 x.A), .lit (.int .i64 x.B)]

def sN (x : dL) : Prop := okI x.Round ∧ okI x.Place ∧ okI x.A ∧ okI x.B

def mL (t_0 : aO) (l_1 : List aE) : Option Bool :=
    (bif decide (100 < (t_0.Slots.length : Int)) then (some true) else (some (decide (100 < (l_1.length : Int))))).bind fun b2 =>
    some b2

def oC : Option (aO × (List aE)) :=
    some ((aO.mk 3 ([1, (-1), 2, 3, 4, 5, 6, 7])), [(aE.mk 1 1 0 2 0), (aE.mk 3 0 3 7 0), (aE.mk 5 0 4 8 4)])

def nO (d_100 : bA) : Option Int :=
    some d_100.Tree.Rounds

def gJ (d_0 : bA) (slot_0 : Int) (t12_0 : Int) : Nat → Int → Option Int
  | 0, _ => none
  | k0 + 1, t13_0 =>
    bif decide (t13_0 < t12_0) then ((kC t13_0 slot_0).bind fun r1 =>
    (bif cQ r1 d_0.won then ((idx d_0.players slot_0).bind fun x2 =>
    some (!decide ((cH r1 0 d_0.won) = x2))) else (some false)).bind fun b3 =>
    bif b3 then (some t13_0)
    else ((gJ d_0 slot_0 t12_0 k0) (w64 (t13_0 + 1))))
    else (nO d_0)

def jU (d_0 : bA) (slot_1 : Int) : Option Int :=
    gJ d_0 slot_1 d_0.Tree.Rounds BIG 0

def slices_Sort_int (x : List Int) : Option (List Int) := if x.length < 4611686018427387904 then some (iL x) else none

def qZ (againQ : ((List Int) × Int) → Prop) (out_100 : List Int) : Prop :=
    nb (slices_Sort_int out_100) fun r14 =>
    againQ (r14, 0)

def gY (againQ : ((List Int) × Int) → Prop) (round_0 : Int) (d_0 : Option bA) (t31_0 : List Int) (t32_0 : Int) (m_0 : aB) : Nat → Int → (List Int) → Prop
  | 0, _, _ => False
  | k0 + 1, t33_0, out_0 =>
    bif decide (t33_0 < t32_0) then (nb (idx t31_0 t33_0) fun x6 =>
    nb (d_0) fun x7 =>
    nb (bif !decide (x6 = (-1)) then ((kC round_0 t33_0).bind fun r8 =>
    some (decide (r8 = m_0))) else (some false)) fun b9 =>
    nb (bif b9 then ((jU x7 t33_0).bind fun r10 =>
    some (decide (round_0 < r10))) else (some false)) fun b11 =>
    bif b11 then (nb (app 8 out_0 ([x6])) fun x12 =>
    (gY againQ round_0 d_0 t31_0 t32_0 m_0 k0) (w64 (t33_0 + 1)) x12)
    else ((gY againQ round_0 d_0 t31_0 t32_0 m_0 k0) (w64 (t33_0 + 1)) out_0))
    else (qZ againQ out_0)

def pA (t_0 : aO) (l_1 : List aE) (round_2 : Int) (place_3 : Int) (Q : ((List Int) × Int) → Prop) : Prop :=
    lT t_0 l_1 round_2 place_3 fun r2 =>
    bif !decide (r2.2.2 = 0) then (Q (([] : List Int), r2.2.2))
    else (nb (r2.1) fun x5 =>
    gY Q round_2 r2.1 x5.players (x5.players.length : Int) r2.2.1 BIG 0 ([] : List Int))

def oB (t_0 : aO) (l_1 : List aE) (Q : (Int × Int) → Prop) : Prop :=
    iH t_0 l_1 fun r2 =>
    bif !decide (r2.2 = 0) then (Q (0, r2.2))
    else (nb (r2.1) fun x3 =>
    nb (r2.1) fun x4 =>
    Q (w64 ((w64 ((x3.Tree.Slots.length : Int) - 1)) - (((x4.won.map fun p : aB × Int => ((fun a : aB => Value.agg ((aJ a).map bK).toArray) p.1, aP p.2))).length : Int)), 0))

def rA (againQ : ((Option bA) × (List Int) × Int) → Prop) (d_100 : Option bA) (slots_100 : List Int) : Prop :=
    againQ (d_100, slots_100, 0)

def jW (againQ : ((Option bA) × (List Int) × Int) → Prop) (t20_0 : List Int) (t21_0 : Int) : Nat → (Option bA) → Int → (List Int) → Prop
  | 0, _, _, _ => False
  | k0 + 1, d_0, t22_0, slots_0 =>
    bif decide (t22_0 < t21_0) then (nb (idx t20_0 t22_0) fun x5 =>
    nb (eN x5 0 999) fun r6 =>
    bif !r6 then (againQ ((none : Option bA), ([] : List Int), 1))
    else (nb (d_0) fun x8 =>
    nb (fF x8.players x5) fun r9 =>
    nb (app 8 slots_0 ([r9])) fun x10 =>
    (jW againQ t20_0 t21_0 k0) d_0 (w64 (t22_0 + 1)) x10))
    else (rA againQ d_0 slots_0)

def mA (t_0 : aO) (l_1 : List aE) (players_2 : List Int) (Q : ((Option bA) × (List Int) × Int) → Prop) : Prop :=
    iH t_0 l_1 fun r3 =>
    bif !decide (r3.2 = 0) then (Q ((none : Option bA), ([] : List Int), r3.2))
    else (jW Q players_2 (players_2.length : Int) BIG r3.1 0 ([] : List Int))

def nP (d_100 : bA) : Option Int :=
    some d_100.Tree.Rounds

def gK (d_0 : bA) (slot_0 : Int) (t12_0 : Int) : Nat → Int → Option Int
  | 0, _ => none
  | k0 + 1, t13_0 =>
    bif decide (t13_0 < t12_0) then ((kC t13_0 slot_0).bind fun r1 =>
    (bif !(cQ r1 d_0.won) then (some true) else ((idx d_0.players slot_0).bind fun x2 =>
    some (!decide ((cH r1 0 d_0.won) = x2)))).bind fun b3 =>
    bif b3 then (some t13_0)
    else ((gK d_0 slot_0 t12_0 k0) (w64 (t13_0 + 1))))
    else (nP d_0)

def lI (d_0 : bA) (slot_1 : Int) : Option Int :=
    gK d_0 slot_1 d_0.Tree.Rounds BIG 0

def lS (t_0 : aO) (l_1 : List aE) (player_2 : Int) (Q : (dN × Int) → Prop) : Prop :=
    mA t_0 l_1 ([player_2]) fun r3 =>
    bif !decide (r3.2.2 = 0) then (Q ((dN.mk 0 0), r3.2.2))
    else (nb (idx r3.2.1 0) fun x4 =>
    bif decide (x4 < 0) then (Q ((dN.mk 0 0), 3))
    else (nb (r3.1) fun x5 =>
    nb (idx r3.2.1 0) fun x6 =>
    nb (lI x5 x6) fun r7 =>
    nb (idx r3.2.1 0) fun x8 =>
    nb (jU x5 x8) fun r9 =>
    Q ((dN.mk r7 r9), 0)))

def pB : Option Bool :=
    some true

def kD (a_0 : List Int) (b_0 : List Int) : Nat → Int → Option Bool
  | 0, _ => none
  | k0 + 1, i_0 =>
    bif decide (i_0 < (a_0.length : Int)) then ((idx a_0 i_0).bind fun x1 =>
    (idx b_0 i_0).bind fun x2 =>
    bif !decide (x1 = x2) then (some false)
    else ((kD a_0 b_0 k0) (w64 (i_0 + 1))))
    else (pB)

def nQ (a_0 : List Int) (b_1 : List Int) : Option Bool :=
    bif !decide ((a_0.length : Int) = (b_1.length : Int)) then (some false)
    else (kD a_0 b_1 BIG 0)

def lU (a0 : aO) (a1 : List aE) : Option ((List bO) × Int) := jY a0 a1

def oG (n_100 : Int) : Option Int :=
    some n_100

def kH (slot_0 : Int) (t_0 : aO) (d_0 : aQ) : Nat → Int → Option Int
  | 0, _ => none
  | k0 + 1, n_0 =>
    (bif decide (n_0 < t_0.Rounds) then ((idx d_0.Must n_0).bind fun x3 =>
    (chk (decide (0 ≤ (IntKind.u64.wrap (w64 (n_0 + 1)))))).bind fun u4 =>
    (idx x3 (slot_0.fdiv (2 ^ (min (IntKind.u64.wrap (w64 (n_0 + 1))).toNat 64)))).bind fun x5 =>
    (bif decide (x5 = (-2)) then (some true) else ((idx d_0.Must n_0).bind fun x6 =>
    (chk (decide (0 ≤ (IntKind.u64.wrap (w64 (n_0 + 1)))))).bind fun u7 =>
    (idx x6 (slot_0.fdiv (2 ^ (min (IntKind.u64.wrap (w64 (n_0 + 1))).toNat 64)))).bind fun x8 =>
    (idx d_0.Slots slot_0).bind fun x9 =>
    some (decide (x8 = x9)))).bind fun b10 =>
    some b10) else (some false)).bind fun b11 =>
    bif b11 then ((kH slot_0 t_0 d_0 k0) (w64 (n_0 + 1)))
    else (oG n_0)

def nW (t_0 : aO) (d_1 : aQ) (slot_2 : Int) : Option Int :=
    kH slot_2 t_0 d_1 BIG 0

def qG (again0 : Int → (List Int) → Option ((List Int))) (l_101 : List Int) (i_101 : Int) (out_101 : List Int) : Option ((List Int)) :=
    again0 (w64 (i_101 + 1)) out_101

def nD (again0 : Int → (List Int) → Option ((List Int))) (l_102 : List Int) (i_102 : Int) (out_102 : List Int) : Option ((List Int)) :=
    qG again0 l_102 i_102 out_102

def jH (again0 : Int → (List Int) → Option ((List Int))) (l_2 : List Int) (i_2 : Int) : Nat → Int → (List Int) → Option ((List Int))
  | 0, _, _ => none
  | k2 + 1, k_2, out_2 =>
    (bif decide (0 < k_2) then ((idx out_2 k_2).bind fun x5 =>
    (idx out_2 (w64 (k_2 - 1))).bind fun x6 =>
    some (decide (x5 < x6))) else (some false)).bind fun b7 =>
    bif b7 then ((idx out_2 (w64 (k_2 - 1))).bind fun x8 =>
    (idx out_2 k_2).bind fun x9 =>
    (idx out_2 k_2).bind fun x10 =>
    (idx (out_2.set k_2.toNat x8) (w64 (k_2 - 1))).bind fun x11 =>
    (jH again0 l_2 i_2 k2) (w64 (k_2 - 1)) ((out_2.set k_2.toNat x8).set (w64 (k_2 - 1)).toNat x9))
    else (nD again0 l_2 i_2 out_2)

def qF (out_100 : List Int) : Option ((List Int)) :=
    some out_100

def jG (l_0 : List Int) : Nat → Int → (List Int) → Option ((List Int))
  | 0, _, _ => none
  | k0 + 1, i_0, out_0 =>
    bif decide (i_0 < (l_0.length : Int)) then ((idx l_0 i_0).bind fun x2 =>
    (app 8 out_0 ([x2])).bind fun x3 =>
    jH (jG l_0 k0) l_0 i_0 BIG (w64 ((x3.length : Int) - 1)) x3)
    else (qF out_0)

def oZ (l_0 : List Int) : Option ((List Int)) :=
    jG l_0 BIG 0 ([] : List Int)

def sL (out_100 : List Int) : Option ((List Int) × Int) :=
    (oZ out_100).bind fun r14 =>
    some (r14, 0)

def gG (round_0 : Int) (place_0 : Int) (t_0 : aO) (d_0 : aQ) : Nat → Int → (List Int) → Option ((List Int) × Int)
  | 0, _, _ => none
  | k0 + 1, s_0, out_0 =>
    bif decide (s_0 < (d_0.Slots.length : Int)) then ((idx d_0.Slots s_0).bind fun x6 =>
    (bif !decide (x6 = (-1)) then ((chk (decide (0 ≤ (IntKind.u64.wrap (w64 (round_0 + 1)))))).bind fun u7 =>
    some (decide ((s_0.fdiv (2 ^ (min (IntKind.u64.wrap (w64 (round_0 + 1))).toNat 64))) = place_0))) else (some false)).bind fun b8 =>
    (bif b8 then ((nW t_0 d_0 s_0).bind fun r9 =>
    some (decide (round_0 < r9))) else (some false)).bind fun b10 =>
    bif b10 then ((idx d_0.Slots s_0).bind fun x11 =>
    (app 8 out_0 ([x11])).bind fun x12 =>
    (gG round_0 place_0 t_0 d_0 k0) (w64 (s_0 + 1)) x12)
    else ((gG round_0 place_0 t_0 d_0 k0) (w64 (s_0 + 1)) out_0))
    else (sL out_0)

def iU (t_0 : aO) (l_1 : List aE) (round_2 : Int) (place_3 : Int) : Option ((List Int) × Int) :=
    (gT t_0 l_1 round_2 place_3).bind fun r2 =>
    bif !decide (r2 = 0) then (some (([] : List Int), r2))
    else ((cS t_0 l_1).bind fun r3 =>
    gG round_2 place_3 t_0 r3.1 BIG 0 ([] : List Int))

def sI (a0 : aO) (a1 : List aE) (a2 : Int) (a3 : Int) : Option ((List Int) × Int) := iU a0 a1 a2 a3

def rW (again0 : Int → Int → Option (Int × Int)) (n_101 : Int) (r_101 : Int) (t_101 : aO) (d_101 : aQ) : Option (Int × Int) :=
    again0 n_101 (w64 (r_101 + 1))

def oD (again0 : Int → Int → Option (Int × Int)) (n_102 : Int) (r_102 : Int) (t_102 : aO) (d_102 : aQ) : Option (Int × Int) :=
    rW again0 n_102 r_102 t_102 d_102

def iT (again0 : Int → Int → Option (Int × Int)) (r_2 : Int) (t_2 : aO) (d_2 : aQ) : Nat → Int → Int → Option (Int × Int)
  | 0, _, _ => none
  | k2 + 1, n_2, p_2 =>
    (gH t_2 r_2).bind fun r5 =>
    bif decide (p_2 < r5) then ((idx d_2.Must r_2).bind fun x6 =>
    (idx x6 p_2).bind fun x7 =>
    bif decide (x7 = (-2)) then ((iT again0 r_2 t_2 d_2 k2) (w64 (n_2 + 1)) (w64 (p_2 + 1)))
    else ((iT again0 r_2 t_2 d_2 k2) n_2 (w64 (p_2 + 1))))
    else (oD again0 n_2 r_2 t_2 d_2)

def rV (n_100 : Int) : Option (Int × Int) :=
    some (n_100, 0)

def fA (t_0 : aO) (d_0 : aQ) : Nat → Int → Int → Option (Int × Int)
  | 0, _, _ => none
  | k0 + 1, n_0, r_0 =>
    bif decide (r_0 < t_0.Rounds) then (iT (fA t_0 d_0 k0) r_0 t_0 d_0 BIG n_0 0)
    else (rV n_0)

def kP (t_0 : aO) (l_1 : List aE) : Option (Int × Int) :=
    (eQ t_0 l_1).bind fun r2 =>
    bif !decide (r2 = 0) then (some (0, r2))
    else ((cS t_0 l_1).bind fun r3 =>
    fA t_0 r3.1 BIG 0 0)

def rB (a0 : aO) (a1 : List aE) : Option (Int × Int) := kP a0 a1

def rX : Option Int :=
    some (-1)

def kJ (player_0 : Int) (d_0 : aQ) : Nat → Int → Option Int
  | 0, _ => none
  | k0 + 1, s_0 =>
    bif decide (s_0 < (d_0.Slots.length : Int)) then ((idx d_0.Slots s_0).bind fun x2 =>
    bif decide (x2 = player_0) then (some s_0)
    else ((kJ player_0 d_0 k0) (w64 (s_0 + 1))))
    else (rX)

def qE (d_0 : aQ) (player_1 : Int) : Option Int :=
    kJ player_1 d_0 BIG 0

def nS (n_100 : Int) : Option Int :=
    some n_100

def jT (slot_0 : Int) (t_0 : aO) (d_0 : aQ) : Nat → Int → Option Int
  | 0, _ => none
  | k0 + 1, n_0 =>
    (bif decide (n_0 < t_0.Rounds) then ((idx d_0.Must n_0).bind fun x3 =>
    (chk (decide (0 ≤ (IntKind.u64.wrap (w64 (n_0 + 1)))))).bind fun u4 =>
    (idx x3 (slot_0.fdiv (2 ^ (min (IntKind.u64.wrap (w64 (n_0 + 1))).toNat 64)))).bind fun x5 =>
    (idx d_0.Slots slot_0).bind fun x6 =>
    some (decide (x5 = x6))) else (some false)).bind fun b7 =>
    bif b7 then ((jT slot_0 t_0 d_0 k0) (w64 (n_0 + 1)))
    else (nS n_0)

def pM (t_0 : aO) (d_1 : aQ) (slot_2 : Int) : Option Int :=
    jT slot_2 t_0 d_1 BIG 0

def iW (t_0 : aO) (l_1 : List aE) (player_2 : Int) : Option (dN × Int) :=
    (eQ t_0 l_1).bind fun r3 =>
    bif !decide (r3 = 0) then (some ((dN.mk 0 0), r3))
    else ((dS player_2 0 999).bind fun r4 =>
    bif !r4 then (some ((dN.mk 0 0), 1))
    else ((cS t_0 l_1).bind fun r5 =>
    (qE r5.1 player_2).bind fun r7 =>
    bif decide (r7 < 0) then (some ((dN.mk 0 0), 3))
    else ((pM t_0 r5.1 r7).bind fun r8 =>
    (nW t_0 r5.1 r7).bind fun r9 =>
    some ((dN.mk r8 r9), 0))))

def iC (a0 : aO) (a1 : List aE) (a2 : Int) : Option (dN × Int) := iW a0 a1 a2

def gV : Option Bool :=
    (oC).bind fun r1 =>
    (lU r1.1 r1.2).bind fun r3 =>
    (sI r1.1 r1.2 2 0).bind fun r4 =>
    (rB r1.1 r1.2).bind fun r5 =>
    (iC r1.1 r1.2 2).bind fun r6 =>
    (bif decide (r3.2 = 0) then (some (decide (r4.2 = 0))) else (some false)).bind fun b8 =>
    (bif b8 then (some (decide (r5.2 = 0))) else (some false)).bind fun b9 =>
    (bif b9 then (some (decide (r6.2 = 0))) else (some false)).bind fun b10 =>
    (bif b10 then (some (decide ((r3.1.length : Int) = 7))) else (some false)).bind fun b11 =>
    (bif b11 then ((idx r3.1 4).bind fun x12 =>
    some (decide (x12 = (bO.mk 1 0 1 2)))) else (some false)).bind fun b13 =>
    (bif b13 then ((idx r3.1 6).bind fun x14 =>
    some (decide (x14 = (bO.mk 2 0 2 (-2))))) else (some false)).bind fun b15 =>
    (bif b15 then ((nQ r4.1 ([2, 5, 7, 8])).bind fun r16 =>
    some r16) else (some false)).bind fun b17 =>
    (bif b17 then (some (decide (r5.1 = 3))) else (some false)).bind fun b18 =>
    (bif b18 then (some (decide (r6.1 = (dN.mk 2 3)))) else (some false)).bind fun b19 =>
    some b19

def mZ (a0 : aO) (a1 : List aE) (a2 : Int) (a3 : Int) : Option (Int × Int) := gI a0 a1 a2 a3

def jX (t_0 : aO) (l_1 : List aE) : Option Bool :=
    (mL t_0 l_1).bind fun r2 =>
    (bif !r2 then ((eQ t_0 l_1).bind fun r3 =>
    some (decide (r3 = 0))) else (some false)).bind fun b4 =>
    some b4

def oY (bouts_100 : List bO) (winners_100 : List Int) : Option ((List bO) × (List Int) × Bool) :=
    some (bouts_100, winners_100, true)

def fL (l_0 : List aE) (t_0 : aO) : Nat → (List bO) → Int → (List Int) → Option ((List bO) × (List Int) × Bool)
  | 0, _, _, _ => none
  | k0 + 1, bouts_0, i_0, winners_0 =>
    bif decide (i_0 < (bouts_0.length : Int)) then ((idx bouts_0 i_0).bind fun x6 =>
    (idx bouts_0 i_0).bind fun x7 =>
    (mZ t_0 l_0 x6.Round x7.Place).bind fun r8 =>
    bif decide (r8.2 = 3) then ((app 8 winners_0 ([(-2)])).bind fun x9 =>
    (fL l_0 t_0 k0) bouts_0 (w64 (i_0 + 1)) x9)
    else (bif !decide (r8.2 = 0) then (some (([] : List bO), ([] : List Int), false))
    else ((app 8 winners_0 ([r8.1])).bind fun x12 =>
    (fL l_0 t_0 k0) bouts_0 (w64 (i_0 + 1)) x12)))
    else (oY bouts_0 winners_0)

def lG (t_0 : aO) (l_1 : List aE) : Option ((List bO) × (List Int) × Bool) :=
    (lU t_0 l_1).bind fun r3 =>
    (bif !decide (r3.2 = 0) then (some true) else (some (!decide ((r3.1.length : Int) = (w64 ((t_0.Slots.length : Int) - 1)))))).bind fun b4 =>
    bif b4 then (some (([] : List bO), ([] : List Int), false))
    else (fL l_1 t_0 BIG r3.1 0 ([] : List Int))

def gU (n_0 : Int) (old_1 : Int) (player_2 : Int) : Option Int :=
    bif decide (n_0 = old_1) then (some player_2)
    else (some n_0)

def iK (l_104 : List aE) (old_104 : Int) (more_104 : List aE) (t_104 : aO) (x_104 : dL) : Option Bool :=
    (iC t_104 l_104 old_104).bind fun r44 =>
    (iC t_104 more_104 x_104.A).bind fun r46 =>
    (iC t_104 more_104 old_104).bind fun r48 =>
    (bif decide (r44.2 = 0) then (some (decide (r46.2 = 0))) else (some false)).bind fun b50 =>
    (bif b50 then (some (decide (r48.2 = 3))) else (some false)).bind fun b51 =>
    (bif b51 then (some (decide (r44.1 = r46.1))) else (some false)).bind fun b52 =>
    (bif b52 then ((gV).bind fun r53 =>
    some r53) else (some false)).bind fun b54 =>
    some b54

def dI (l_4 : List aE) (old_4 : Int) (more_4 : List aE) (a_4 : List bO) (m_4 : List Int) (b_4 : List bO) (n_4 : List Int) (t_4 : aO) (x_4 : dL) : Nat → Int → Option Bool
  | 0, _ => none
  | k4 + 1, i_4 =>
    bif decide (i_4 < (a_4.length : Int)) then ((idx a_4 i_4).bind fun x33 =>
    (gU x33.One old_4 x_4.A).bind fun r34 =>
    (idx b_4 i_4).bind fun x35 =>
    (bif !decide (r34 = x35.One) then (some true) else ((idx a_4 i_4).bind fun x36 =>
    (gU x36.Two old_4 x_4.A).bind fun r37 =>
    (idx b_4 i_4).bind fun x38 =>
    some (!decide (r37 = x38.Two)))).bind fun b39 =>
    (bif b39 then (some true) else ((idx m_4 i_4).bind fun x40 =>
    (gU x40 old_4 x_4.A).bind fun r41 =>
    (idx n_4 i_4).bind fun x42 =>
    some (!decide (r41 = x42)))).bind fun b43 =>
    bif b43 then (some false)
    else ((dI l_4 old_4 more_4 a_4 m_4 b_4 n_4 t_4 x_4 k4) (w64 (i_4 + 1))))
    else (iK l_4 old_4 more_4 t_4 x_4)

def iJ (l_102 : List aE) (old_102 : Int) (t_102 : aO) (x_102 : dL) : Option Bool :=
    (app 40 ([] : List aE) l_102).bind fun x26 =>
    (app 40 x26 ([(aE.mk 5 0 x_102.Place x_102.A old_102)])).bind fun x28 =>
    (lG t_102 l_102).bind fun r30 =>
    (lG t_102 x28).bind fun r31 =>
    (bif !r30.2.2 then (some true) else (some (!r31.2.2))).bind fun b32 =>
    bif b32 then (some false)
    else (dI l_102 old_102 x28 r30.1 r30.2.1 r31.1 r31.2.1 t_102 x_102 BIG 0)

def eE (l_2 : List aE) (old_2 : Int) (t_2 : aO) (x_2 : dL) : Nat → Int → Option Bool
  | 0, _ => none
  | k2 + 1, i_2 =>
    bif decide (i_2 < (l_2.length : Int)) then ((idx l_2 i_2).bind fun x19 =>
    (bif decide (x19.Player = x_2.A) then (some true) else ((idx l_2 i_2).bind fun x20 =>
    (bif !decide (x20.Kind = 5) then ((idx l_2 i_2).bind fun x21 =>
    some (decide (x21.Player = old_2))) else (some false)).bind fun b22 =>
    some b22)).bind fun b23 =>
    bif b23 then ((gV).bind fun r24 =>
    some r24)
    else ((eE l_2 old_2 t_2 x_2 k2) (w64 (i_2 + 1))))
    else (iJ l_2 old_2 t_2 x_2)

def iI (l_100 : List aE) (old_100 : Int) (t_100 : aO) (x_100 : dL) : Option Bool :=
    eE l_100 old_100 t_100 x_100 BIG 0

def dH (l_0 : List aE) (slots_0 : List Int) (old_0 : Int) (t_0 : aO) (x_0 : dL) : Nat → Int → Option Bool
  | 0, _ => none
  | k0 + 1, i_0 =>
    bif decide (i_0 < (t_0.Slots.length : Int)) then ((idx t_0.Slots i_0).bind fun x15 =>
    (bif decide (x15 = x_0.A) then (some true) else ((idx slots_0 i_0).bind fun x16 =>
    some (decide (x16 = x_0.A)))).bind fun b17 =>
    bif b17 then ((gV).bind fun r18 =>
    some r18)
    else ((dH l_0 slots_0 old_0 t_0 x_0 k0) (w64 (i_0 + 1))))
    else (iI l_0 old_0 t_0 x_0)

def jQ (t_0 : aO) (l_1 : List aE) (x_2 : dL) : Option Bool :=
    (jX t_0 l_1).bind fun r3 =>
    (bif !r3 then (some true) else (some (decide (59 < (l_1.length : Int))))).bind fun b4 =>
    (bif b4 then (some true) else (some (decide (x_2.Place < 0)))).bind fun b5 =>
    (bif b5 then (some true) else (some (decide ((t_0.Slots.length : Int) ≤ x_2.Place)))).bind fun b6 =>
    (bif b6 then (some true) else (some (decide (x_2.A < 0)))).bind fun b7 =>
    (bif b7 then (some true) else (some (decide (999 < x_2.A)))).bind fun b8 =>
    bif b8 then ((gV).bind fun r9 =>
    some r9)
    else ((gW t_0 l_1).bind fun r10 =>
    (bif !r10.2 then (some true) else ((idx r10.1 x_2.Place).bind fun x11 =>
    some (decide (x11 = (-1))))).bind fun b12 =>
    bif b12 then ((gV).bind fun r13 =>
    some r13)
    else ((idx r10.1 x_2.Place).bind fun x14 =>
    dH l_1 r10.1 x14 t_0 x_2 BIG 0))

end Go.Am
