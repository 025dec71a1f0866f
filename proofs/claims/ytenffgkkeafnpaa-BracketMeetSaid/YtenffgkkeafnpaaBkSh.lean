/- Shallow functions, printed by program. -/
import Derived.Test.YtenffgkkeafnpaaBrSh
import Derived.Test.YtenffgkkeafnpaaAmSort
namespace Go.Am

structure dR where
  Low : Int
  High : Int
  deriving DecidableEq, Inhabited
def fF (x : dR) : List D := [.lit (.int .i64 x.Low), .lit (.int .i64 x.High)]

structure dP where
  Round : Int
  Place : Int
  A : Int
  B : Int
  deriving DecidableEq, Inhabited
def fY (x : dP) : List D := [.lit (.int .i64 x.Round), .lit (.int .i64 x.Place), .lit (.int .i64 x.A), .lit (.int .i64 x.B)]

def sV (x : dP) : Prop := okI x.Round ∧ okI x.Place ∧ okI x.A ∧ okI x.B

def nB (t_0 : aO) (l_1 : List aE) : Option Bool :=
    (bif decide (100 < (t_0.Slots.length : Int)) then (some true) else (some (decide (100 < (l_1.length : Int))))).bind fun b2 =>
    some b2

def oY : Option (aO × (List aE)) :=
    some ((aO.mk 3 ([1, (-1), 2, 3, 4, 5, 6, 7])), [(aE.mk 1 1 0 2 0), (aE.mk 3 0 3 7 0), (aE.mk 5 0 4 8 4)])

def oJ (d_100 : bB) : Option Int :=
    some d_100.Tree.Rounds

def gM (d_0 : bB) (slot_0 : Int) (t12_0 : Int) : Nat → Int → Option Int
  | 0, _ => none
  | k0 + 1, t13_0 =>
    bif decide (t13_0 < t12_0) then ((iO t13_0 slot_0).bind fun r1 =>
    (bif cY r1 d_0.won then ((idx d_0.players slot_0).bind fun x2 =>
    some (!decide ((cP r1 0 d_0.won) = x2))) else (some false)).bind fun b3 =>
    bif b3 then (some t13_0)
    else ((gM d_0 slot_0 t12_0 k0) (w64 (t13_0 + 1))))
    else (oJ d_0)

def gX (d_0 : bB) (slot_1 : Int) : Option Int :=
    gM d_0 slot_1 d_0.Tree.Rounds BIG 0

def slices_Sort_int (x : List Int) : Option (List Int) := if x.length < 4611686018427387904 then some (iP x) else none

def rL (againQ : ((List Int) × Int) → Prop) (out_100 : List Int) : Prop :=
    nb (slices_Sort_int out_100) fun r14 =>
    againQ (r14, 0)

def iC (againQ : ((List Int) × Int) → Prop) (round_0 : Int) (d_0 : Option bB) (t31_0 : List Int) (t32_0 : Int) (m_0 : aB) : Nat → Int → (List Int) → Prop
  | 0, _, _ => False
  | k0 + 1, t33_0, out_0 =>
    bif decide (t33_0 < t32_0) then (nb (idx t31_0 t33_0) fun x6 =>
    nb (d_0) fun x7 =>
    nb (bif !decide (x6 = (-1)) then ((iO round_0 t33_0).bind fun r8 =>
    some (decide (r8 = m_0))) else (some false)) fun b9 =>
    nb (bif b9 then ((gX x7 t33_0).bind fun r10 =>
    some (decide (round_0 < r10))) else (some false)) fun b11 =>
    bif b11 then (nb (app 8 out_0 ([x6])) fun x12 =>
    (iC againQ round_0 d_0 t31_0 t32_0 m_0 k0) (w64 (t33_0 + 1)) x12)
    else ((iC againQ round_0 d_0 t31_0 t32_0 m_0 k0) (w64 (t33_0 + 1)) out_0))
    else (rL againQ out_0)

def pQ (t_0 : aO) (l_1 : List aE) (round_2 : Int) (place_3 : Int) (Q : ((List Int) × Int) → Prop) : Prop :=
    nP t_0 l_1 round_2 place_3 fun r2 =>
    bif !decide (r2.2.2 = 0) then (Q (([] : List Int), r2.2.2))
    else (nb (r2.1) fun x5 =>
    iC Q round_2 r2.1 x5.players (x5.players.length : Int) r2.2.1 BIG 0 ([] : List Int))

def oW (t_0 : aO) (l_1 : List aE) (Q : (Int × Int) → Prop) : Prop :=
    gY t_0 l_1 fun r2 =>
    bif !decide (r2.2 = 0) then (Q (0, r2.2))
    else (nb (r2.1) fun x3 =>
    nb (r2.1) fun x4 =>
    Q (w64 ((w64 ((x3.Tree.Slots.length : Int) - 1)) - (((x4.won.map fun p : aB × Int => ((fun a : aB => Value.agg ((aK a).map bK).toArray) p.1, aP p.2))).length : Int)), 0))

def rM (againQ : ((Option bB) × (List Int) × Int) → Prop) (d_100 : Option bB) (slots_100 : List Int) : Prop :=
    againQ (d_100, slots_100, 0)

def kD (againQ : ((Option bB) × (List Int) × Int) → Prop) (t20_0 : List Int) (t21_0 : Int) : Nat → (Option bB) → Int → (List Int) → Prop
  | 0, _, _, _ => False
  | k0 + 1, d_0, t22_0, slots_0 =>
    bif decide (t22_0 < t21_0) then (nb (idx t20_0 t22_0) fun x5 =>
    nb (eP x5 0 999) fun r6 =>
    bif !r6 then (againQ ((none : Option bB), ([] : List Int), 1))
    else (nb (d_0) fun x8 =>
    nb (fH x8.players x5) fun r9 =>
    nb (app 8 slots_0 ([r9])) fun x10 =>
    (kD againQ t20_0 t21_0 k0) d_0 (w64 (t22_0 + 1)) x10))
    else (rM againQ d_0 slots_0)

def lM (t_0 : aO) (l_1 : List aE) (players_2 : List Int) (Q : ((Option bB) × (List Int) × Int) → Prop) : Prop :=
    gY t_0 l_1 fun r3 =>
    bif !decide (r3.2 = 0) then (Q ((none : Option bB), ([] : List Int), r3.2))
    else (kD Q players_2 (players_2.length : Int) BIG r3.1 0 ([] : List Int))

def oK (d_100 : bB) : Option Int :=
    some d_100.Tree.Rounds

def gN (d_0 : bB) (slot_0 : Int) (t12_0 : Int) : Nat → Int → Option Int
  | 0, _ => none
  | k0 + 1, t13_0 =>
    bif decide (t13_0 < t12_0) then ((iO t13_0 slot_0).bind fun r1 =>
    (bif !(cY r1 d_0.won) then (some true) else ((idx d_0.players slot_0).bind fun x2 =>
    some (!decide ((cP r1 0 d_0.won) = x2)))).bind fun b3 =>
    bif b3 then (some t13_0)
    else ((gN d_0 slot_0 t12_0 k0) (w64 (t13_0 + 1))))
    else (oK d_0)

def lW (d_0 : bB) (slot_1 : Int) : Option Int :=
    gN d_0 slot_1 d_0.Tree.Rounds BIG 0

def mK (t_0 : aO) (l_1 : List aE) (player_2 : Int) (Q : (dR × Int) → Prop) : Prop :=
    lM t_0 l_1 ([player_2]) fun r3 =>
    bif !decide (r3.2.2 = 0) then (Q ((dR.mk 0 0), r3.2.2))
    else (nb (idx r3.2.1 0) fun x4 =>
    bif decide (x4 < 0) then (Q ((dR.mk 0 0), 3))
    else (nb (r3.1) fun x5 =>
    nb (idx r3.2.1 0) fun x6 =>
    nb (lW x5 x6) fun r7 =>
    nb (idx r3.2.1 0) fun x8 =>
    nb (gX x5 x8) fun r9 =>
    Q ((dR.mk r7 r9), 0)))

def pR : Option Bool :=
    some true

def kK (a_0 : List Int) (b_0 : List Int) : Nat → Int → Option Bool
  | 0, _ => none
  | k0 + 1, i_0 =>
    bif decide (i_0 < (a_0.length : Int)) then ((idx a_0 i_0).bind fun x1 =>
    (idx b_0 i_0).bind fun x2 =>
    bif !decide (x1 = x2) then (some false)
    else ((kK a_0 b_0 k0) (w64 (i_0 + 1))))
    else (pR)

def oL (a_0 : List Int) (b_1 : List Int) : Option Bool :=
    bif !decide ((a_0.length : Int) = (b_1.length : Int)) then (some false)
    else (kK a_0 b_1 BIG 0)

def mM (a0 : aO) (a1 : List aE) : Option ((List cF) × Int) := kF a0 a1

def pC (n_100 : Int) : Option Int :=
    some n_100

def kO (slot_0 : Int) (t_0 : aO) (d_0 : aQ) : Nat → Int → Option Int
  | 0, _ => none
  | k0 + 1, n_0 =>
    (bif decide (n_0 < t_0.Rounds) then ((idx d_0.Must n_0).bind fun x3 =>
    (chk (decide (0 ≤ (IntKind.u64.wrap (w64 (n_0 + 1)))))).bind fun u4 =>
    (idx x3 (slot_0.fdiv (2 ^ (min (IntKind.u64.wrap (w64 (n_0 + 1))).toNat 64)))).bind fun x5 =>
    (bif decide (x5 = (-2)) then (some true) else ((idx d_0.Must n_0).bind fun x6 =>
    (chk (decide (0 ≤ (IntKind.u64.wrap (w64 (n_0 + 1)))))).bind fun u7 =>
    (idx x6 (slot_0.fdiv (2 ^ (min (IntKind.u64.wrap (w64 (n_0 + 1))).toNat 64)))).bind fun x8 =>
    (idx d_0.Slots slot_0).bind fun x9 =>
    some (decide (x8 = x9)))).bind fun b10 =>
    some b10) else (some false)).bind fun b11 =>
    bif b11 then ((kO slot_0 t_0 d_0 k0) (w64 (n_0 + 1)))
    else (pC n_0)

def kZ (t_0 : aO) (d_1 : aQ) (slot_2 : Int) : Option Int :=
    kO slot_2 t_0 d_1 BIG 0

def qW (again0 : Int → (List Int) → Option ((List Int))) (l_101 : List Int) (i_101 : Int) (out_101 : List Int) : Option ((List Int)) :=
    again0 (w64 (i_101 + 1)) out_101

def nU (again0 : Int → (List Int) → Option ((List Int))) (l_102 : List Int) (i_102 : Int) (out_102 : List Int) : Option ((List Int)) :=
    qW again0 l_102 i_102 out_102

def jK (again0 : Int → (List Int) → Option ((List Int))) (l_2 : List Int) (i_2 : Int) : Nat → Int → (List Int) → Option ((List Int))
  | 0, _, _ => none
  | k2 + 1, k_2, out_2 =>
    (bif decide (0 < k_2) then ((idx out_2 k_2).bind fun x5 =>
    (idx out_2 (w64 (k_2 - 1))).bind fun x6 =>
    some (decide (x5 < x6))) else (some false)).bind fun b7 =>
    bif b7 then ((idx out_2 (w64 (k_2 - 1))).bind fun x8 =>
    (idx out_2 k_2).bind fun x9 =>
    (idx out_2 k_2).bind fun x10 =>
    (idx (out_2.set k_2.toNat x8) (w64 (k_2 - 1))).bind fun x11 =>
    (jK again0 l_2 i_2 k2) (w64 (k_2 - 1)) ((out_2.set k_2.toNat x8).set (w64 (k_2 - 1)).toNat x9))
    else (nU again0 l_2 i_2 out_2)

def qV (out_100 : List Int) : Option ((List Int)) :=
    some out_100

def jJ (l_0 : List Int) : Nat → Int → (List Int) → Option ((List Int))
  | 0, _, _ => none
  | k0 + 1, i_0, out_0 =>
    bif decide (i_0 < (l_0.length : Int)) then ((idx l_0 i_0).bind fun x2 =>
    (app 8 out_0 ([x2])).bind fun x3 =>
    jK (jJ l_0 k0) l_0 i_0 BIG (w64 ((x3.length : Int) - 1)) x3)
    else (qV out_0)

def pO (l_0 : List Int) : Option ((List Int)) :=
    jJ l_0 BIG 0 ([] : List Int)

def sT (out_100 : List Int) : Option ((List Int) × Int) :=
    (pO out_100).bind fun r14 =>
    some (r14, 0)

def gK (round_0 : Int) (place_0 : Int) (t_0 : aO) (d_0 : aQ) : Nat → Int → (List Int) → Option ((List Int) × Int)
  | 0, _, _ => none
  | k0 + 1, s_0, out_0 =>
    bif decide (s_0 < (d_0.Slots.length : Int)) then ((idx d_0.Slots s_0).bind fun x6 =>
    (bif !decide (x6 = (-1)) then ((chk (decide (0 ≤ (IntKind.u64.wrap (w64 (round_0 + 1)))))).bind fun u7 =>
    some (decide ((s_0.fdiv (2 ^ (min (IntKind.u64.wrap (w64 (round_0 + 1))).toNat 64))) = place_0))) else (some false)).bind fun b8 =>
    (bif b8 then ((kZ t_0 d_0 s_0).bind fun r9 =>
    some (decide (round_0 < r9))) else (some false)).bind fun b10 =>
    bif b10 then ((idx d_0.Slots s_0).bind fun x11 =>
    (app 8 out_0 ([x11])).bind fun x12 =>
    (gK round_0 place_0 t_0 d_0 k0) (w64 (s_0 + 1)) x12)
    else ((gK round_0 place_0 t_0 d_0 k0) (w64 (s_0 + 1)) out_0))
    else (sT out_0)

def iW (t_0 : aO) (l_1 : List aE) (round_2 : Int) (place_3 : Int) : Option ((List Int) × Int) :=
    (iZ t_0 l_1 round_2 place_3).bind fun r2 =>
    bif !decide (r2 = 0) then (some (([] : List Int), r2))
    else ((dH t_0 l_1).bind fun r3 =>
    gK round_2 place_3 t_0 r3.1 BIG 0 ([] : List Int))

def sP (a0 : aO) (a1 : List aE) (a2 : Int) (a3 : Int) : Option ((List Int) × Int) := iW a0 a1 a2 a3

def sE (again0 : Int → Int → Option (Int × Int)) (n_101 : Int) (r_101 : Int) (t_101 : aO) (d_101 : aQ) : Option (Int × Int) :=
    again0 n_101 (w64 (r_101 + 1))

def oZ (again0 : Int → Int → Option (Int × Int)) (n_102 : Int) (r_102 : Int) (t_102 : aO) (d_102 : aQ) : Option (Int × Int) :=
    sE again0 n_102 r_102 t_102 d_102

def iV (again0 : Int → Int → Option (Int × Int)) (r_2 : Int) (t_2 : aO) (d_2 : aQ) : Nat → Int → Int → Option (Int × Int)
  | 0, _, _ => none
  | k2 + 1, n_2, p_2 =>
    (gL t_2 r_2).bind fun r5 =>
    bif decide (p_2 < r5) then ((idx d_2.Must r_2).bind fun x6 =>
    (idx x6 p_2).bind fun x7 =>
    bif decide (x7 = (-2)) then ((iV again0 r_2 t_2 d_2 k2) (w64 (n_2 + 1)) (w64 (p_2 + 1)))
    else ((iV again0 r_2 t_2 d_2 k2) n_2 (w64 (p_2 + 1))))
    else (oZ again0 n_2 r_2 t_2 d_2)

def sD (n_100 : Int) : Option (Int × Int) :=
    some (n_100, 0)

def fD (t_0 : aO) (d_0 : aQ) : Nat → Int → Int → Option (Int × Int)
  | 0, _, _ => none
  | k0 + 1, n_0, r_0 =>
    bif decide (r_0 < t_0.Rounds) then (iV (fD t_0 d_0 k0) r_0 t_0 d_0 BIG n_0 0)
    else (sD n_0)

def kW (t_0 : aO) (l_1 : List aE) : Option (Int × Int) :=
    (dU t_0 l_1).bind fun r2 =>
    bif !decide (r2 = 0) then (some (0, r2))
    else ((dH t_0 l_1).bind fun r3 =>
    fD t_0 r3.1 BIG 0 0)

def rN (a0 : aO) (a1 : List aE) : Option (Int × Int) := kW a0 a1

def sF : Option Int :=
    some (-1)

def kQ (player_0 : Int) (d_0 : aQ) : Nat → Int → Option Int
  | 0, _ => none
  | k0 + 1, s_0 =>
    bif decide (s_0 < (d_0.Slots.length : Int)) then ((idx d_0.Slots s_0).bind fun x2 =>
    bif decide (x2 = player_0) then (some s_0)
    else ((kQ player_0 d_0 k0) (w64 (s_0 + 1))))
    else (sF)

def jI (d_0 : aQ) (player_1 : Int) : Option Int :=
    kQ player_1 d_0 BIG 0

def oN (n_100 : Int) : Option Int :=
    some n_100

def kA (slot_0 : Int) (t_0 : aO) (d_0 : aQ) : Nat → Int → Option Int
  | 0, _ => none
  | k0 + 1, n_0 =>
    (bif decide (n_0 < t_0.Rounds) then ((idx d_0.Must n_0).bind fun x3 =>
    (chk (decide (0 ≤ (IntKind.u64.wrap (w64 (n_0 + 1)))))).bind fun u4 =>
    (idx x3 (slot_0.fdiv (2 ^ (min (IntKind.u64.wrap (w64 (n_0 + 1))).toNat 64)))).bind fun x5 =>
    (idx d_0.Slots slot_0).bind fun x6 =>
    some (decide (x5 = x6))) else (some false)).bind fun b7 =>
    bif b7 then ((kA slot_0 t_0 d_0 k0) (w64 (n_0 + 1)))
    else (oN n_0)

def qC (t_0 : aO) (d_1 : aQ) (slot_2 : Int) : Option Int :=
    kA slot_2 t_0 d_1 BIG 0

def iY (t_0 : aO) (l_1 : List aE) (player_2 : Int) : Option (dR × Int) :=
    (dU t_0 l_1).bind fun r3 =>
    bif !decide (r3 = 0) then (some ((dR.mk 0 0), r3))
    else ((dK player_2 0 999).bind fun r4 =>
    bif !r4 then (some ((dR.mk 0 0), 1))
    else ((dH t_0 l_1).bind fun r5 =>
    (jI r5.1 player_2).bind fun r7 =>
    bif decide (r7 < 0) then (some ((dR.mk 0 0), 3))
    else ((qC t_0 r5.1 r7).bind fun r8 =>
    (kZ t_0 r5.1 r7).bind fun r9 =>
    some ((dR.mk r8 r9), 0))))

def pM (a0 : aO) (a1 : List aE) (a2 : Int) : Option (dR × Int) := iY a0 a1 a2

def gZ : Option Bool :=
    (oY).bind fun r1 =>
    (mM r1.1 r1.2).bind fun r3 =>
    (sP r1.1 r1.2 2 0).bind fun r4 =>
    (rN r1.1 r1.2).bind fun r5 =>
    (pM r1.1 r1.2 2).bind fun r6 =>
    (bif decide (r3.2 = 0) then (some (decide (r4.2 = 0))) else (some false)).bind fun b8 =>
    (bif b8 then (some (decide (r5.2 = 0))) else (some false)).bind fun b9 =>
    (bif b9 then (some (decide (r6.2 = 0))) else (some false)).bind fun b10 =>
    (bif b10 then (some (decide ((r3.1.length : Int) = 7))) else (some false)).bind fun b11 =>
    (bif b11 then ((idx r3.1 4).bind fun x12 =>
    some (decide (x12 = (cF.mk 1 0 1 2)))) else (some false)).bind fun b13 =>
    (bif b13 then ((idx r3.1 6).bind fun x14 =>
    some (decide (x14 = (cF.mk 2 0 2 (-2))))) else (some false)).bind fun b15 =>
    (bif b15 then ((oL r4.1 ([2, 5, 7, 8])).bind fun r16 =>
    some r16) else (some false)).bind fun b17 =>
    (bif b17 then (some (decide (r5.1 = 3))) else (some false)).bind fun b18 =>
    (bif b18 then (some (decide (r6.1 = (dR.mk 2 3)))) else (some false)).bind fun b19 =>
    some b19

def pP (m_100 : Int) : Option Int :=
    some m_100

def iJ (x_0 : List Int) : Nat → Int → Int → Option Int
  | 0, _, _ => none
  | k0 + 1, m_0, i_0 =>
    bif decide (i_0 < (x_0.length : Int)) then ((idx x_0 i_0).bind fun x2 =>
    (iJ x_0 k0) (min m_0 x2) (w64 (i_0 + 1)))
    else (pP m_0)

def nH (x_0 : List Int) : Option Int :=
    bif decide ((x_0.length : Int) < 1) then (none)
    else ((idx x_0 0).bind fun x1 =>
    iJ x_0 BIG x1 1)

def uF (againQ : (Int × Int) → Prop) : Prop :=
    againQ (0, 3)

def jE (againQ : (Int × Int) → Prop) (d_1 : Option bB) (slots_1 : List Int) (t40_1 : Int) : Nat → Int → Prop
  | 0, _ => False
  | k1 + 1, t41_1 =>
    bif decide (t41_1 < t40_1) then (nb (idx slots_1 0) fun x5 =>
    nb (iO t41_1 x5) fun r6 =>
    nb (idx slots_1 1) fun x7 =>
    nb (iO t41_1 x7) fun r8 =>
    bif decide (r6 = r8) then (nb (d_1) fun x9 =>
    nb (idx slots_1 0) fun x10 =>
    nb (gX x9 x10) fun r11 =>
    nb (idx slots_1 1) fun x12 =>
    nb (gX x9 x12) fun r13 =>
    bif decide ((min r11 r13) < t41_1) then (againQ (0, 3))
    else (againQ (t41_1, 0)))
    else ((jE againQ d_1 slots_1 t40_1 k1) (w64 (t41_1 + 1))))
    else (uF againQ)

def oX (t_0 : aO) (l_1 : List aE) (a_2 : Int) (b_3 : Int) (Q : (Int × Int) → Prop) : Prop :=
    lM t_0 l_1 ([a_2, b_3]) fun r2 =>
    bif !decide (r2.2.2 = 0) then (Q (0, r2.2.2))
    else (bif decide (a_2 = b_3) then (Q (0, 1))
    else (nb (nH r2.2.1) fun r3 =>
    bif decide (r3 < 0) then (Q (0, 3))
    else (nb (r2.1) fun x4 =>
    jE Q r2.1 r2.2.1 x4.Tree.Rounds BIG 0)))

def mN (x_100 : Int) (y_100 : Int) (r_100 : Int) (t_100 : aO) (d_100 : aQ) : Option (Int × Int) :=
    (kZ t_100 d_100 x_100).bind fun r14 =>
    (bif decide (r14 < r_100) then (some true) else ((kZ t_100 d_100 y_100).bind fun r15 =>
    some (decide (r15 < r_100)))).bind fun b16 =>
    bif b16 then (some (0, 3))
    else (some (r_100, 0))

def fU (x_0 : Int) (y_0 : Int) (t_0 : aO) (d_0 : aQ) : Nat → Int → Option (Int × Int)
  | 0, _ => none
  | k0 + 1, r_0 =>
    (chk (decide (0 ≤ (IntKind.u64.wrap (w64 (r_0 + 1)))))).bind fun u12 =>
    (chk (decide (0 ≤ (IntKind.u64.wrap (w64 (r_0 + 1)))))).bind fun u13 =>
    bif !decide ((x_0.fdiv (2 ^ (min (IntKind.u64.wrap (w64 (r_0 + 1))).toNat 64))) = (y_0.fdiv (2 ^ (min (IntKind.u64.wrap (w64 (r_0 + 1))).toNat 64)))) then ((fU x_0 y_0 t_0 d_0 k0) (w64 (r_0 + 1)))
    else (mN x_0 y_0 r_0 t_0 d_0)

def kX (t_0 : aO) (l_1 : List aE) (a_2 : Int) (b_3 : Int) : Option (Int × Int) :=
    (dU t_0 l_1).bind fun r2 =>
    bif !decide (r2 = 0) then (some (0, r2))
    else ((dK a_2 0 999).bind fun r3 =>
    (bif !r3 then (some true) else ((dK b_3 0 999).bind fun r4 =>
    some (!r4))).bind fun b5 =>
    (bif b5 then (some true) else (some (decide (a_2 = b_3)))).bind fun b6 =>
    bif b6 then (some (0, 1))
    else ((dH t_0 l_1).bind fun r7 =>
    (jI r7.1 a_2).bind fun r9 =>
    (jI r7.1 b_3).bind fun r10 =>
    (bif decide (r9 < 0) then (some true) else (some (decide (r10 < 0)))).bind fun b11 =>
    bif b11 then (some (0, 3))
    else (fU r9 r10 t_0 r7.1 BIG 0)))

def pK (a0 : aO) (a1 : List aE) (a2 : Int) (a3 : Int) : Option (Int × Int) := kX a0 a1 a2 a3

def kE (t_0 : aO) (l_1 : List aE) : Option Bool :=
    (nB t_0 l_1).bind fun r2 =>
    (bif !r2 then ((dU t_0 l_1).bind fun r3 =>
    some (decide (r3 = 0))) else (some false)).bind fun b4 =>
    some b4

def oQ (a0 : aO) (a1 : List aE) : Option Int := dU a0 a1

end Go.Am
