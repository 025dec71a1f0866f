/- Shallow functions, printed by program. -/
import Derived.Test.YtenffgkkeafnpaaBrSh
import Derived.Test.YtenffgkkeafnpaaAmSort
namespace Go.Am

structure cZ where
  Low : Int
  High : Int
  deriving DecidableEq, Inhabited
def eB (x : cZ) : List D := [.lit (.int .i64 x.Low), .lit (.int .i64 x.High)]

structure dX where
  Round : Int
  Place : Int
  A : Int
  B : Int
  deriving DecidableEq, Inhabited
def gQ (x : dX) : List D := [.lit (.int .i64 x.Round), .lit (.int .i64 x.Place), .lit (.int .i64 x.A), .lit (.int .i64 x.B)]

def sG (x : dX) : Prop := okI x.Round ∧ okI x.Place ∧ okI x.A ∧ okI x.B

def mD (t_0 : aO) (l_1 : List aD) : Option Bool :=
    (bif decide (100 < (t_0.Slots.length : Int)) then (some true) else (some (decide (100 < (l_1.length : Int))))).bind fun b2 =>
    some b2

def nW : Option (aO × (List aD)) :=
    some ((aO.mk 3 ([1, (-1), 2, 3, 4, 5, 6, 7])), [(aD.mk 1 1 0 2 0), (aD.mk 3 0 3 7 0), (aD.mk 5 0 4 8 4)])

def nI (d_100 : aZ) : Option Int :=
    some d_100.Tree.Rounds

def gB (d_0 : aZ) (slot_0 : Int) (t12_0 : Int) : Nat → Int → Option Int
  | 0, _ => none
  | k0 + 1, t13_0 =>
    bif decide (t13_0 < t12_0) then ((jT t13_0 slot_0).bind fun r1 =>
    (bif cR r1 d_0.won then ((idx d_0.players slot_0).bind fun x2 =>
    some (!decide ((cK r1 0 d_0.won) = x2))) else (some false)).bind fun b3 =>
    bif b3 then (some t13_0)
    else ((gB d_0 slot_0 t12_0 k0) (w64 (t13_0 + 1))))
    else (nI d_0)

def jL (d_0 : aZ) (slot_1 : Int) : Option Int :=
    gB d_0 slot_1 d_0.Tree.Rounds BIG 0

def slices_Sort_int (x : List Int) : Option (List Int) := if x.length < 4611686018427387904 then some (fT x) else none

def qO (againQ : ((List Int) × Int) → Prop) (out_100 : List Int) : Prop :=
    nb (slices_Sort_int out_100) fun r14 =>
    againQ (r14, 0)

def gV (againQ : ((List Int) × Int) → Prop) (round_0 : Int) (d_0 : Option aZ) (t31_0 : List Int) (t32_0 : Int) (m_0 : aB) : Nat → Int → (List Int) → Prop
  | 0, _, _ => False
  | k0 + 1, t33_0, out_0 =>
    bif decide (t33_0 < t32_0) then (nb (idx t31_0 t33_0) fun x6 =>
    nb (d_0) fun x7 =>
    nb (bif !decide (x6 = (-1)) then ((jT round_0 t33_0).bind fun r8 =>
    some (decide (r8 = m_0))) else (some false)) fun b9 =>
    nb (bif b9 then ((jL x7 t33_0).bind fun r10 =>
    some (decide (round_0 < r10))) else (some false)) fun b11 =>
    bif b11 then (nb (app 8 out_0 ([x6])) fun x12 =>
    (gV againQ round_0 d_0 t31_0 t32_0 m_0 k0) (w64 (t33_0 + 1)) x12)
    else ((gV againQ round_0 d_0 t31_0 t32_0 m_0 k0) (w64 (t33_0 + 1)) out_0))
    else (qO againQ out_0)

def oS (t_0 : aO) (l_1 : List aD) (round_2 : Int) (place_3 : Int) (Q : ((List Int) × Int) → Prop) : Prop :=
    mP t_0 l_1 round_2 place_3 fun r2 =>
    bif !decide (r2.2.2 = 0) then (Q (([] : List Int), r2.2.2))
    else (nb (r2.1) fun x5 =>
    gV Q round_2 r2.1 x5.players (x5.players.length : Int) r2.2.1 BIG 0 ([] : List Int))

def nV (t_0 : aO) (l_1 : List aD) (Q : (Int × Int) → Prop) : Prop :=
    gM t_0 l_1 fun r2 =>
    bif !decide (r2.2 = 0) then (Q (0, r2.2))
    else (nb (r2.1) fun x3 =>
    nb (r2.1) fun x4 =>
    Q (w64 ((w64 ((x3.Tree.Slots.length : Int) - 1)) - (((x4.won.map fun p : aB × Int => ((fun a : aB => Value.agg ((aH a).map bH).toArray) p.1, aP p.2))).length : Int)), 0))

def qP (againQ : ((Option aZ) × (List Int) × Int) → Prop) (d_100 : Option aZ) (slots_100 : List Int) : Prop :=
    againQ (d_100, slots_100, 0)

def jN (againQ : ((Option aZ) × (List Int) × Int) → Prop) (t20_0 : List Int) (t21_0 : Int) : Nat → (Option aZ) → Int → (List Int) → Prop
  | 0, _, _, _ => False
  | k0 + 1, d_0, t22_0, slots_0 =>
    bif decide (t22_0 < t21_0) then (nb (idx t20_0 t22_0) fun x5 =>
    nb (eH x5 0 999) fun r6 =>
    bif !r6 then (againQ ((none : Option aZ), ([] : List Int), 1))
    else (nb (d_0) fun x8 =>
    nb (fA x8.players x5) fun r9 =>
    nb (app 8 slots_0 ([r9])) fun x10 =>
    (jN againQ t20_0 t21_0 k0) d_0 (w64 (t22_0 + 1)) x10))
    else (qP againQ d_0 slots_0)

def lS (t_0 : aO) (l_1 : List aD) (players_2 : List Int) (Q : ((Option aZ) × (List Int) × Int) → Prop) : Prop :=
    gM t_0 l_1 fun r3 =>
    bif !decide (r3.2 = 0) then (Q ((none : Option aZ), ([] : List Int), r3.2))
    else (jN Q players_2 (players_2.length : Int) BIG r3.1 0 ([] : List Int))

def nJ (d_100 : aZ) : Option Int :=
    some d_100.Tree.Rounds

def gC (d_0 : aZ) (slot_0 : Int) (t12_0 : Int) : Nat → Int → Option Int
  | 0, _ => none
  | k0 + 1, t13_0 =>
    bif decide (t13_0 < t12_0) then ((jT t13_0 slot_0).bind fun r1 =>
    (bif !(cR r1 d_0.won) then (some true) else ((idx d_0.players slot_0).bind fun x2 =>
    some (!decide ((cK r1 0 d_0.won) = x2)))).bind fun b3 =>
    bif b3 then (some t13_0)
    else ((gC d_0 slot_0 t12_0 k0) (w64 (t13_0 + 1))))
    else (nJ d_0)

def kZ (d_0 : aZ) (slot_1 : Int) : Option Int :=
    gC d_0 slot_1 d_0.Tree.Rounds BIG 0

def lN (t_0 : aO) (l_1 : List aD) (player_2 : Int) (Q : (cZ × Int) → Prop) : Prop :=
    lS t_0 l_1 ([player_2]) fun r3 =>
    bif !decide (r3.2.2 = 0) then (Q ((cZ.mk 0 0), r3.2.2))
    else (nb (idx r3.2.1 0) fun x4 =>
    bif decide (x4 < 0) then (Q ((cZ.mk 0 0), 3))
    else (nb (r3.1) fun x5 =>
    nb (idx r3.2.1 0) fun x6 =>
    nb (kZ x5 x6) fun r7 =>
    nb (idx r3.2.1 0) fun x8 =>
    nb (jL x5 x8) fun r9 =>
    Q ((cZ.mk r7 r9), 0)))

def oT : Option Bool :=
    some true

def jU (a_0 : List Int) (b_0 : List Int) : Nat → Int → Option Bool
  | 0, _ => none
  | k0 + 1, i_0 =>
    bif decide (i_0 < (a_0.length : Int)) then ((idx a_0 i_0).bind fun x1 =>
    (idx b_0 i_0).bind fun x2 =>
    bif !decide (x1 = x2) then (some false)
    else ((jU a_0 b_0 k0) (w64 (i_0 + 1))))
    else (oT)

def nK (a_0 : List Int) (b_1 : List Int) : Option Bool :=
    bif !decide ((a_0.length : Int) = (b_1.length : Int)) then (some false)
    else (jU a_0 b_1 BIG 0)

def pU (a0 : aO) (a1 : List aD) : Option ((List bZ) × Int) := jP a0 a1

def oA (n_100 : Int) : Option Int :=
    some n_100

def jY (slot_0 : Int) (t_0 : aO) (d_0 : aQ) : Nat → Int → Option Int
  | 0, _ => none
  | k0 + 1, n_0 =>
    (bif decide (n_0 < t_0.Rounds) then ((idx d_0.Must n_0).bind fun x3 =>
    (chk (decide (0 ≤ (IntKind.u64.wrap (w64 (n_0 + 1)))))).bind fun u4 =>
    (idx x3 (slot_0.fdiv (2 ^ (min (IntKind.u64.wrap (w64 (n_0 + 1))).toNat 64)))).bind fun x5 =>
    (bif decide (x5 = (-2)) then (some true) else ((idx d_0.Must n_0).bind fun x6 =>
    (chk (decide (0 ≤ (IntKind.u64.wrap (w64 (n_0 + 1)))))).bind fun u7 =>
    (idx x6 (slot_0.fdiv (2 ^ (min (IntKind.u64.wrap (w64 (n_0 + 1))).toNat 64)))).bind fun x8 =>
    (idx d_0.Slots slot_0).bind fun x9 =>
    some (decide (x8 = x9)))).bind fun b10 =>
    some b10) else (some false)).bind fun b11 =>
    bif b11 then ((jY slot_0 t_0 d_0 k0) (w64 (n_0 + 1)))
    else (oA n_0)

def nQ (t_0 : aO) (d_1 : aQ) (slot_2 : Int) : Option Int :=
    jY slot_2 t_0 d_1 BIG 0

def pY (again0 : Int → (List Int) → Option ((List Int))) (l_101 : List Int) (i_101 : Int) (out_101 : List Int) : Option ((List Int)) :=
    again0 (w64 (i_101 + 1)) out_101

def mU (again0 : Int → (List Int) → Option ((List Int))) (l_102 : List Int) (i_102 : Int) (out_102 : List Int) : Option ((List Int)) :=
    pY again0 l_102 i_102 out_102

def iW (again0 : Int → (List Int) → Option ((List Int))) (l_2 : List Int) (i_2 : Int) : Nat → Int → (List Int) → Option ((List Int))
  | 0, _, _ => none
  | k2 + 1, k_2, out_2 =>
    (bif decide (0 < k_2) then ((idx out_2 k_2).bind fun x5 =>
    (idx out_2 (w64 (k_2 - 1))).bind fun x6 =>
    some (decide (x5 < x6))) else (some false)).bind fun b7 =>
    bif b7 then ((idx out_2 (w64 (k_2 - 1))).bind fun x8 =>
    (idx out_2 k_2).bind fun x9 =>
    (idx out_2 k_2).bind fun x10 =>
    (idx (out_2.set k_2.toNat x8) (w64 (k_2 - 1))).bind fun x11 =>
    (iW again0 l_2 i_2 k2) (w64 (k_2 - 1)) ((out_2.set k_2.toNat x8).set (w64 (k_2 - 1)).toNat x9))
    else (mU again0 l_2 i_2 out_2)

def pX (out_100 : List Int) : Option ((List Int)) :=
    some out_100

def iV (l_0 : List Int) : Nat → Int → (List Int) → Option ((List Int))
  | 0, _, _ => none
  | k0 + 1, i_0, out_0 =>
    bif decide (i_0 < (l_0.length : Int)) then ((idx l_0 i_0).bind fun x2 =>
    (app 8 out_0 ([x2])).bind fun x3 =>
    iW (iV l_0 k0) l_0 i_0 BIG (w64 ((x3.length : Int) - 1)) x3)
    else (pX out_0)

def oR (l_0 : List Int) : Option ((List Int)) :=
    iV l_0 BIG 0 ([] : List Int)

def sE (out_100 : List Int) : Option ((List Int) × Int) :=
    (oR out_100).bind fun r14 =>
    some (r14, 0)

def fZ (round_0 : Int) (place_0 : Int) (t_0 : aO) (d_0 : aQ) : Nat → Int → (List Int) → Option ((List Int) × Int)
  | 0, _, _ => none
  | k0 + 1, s_0, out_0 =>
    bif decide (s_0 < (d_0.Slots.length : Int)) then ((idx d_0.Slots s_0).bind fun x6 =>
    (bif !decide (x6 = (-1)) then ((chk (decide (0 ≤ (IntKind.u64.wrap (w64 (round_0 + 1)))))).bind fun u7 =>
    some (decide ((s_0.fdiv (2 ^ (min (IntKind.u64.wrap (w64 (round_0 + 1))).toNat 64))) = place_0))) else (some false)).bind fun b8 =>
    (bif b8 then ((nQ t_0 d_0 s_0).bind fun r9 =>
    some (decide (round_0 < r9))) else (some false)).bind fun b10 =>
    bif b10 then ((idx d_0.Slots s_0).bind fun x11 =>
    (app 8 out_0 ([x11])).bind fun x12 =>
    (fZ round_0 place_0 t_0 d_0 k0) (w64 (s_0 + 1)) x12)
    else ((fZ round_0 place_0 t_0 d_0 k0) (w64 (s_0 + 1)) out_0))
    else (sE out_0)

def iJ (t_0 : aO) (l_1 : List aD) (round_2 : Int) (place_3 : Int) : Option ((List Int) × Int) :=
    (iM t_0 l_1 round_2 place_3).bind fun r2 =>
    bif !decide (r2 = 0) then (some (([] : List Int), r2))
    else ((dF t_0 l_1).bind fun r3 =>
    fZ round_2 place_3 t_0 r3.1 BIG 0 ([] : List Int))

def nB (a0 : aO) (a1 : List aD) (a2 : Int) (a3 : Int) : Option ((List Int) × Int) := iJ a0 a1 a2 a3

def rM (again0 : Int → Int → Option (Int × Int)) (n_101 : Int) (r_101 : Int) (t_101 : aO) (d_101 : aQ) : Option (Int × Int) :=
    again0 n_101 (w64 (r_101 + 1))

def nX (again0 : Int → Int → Option (Int × Int)) (n_102 : Int) (r_102 : Int) (t_102 : aO) (d_102 : aQ) : Option (Int × Int) :=
    rM again0 n_102 r_102 t_102 d_102

def iI (again0 : Int → Int → Option (Int × Int)) (r_2 : Int) (t_2 : aO) (d_2 : aQ) : Nat → Int → Int → Option (Int × Int)
  | 0, _, _ => none
  | k2 + 1, n_2, p_2 =>
    (gA t_2 r_2).bind fun r5 =>
    bif decide (p_2 < r5) then ((idx d_2.Must r_2).bind fun x6 =>
    (idx x6 p_2).bind fun x7 =>
    bif decide (x7 = (-2)) then ((iI again0 r_2 t_2 d_2 k2) (w64 (n_2 + 1)) (w64 (p_2 + 1)))
    else ((iI again0 r_2 t_2 d_2 k2) n_2 (w64 (p_2 + 1))))
    else (nX again0 n_2 r_2 t_2 d_2)

def rL (n_100 : Int) : Option (Int × Int) :=
    some (n_100, 0)

def eW (t_0 : aO) (d_0 : aQ) : Nat → Int → Int → Option (Int × Int)
  | 0, _, _ => none
  | k0 + 1, n_0, r_0 =>
    bif decide (r_0 < t_0.Rounds) then (iI (eW t_0 d_0 k0) r_0 t_0 d_0 BIG n_0 0)
    else (rL n_0)

def kH (t_0 : aO) (l_1 : List aD) : Option (Int × Int) :=
    (dS t_0 l_1).bind fun r2 =>
    bif !decide (r2 = 0) then (some (0, r2))
    else ((dF t_0 l_1).bind fun r3 =>
    eW t_0 r3.1 BIG 0 0)

def qQ (a0 : aO) (a1 : List aD) : Option (Int × Int) := kH a0 a1

def rN : Option Int :=
    some (-1)

def kA (player_0 : Int) (d_0 : aQ) : Nat → Int → Option Int
  | 0, _ => none
  | k0 + 1, s_0 =>
    bif decide (s_0 < (d_0.Slots.length : Int)) then ((idx d_0.Slots s_0).bind fun x2 =>
    bif decide (x2 = player_0) then (some s_0)
    else ((kA player_0 d_0 k0) (w64 (s_0 + 1))))
    else (rN)

def pW (d_0 : aQ) (player_1 : Int) : Option Int :=
    kA player_1 d_0 BIG 0

def nM (n_100 : Int) : Option Int :=
    some n_100

def jJ (slot_0 : Int) (t_0 : aO) (d_0 : aQ) : Nat → Int → Option Int
  | 0, _ => none
  | k0 + 1, n_0 =>
    (bif decide (n_0 < t_0.Rounds) then ((idx d_0.Must n_0).bind fun x3 =>
    (chk (decide (0 ≤ (IntKind.u64.wrap (w64 (n_0 + 1)))))).bind fun u4 =>
    (idx x3 (slot_0.fdiv (2 ^ (min (IntKind.u64.wrap (w64 (n_0 + 1))).toNat 64)))).bind fun x5 =>
    (idx d_0.Slots slot_0).bind fun x6 =>
    some (decide (x5 = x6))) else (some false)).bind fun b7 =>
    bif b7 then ((jJ slot_0 t_0 d_0 k0) (w64 (n_0 + 1)))
    else (nM n_0)

def pE (t_0 : aO) (d_1 : aQ) (slot_2 : Int) : Option Int :=
    jJ slot_2 t_0 d_1 BIG 0

def iL (t_0 : aO) (l_1 : List aD) (player_2 : Int) : Option (cZ × Int) :=
    (dS t_0 l_1).bind fun r3 =>
    bif !decide (r3 = 0) then (some ((cZ.mk 0 0), r3))
    else ((dP player_2 0 999).bind fun r4 =>
    bif !r4 then (some ((cZ.mk 0 0), 1))
    else ((dF t_0 l_1).bind fun r5 =>
    (pW r5.1 player_2).bind fun r7 =>
    bif decide (r7 < 0) then (some ((cZ.mk 0 0), 3))
    else ((pE t_0 r5.1 r7).bind fun r8 =>
    (nQ t_0 r5.1 r7).bind fun r9 =>
    some ((cZ.mk r8 r9), 0))))

def mA (a0 : aO) (a1 : List aD) (a2 : Int) : Option (cZ × Int) := iL a0 a1 a2

def gO : Option Bool :=
    (nW).bind fun r1 =>
    (pU r1.1 r1.2).bind fun r3 =>
    (nB r1.1 r1.2 2 0).bind fun r4 =>
    (qQ r1.1 r1.2).bind fun r5 =>
    (mA r1.1 r1.2 2).bind fun r6 =>
    (bif decide (r3.2 = 0) then (some (decide (r4.2 = 0))) else (some false)).bind fun b8 =>
    (bif b8 then (some (decide (r5.2 = 0))) else (some false)).bind fun b9 =>
    (bif b9 then (some (decide (r6.2 = 0))) else (some false)).bind fun b10 =>
    (bif b10 then (some (decide ((r3.1.length : Int) = 7))) else (some false)).bind fun b11 =>
    (bif b11 then ((idx r3.1 4).bind fun x12 =>
    some (decide (x12 = (bZ.mk 1 0 1 2)))) else (some false)).bind fun b13 =>
    (bif b13 then ((idx r3.1 6).bind fun x14 =>
    some (decide (x14 = (bZ.mk 2 0 2 (-2))))) else (some false)).bind fun b15 =>
    (bif b15 then ((nK r4.1 ([2, 5, 7, 8])).bind fun r16 =>
    some r16) else (some false)).bind fun b17 =>
    (bif b17 then (some (decide (r5.1 = 3))) else (some false)).bind fun b18 =>
    (bif b18 then (some (decide (r6.1 = (cZ.mk 2 3)))) else (some false)).bind fun b19 =>
    some b19

def jO (t_0 : aO) (l_1 : List aD) : Option Bool :=
    (mD t_0 l_1).bind fun r2 =>
    (bif !r2 then ((dS t_0 l_1).bind fun r3 =>
    some (decide (r3 = 0))) else (some false)).bind fun b4 =>
    some b4

def nP (a0 : aO) (a1 : List aD) : Option Int := dS a0 a1

end Go.Am
