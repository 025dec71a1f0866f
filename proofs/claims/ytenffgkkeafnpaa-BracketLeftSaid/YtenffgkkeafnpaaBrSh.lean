/- Shallow functions, printed by program. -/
import Derived.Test.YtenffgkkeafnpaaAmFull
import Derived.Test.YtenffgkkeafnpaaAmNd
namespace Go.Am

def lB (x : List Int) : List D := [.sl 1 (x.map aP)]

structure aO where
  Rounds : Int
  Slots : List Int
  deriving DecidableEq, Inhabited
def aR (x : aO) : List D := [.lit (.int .i64 x.Rounds), .sl 1 (x.Slots.map aP)]

structure aE where
  Kind : Int
  Round : Int
  Place : Int
  Player : Int
  Old : Int
  deriving DecidableEq, Inhabited
def aL (x : aE) : List D := [.lit (.int .i64 x.Kind), .lit (.int .i64 x.Round), .lit (.int .i64 x.Place), .lit (.int .i64 x.Player), .lit (.int .i64 x.Old)]

def aCu (x : List aE) : List D := [.sl 5 (x.map aL)]

structure aB where
  round : Int
  place : Int
  deriving DecidableEq, Inhabited
def aH (x : aB) : List D := [.lit (.int .i64 x.round), .lit (.int .i64 x.place)]

structure aW where
  Tree : aO
  players : List Int
  won : List (aB × Int)
  deriving DecidableEq, Inhabited
def aU (x : aW) : List D := [.lit (.int .i64 x.Tree.Rounds), .sl 1 (x.Tree.Slots.map aP), .sl 1 (x.players.map aP), .mp false (x.won.map fun p : aB × Int => ((fun a : aB => Value.agg ((aH a).map bG).toArray) p.1, aP p.2))]

structure bA where
  Round : Int
  Place : Int
  One : Int
  Two : Int
  deriving DecidableEq, Inhabited
def bB (x : bA) : List D := [.lit (.int .i64 x.Round), .lit (.int .i64 x.Place), .lit (.int .i64 x.One), .lit (.int .i64 x.Two)]

structure aQ where
  Slots : List Int
  Must : List (List Int)
  deriving DecidableEq, Inhabited
def cJ (x : aQ) : List D := [.sl 1 (x.Slots.map aP), .sl 1 (x.Must.map lB)]

def aCi (x : aO) : Prop := okI x.Rounds ∧ (okL okI) x.Slots

def xN (x : aE) : Prop := okI x.Kind ∧ okI x.Round ∧ okI x.Place ∧ okI x.Player ∧ okI x.Old

def eJ (n_0 : Int) (low_1 : Int) (high_2 : Int) : Option Bool :=
    (bif decide (low_1 ≤ n_0) then (some (decide (n_0 ≤ high_2))) else (some false)).bind fun b1 =>
    some b1

def oX : Option Bool :=
    some true

def gF (t21_0 : List Int) (t22_0 : Int) (t_0 : aO) : Nat → Int → (List (Int × Int)) → Option Bool
  | 0, _, _ => none
  | k0 + 1, t23_0, o19_0 =>
    bif decide (t23_0 < t22_0) then ((idx t21_0 t23_0).bind fun x6 =>
    bif decide (x6 = (-1)) then ((idx t_0.Slots (aDe t23_0 1)).bind fun x7 =>
    bif decide (x7 = (-1)) then (some false)
    else ((gF t21_0 t22_0 t_0 k0) (w64 (t23_0 + 1)) o19_0))
    else ((bif decide (1 < (cF x6 0 (eR x6 (w64 ((cF x6 0 o19_0) + 1)) o19_0))) then (some true) else ((eJ x6 0 999).bind fun r8 =>
    some (!r8))).bind fun b9 =>
    bif b9 then (some false)
    else ((gF t21_0 t22_0 t_0 k0) (w64 (t23_0 + 1)) (eR x6 (w64 ((cF x6 0 o19_0) + 1)) o19_0))))
    else (oX)

def kY (t_0 : aO) : Option Bool :=
    (eJ t_0.Rounds 1 5).bind fun r2 =>
    (bif !r2 then (some true) else ((chk (decide (0 ≤ t_0.Rounds))).bind fun u3 =>
    some (!decide ((t_0.Slots.length : Int) = (w64 (1 * 2 ^ (min t_0.Rounds.toNat 64))))))).bind fun b4 =>
    bif b4 then (some false)
    else (gF t_0.Slots (t_0.Slots.length : Int) t_0 BIG 0 ([] : List (Int × Int)))

def jW : Option Int :=
    some (-1)

def dW (s_0 : List aE) (f_0 : aE → Option Bool) (t7_0 : Int) : Nat → Int → Option Int
  | 0, _ => none
  | k0 + 1, t8_0 =>
    bif decide (t8_0 < t7_0) then ((idx s_0 t8_0).bind fun x1 =>
    (f_0 x1).bind fun r2 =>
    bif r2 then (some t8_0)
    else ((dW s_0 f_0 t7_0 k0) (w64 (t8_0 + 1))))
    else (jW)

def gR (s_0 : List aE) (f_1 : aE → Option Bool) : Option Int :=
    dW s_0 f_1 (s_0.length : Int) BIG 0

def fO (s_0 : List aE) (f_1 : aE → Option Bool) : Option Bool :=
    (gR s_0 f_1).bind fun r1 =>
    some (decide (0 ≤ r1))

def jP (m_0 : aB) (t_1 : aO) : Option Bool :=
    (eJ m_0.round 0 (w64 (t_1.Rounds - 1))).bind fun r3 =>
    (bif r3 then ((chk (decide (0 ≤ (w64 (m_0.round + 1))))).bind fun u4 =>
    (eJ m_0.place 0 (w64 (((t_1.Slots.length : Int).fdiv (2 ^ (min (w64 (m_0.round + 1)).toNat 64))) - 1))).bind fun r5 =>
    some r5) else (some false)).bind fun b6 =>
    some b6

def nW : Option Int :=
    some (-1)

def gM (s_0 : List Int) (v_0 : Int) (t7_0 : Int) : Nat → Int → Option Int
  | 0, _ => none
  | k0 + 1, t8_0 =>
    bif decide (t8_0 < t7_0) then ((idx s_0 t8_0).bind fun x1 =>
    bif decide (v_0 = x1) then (some t8_0)
    else ((gM s_0 v_0 t7_0 k0) (w64 (t8_0 + 1))))
    else (nW)

def fE (s_0 : List Int) (v_1 : Int) : Option Int :=
    gM s_0 v_1 (s_0.length : Int) BIG 0

def gL (s_0 : List Int) (v_1 : Int) : Option Bool :=
    (fE s_0 v_1).bind fun r1 =>
    some (decide (0 ≤ r1))

def mI (t_0 : aO) (s_1 : aE) : Option Bool :=
    (eJ s_1.Player 0 999).bind fun r3 =>
    bif !r3 then (some false)
    else (bif decide (s_1.Kind = 5) then ((bif decide (s_1.Round = 0) then ((eJ s_1.Place 0 (w64 ((t_0.Slots.length : Int) - 1))).bind fun r4 =>
    some r4) else (some false)).bind fun b5 =>
    (bif b5 then ((eJ s_1.Old 0 999).bind fun r6 =>
    some r6) else (some false)).bind fun b7 =>
    some b7)
    else ((eJ s_1.Kind 1 4).bind fun r9 =>
    (bif !r9 then (some true) else (some (!decide (s_1.Old = 0)))).bind fun b10 =>
    (bif b10 then (some true) else ((jP (aB.mk s_1.Round s_1.Place) t_0).bind fun r11 =>
    some (!r11))).bind fun b12 =>
    bif b12 then (some false)
    else ((bif decide (0 < s_1.Round) then (some true) else ((sub t_0.Slots (w64 (2 * s_1.Place)) (w64 ((w64 (2 * s_1.Place)) + 2))).bind fun x13 =>
    (gL x13 (-1)).bind fun r14 =>
    some (!r14))).bind fun b15 =>
    some b15)))

def kZ (s_0 : aE) (c_1 : aO) : Option Bool :=
    (mI c_1 s_0).bind fun r2 =>
    some (!r2)

def jV (s_0 : List Int) : Option ((List Int)) :=
    (app 8 ([] : List Int) s_0).bind fun x5 =>
    some x5

def kU (againQ : (aE × Bool) → Prop) (d_100 : List Int) (d_100_2 : aO) (lucky_100 : List (aE × Int)) (o6_100 : aE) : Prop :=
    againQ ((aE.mk 0 0 0 0 0), false)

def fZ (againQ : (aE × Bool) → Prop) (slot_0 : Int) (d_0 : List Int) (d_0_2 : aO) (lucky_0 : List (aE × Int)) : Nat → aE → (List (aE × Int)) → Prop
  | 0, _, _ => False
  | k0 + 1, o6_0, left_0 =>
    aEf left_0 (kU againQ d_0 d_0_2 lucky_0 o6_0)
    (fun p5 left6 =>
    nb (bif decide (p5.1.Place = slot_0) then ((idx d_0 slot_0).bind fun x8 =>
    some (decide (p5.1.Old = x8))) else (some false)) fun b9 =>
    bif b9 then (againQ (p5.1, true))
    else ((fZ againQ slot_0 d_0 d_0_2 lucky_0 k0) o6_0 left6))

def gE (d_0_Tree : aO) (d_0_players : List Int) (lucky_1 : List (aE × Int)) (slot_2 : Int) (Q : (aE × Bool) → Prop) : Prop :=
    uW lucky_1 fun left3 =>
    fZ Q slot_2 d_0_players d_0_Tree lucky_1 BIG (aE.mk 0 0 0 0 0) left3

def jK (againQ : (Bool × (List Int) × (List (aE × Int))) → Prop) (again0 : Int → (List Int) → (List (aE × Int)) → (List Int) → Prop) (t19_101 : Int) (t20_101 : Int) (d_101 : List Int) (d_101_2 : aO) (lucky_101 : List (aE × Int)) (o14_101 : List Int) : Prop :=
    again0 (w64 (t20_101 + 1)) d_101 lucky_101 o14_101

def jL (againQ : (Bool × (List Int) × (List (aE × Int))) → Prop) (again0 : Int → (List Int) → (List (aE × Int)) → (List Int) → Prop) (t19_102 : Int) (t20_102 : Int) (d_102 : List Int) (d_102_2 : aO) (lucky_102 : List (aE × Int)) (o14_102 : List Int) : Prop :=
    jK againQ again0 t19_102 t20_102 d_102 d_102_2 lucky_102 o14_102

def dM (againQ : (Bool × (List Int) × (List (aE × Int))) → Prop) (again0 : Int → (List Int) → (List (aE × Int)) → (List Int) → Prop) (i_2 : Int) (t19_2 : Int) (t20_2 : Int) (d_2_2 : aO) : Nat → Bool → (List Int) → (List (aE × Int)) → aE → (List Int) → Prop
  | 0, _, _, _, _, _ => False
  | k2 + 1, isv_2, d_2, lucky_2, s_2, o14_2 =>
    bif isv_2 then (nb (gL o14_2 s_2.Player) fun r5 =>
    bif r5 then (againQ (false, d_2, lucky_2))
    else (nb (idx d_2 i_2) fun x6 =>
    nb (app 8 o14_2 ([s_2.Player])) fun x7 =>
    gE d_2_2 (d_2.set i_2.toNat s_2.Player) (mD s_2 lucky_2) i_2 fun r10 =>
    (dM againQ again0 i_2 t19_2 t20_2 d_2_2 k2) r10.2 (d_2.set i_2.toNat s_2.Player) (mD s_2 lucky_2) r10.1 x7))
    else (jL againQ again0 t19_2 t20_2 d_2 d_2_2 lucky_2 o14_2)

def jJ (againQ : (Bool × (List Int) × (List (aE × Int))) → Prop) (d_100 : List Int) (d_100_2 : aO) (lucky_100 : List (aE × Int)) : Prop :=
    againQ (decide ((lucky_100.length : Int) = 0), d_100, lucky_100)

def cT (againQ : (Bool × (List Int) × (List (aE × Int))) → Prop) (t19_0 : Int) (d_0_2 : aO) : Nat → Int → (List Int) → (List (aE × Int)) → (List Int) → Prop
  | 0, _, _, _, _ => False
  | k0 + 1, t20_0, d_0, lucky_0, o14_0 =>
    bif decide (t20_0 < t19_0) then (gE d_0_2 d_0 lucky_0 t20_0 fun r3 =>
    dM againQ (cT againQ t19_0 d_0_2 k0) t20_0 t19_0 t20_0 d_0_2 BIG r3.2 d_0 lucky_0 r3.1 o14_0)
    else (jJ againQ d_0 d_0_2 lucky_0)

def iZ (d_0_Tree : aO) (d_0_players : List Int) (lucky_1 : List (aE × Int)) (Q : (Bool × (List Int) × (List (aE × Int))) → Prop) : Prop :=
    nb (jV d_0_Tree.Slots) fun r1 =>
    cT Q (d_0_players.length : Int) d_0_Tree BIG 0 d_0_players lucky_1 r1

def jX (round_0 : Int) (slot_1 : Int) : Option aB :=
    (chk (decide (0 ≤ (w64 (round_0 + 1))))).bind fun u2 =>
    some (aB.mk round_0 (slot_1.fdiv (2 ^ (min (w64 (round_0 + 1)).toNat 64))))

def mZ (d_100 : List Int) (d_100_2 : List (aB × Int)) (d_100_3 : aO) : Option (Bool × (List (aB × Int))) :=
    some (true, d_100_2)

def gA (slot_0 : Int) (t12_0 : Int) (d_0 : List Int) (d_0_3 : aO) : Nat → Int → (List (aB × Int)) → Option (Bool × (List (aB × Int)))
  | 0, _, _ => none
  | k0 + 1, t13_0, d_0_2 =>
    bif decide (t13_0 < t12_0) then ((jX t13_0 slot_0).bind fun r1 =>
    (bif cL r1 d_0_2 then ((idx d_0 slot_0).bind fun x3 =>
    some (!decide ((cF r1 0 d_0_2) = x3))) else (some false)).bind fun b4 =>
    bif b4 then (some (false, d_0_2))
    else ((idx d_0 slot_0).bind fun x5 =>
    (gA slot_0 t12_0 d_0 d_0_3 k0) (w64 (t13_0 + 1)) (eR r1 x5 d_0_2)))
    else (mZ d_0 d_0_2 d_0_3)

def jE (d_0_Tree : aO) (d_0_players : List Int) (d_0_won : List (aB × Int)) (slot_1 : Int) (round_2 : Int) : Option (Bool × (List (aB × Int))) :=
    gA slot_1 (w64 (round_2 + 1)) d_0_players d_0_Tree BIG 0 d_0_won

def pK (againQ : ((Option aW) × Bool) → Prop) (o22_104 : List Int) (o23_104 : List (aB × Int)) (o25_104 : aO) : Prop :=
    againQ ((some (aW.mk o25_104 o22_104 o23_104)), true)

def iH (againQ : ((Option aW) × Bool) → Prop) (o22_4 : List Int) (o25_4 : aO) (o27_4 : List (aB × aE)) : Nat → (List (aB × Int)) → (List (aB × aE)) → Prop
  | 0, _, _ => False
  | k4 + 1, o23_4, left_4 =>
    aEf left_4 (pK againQ o22_4 o23_4 o25_4)
    (fun p23 left24 =>
    nb (fE o22_4 p23.2.Player) fun r27 =>
    nb (bif decide (r27 < 0) then (some true) else ((jX p23.1.round r27).bind fun r28 =>
    some (!decide (r28 = p23.1)))) fun b29 =>
    bif b29 then (againQ ((none : Option aW), false))
    else (nb (jE o25_4 o22_4 o23_4 r27 p23.1.round) fun r31 =>
    bif !r31.1 then (againQ ((none : Option aW), false))
    else ((iH againQ o22_4 o25_4 o27_4 k4) r31.2 left24)))

def mY (againQ : ((Option aW) × Bool) → Prop) (o22_102 : List Int) (o23_102 : List (aB × Int)) (o25_102 : aO) (o27_102 : List (aB × aE)) : Prop :=
    uW o27_102 fun left21 =>
    iH againQ o22_102 o25_102 o27_102 BIG o23_102 left21

def fX (againQ : ((Option aW) × Bool) → Prop) (t72_2 : Int) (o22_2 : List Int) (o25_2 : aO) (o27_2 : List (aB × aE)) : Nat → Int → (List (aB × Int)) → Prop
  | 0, _, _ => False
  | k2 + 1, t73_2, o23_2 =>
    bif decide (t73_2 < t72_2) then (nb (idx o22_2 t73_2) fun x16 =>
    bif decide (x16 = (-1)) then (nb (jE o25_2 o22_2 o23_2 (aDe t73_2 1) 0) fun r17 =>
    (fX againQ t72_2 o22_2 o25_2 o27_2 k2) (w64 (t73_2 + 1)) r17.2)
    else ((fX againQ t72_2 o22_2 o25_2 o27_2 k2) (w64 (t73_2 + 1)) o23_2))
    else (mY againQ o22_2 o23_2 o25_2 o27_2)

def mX (againQ : ((Option aW) × Bool) → Prop) (o22_100 : List Int) (o23_100 : List (aB × Int)) (o25_100 : aO) (o26_100 : List (aE × Int)) (o27_100 : List (aB × aE)) : Prop :=
    iZ o25_100 o22_100 o26_100 fun r13 =>
    bif !r13.1 then (againQ ((none : Option aW), false))
    else (fX againQ (r13.2.1.length : Int) r13.2.1 o25_100 o27_100 BIG 0 o23_100)

def fW (againQ : ((Option aW) × Bool) → Prop) (t28_0 : List aE) (t29_0 : Int) (o22_0 : List Int) (o23_0 : List (aB × Int)) (o25_0 : aO) : Nat → Int → (List (aE × Int)) → (List (aB × aE)) → Prop
  | 0, _, _, _ => False
  | k0 + 1, t30_0, o26_0, o27_0 =>
    bif decide (t30_0 < t29_0) then (nb (idx t28_0 t30_0) fun x8 =>
    bif decide (x8.Kind = 5) then ((fW againQ t28_0 t29_0 o22_0 o23_0 o25_0 k0) (w64 (t30_0 + 1)) (eR x8 (w64 ((cF x8 0 o26_0) + 1)) o26_0) o27_0)
    else (nb (bif cL (aB.mk x8.Round x8.Place) o27_0 then (some (!decide ((cF (aB.mk x8.Round x8.Place) (aE.mk 0 0 0 0 0) o27_0) = x8))) else (some false)) fun b12 =>
    bif b12 then (againQ ((none : Option aW), false))
    else ((fW againQ t28_0 t29_0 o22_0 o23_0 o25_0 k0) (w64 (t30_0 + 1)) o26_0 (eR (aB.mk x8.Round x8.Place) x8 o27_0))))
    else (mX againQ o22_0 o23_0 o25_0 o26_0 o27_0)

def nL (t_0 : aO) (l_1 : List aE) (Q : ((Option aW) × Bool) → Prop) : Prop :=
    nb (jV t_0.Slots) fun r2 =>
    fW Q l_1 (l_1.length : Int) r2 ([] : List (aB × Int)) t_0 BIG 0 ([] : List (aE × Int)) ([] : List (aB × aE))

def gW (t_0 : aO) (l_1 : List aE) (Q : ((Option aW) × Int) → Prop) : Prop :=
    nb (kY t_0) fun r2 =>
    bif !r2 then (Q ((none : Option aW), 70))
    else (nb (bif decide (60 < (l_1.length : Int)) then (some true) else ((fO l_1 (fun y3 => kZ y3 t_0)).bind fun r4 =>
    some r4)) fun b5 =>
    bif b5 then (Q ((none : Option aW), 71))
    else (nL t_0 l_1 fun r6 =>
    bif !r6.2 then (Q ((none : Option aW), 72))
    else (Q (r6.1, 0))))

def jD (d_0 : aW) (m_1 : aB) (side_2 : Int) : Option Int :=
    bif decide (m_1.round = 0) then ((idx d_0.players (w64 ((w64 (2 * m_1.place)) + side_2))).bind fun x2 =>
    some x2)
    else (bif cL (aB.mk (w64 (m_1.round - 1)) (w64 ((w64 (2 * m_1.place)) + side_2))) d_0.won then (some (cF (aB.mk (w64 (m_1.round - 1)) (w64 ((w64 (2 * m_1.place)) + side_2))) 0 d_0.won))
    else (some (-2)))

def lP {S : Type} (againY : S → aB → bA → Option S) (again0 : Int → S → Option S) (d_101 : aW) (t11_101 : Int) (t12_101 : Int) (sy_101 : S) : Option S :=
    again0 (w64 (t12_101 + 1)) sy_101

def hZ {S : Type} (againY : S → aB → bA → Option S) (again0 : Int → S → Option S) (d_102 : aW) (t11_102 : Int) (t12_102 : Int) (sy_102 : S) : Option S :=
    lP againY again0 d_102 t11_102 t12_102 sy_102

def eH {S : Type} (againY : S → aB → bA → Option S) (again0 : Int → S → Option S) (d_2 : aW) (r_2 : Int) (t11_2 : Int) (t12_2 : Int) (t23_2 : Int) : Nat → Int → S → Option S
  | 0, _, _ => none
  | k2 + 1, t24_2, sy_2 =>
    bif decide (t24_2 < t23_2) then ((jD d_2 (aB.mk r_2 t24_2) 0).bind fun r3 =>
    (jD d_2 (aB.mk r_2 t24_2) 1).bind fun r4 =>
    (againY sy_2 (aB.mk r_2 t24_2) (bA.mk r_2 t24_2 r3 r4)).bind fun y5 =>
    (eH againY again0 d_2 r_2 t11_2 t12_2 t23_2 k2) (w64 (t24_2 + 1)) y5)
    else (hZ againY again0 d_2 t11_2 t12_2 sy_2)

def lO {S : Type} (againY : S → aB → bA → Option S) (sy_100 : S) : Option S :=
    some sy_100

def cY {S : Type} (againY : S → aB → bA → Option S) (d_0 : aW) (t11_0 : Int) : Nat → Int → S → Option S
  | 0, _, _ => none
  | k0 + 1, t12_0, sy_0 =>
    bif decide (t12_0 < t11_0) then ((chk (decide (0 ≤ (w64 (t12_0 + 1))))).bind fun u1 =>
    eH againY (cY againY d_0 t11_0 k0) d_0 t12_0 t11_0 t12_0 ((d_0.Tree.Slots.length : Int).fdiv (2 ^ (min (w64 (t12_0 + 1)).toNat 64))) BIG 0 sy_0)
    else (lO againY sy_0)

def fY {S : Type} (d_0 : aW) (yield_1 : S → aB → bA → Option S) (sy : S) : Option S :=
    cY yield_1 d_0 d_0.Tree.Rounds BIG 0 sy

def nJ (t_0 : aO) (l_1 : List aE) (Q : ((List bA) × Int) → Prop) : Prop :=
    gW t_0 l_1 fun r2 =>
    bif !decide (r2.2 = 0) then (Q (([] : List bA), r2.2))
    else (nb (r2.1) fun x4 =>
    nb (fY (S := (List bA)) x4 (fun s5 x6 x7 =>
    (app 32 s5 ([x7])).bind fun x9 =>
    some x9) ([] : List bA)) fun s11 =>
    Q (s11, 0))

def lT (t_0 : aO) (l_1 : List aE) (round_2 : Int) (place_3 : Int) (Q : ((Option aW) × aB × Int) → Prop) : Prop :=
    gW t_0 l_1 fun r3 =>
    nb (bif decide (r3.2 = 0) then ((jP (aB.mk round_2 place_3) t_0).bind fun r5 =>
    some (!r5)) else (some false)) fun b6 =>
    bif b6 then (Q (r3.1, (aB.mk round_2 place_3), 1))
    else (Q (r3.1, (aB.mk round_2 place_3), r3.2))

def mH (t_0 : aO) (l_1 : List aE) (round_2 : Int) (place_3 : Int) (Q : (Int × Int) → Prop) : Prop :=
    lT t_0 l_1 round_2 place_3 fun r2 =>
    bif !decide (r2.2.2 = 0) then (Q (0, r2.2.2))
    else (nb (r2.1) fun x4 =>
    bif !(cL r2.2.1 x4.won) then (Q (0, 3))
    else (Q (cF r2.2.1 0 x4.won, 0)))

def dS (n_0 : Int) (low_1 : Int) (high_2 : Int) : Option Bool :=
    (bif decide (low_1 ≤ n_0) then (some (decide (n_0 ≤ high_2))) else (some false)).bind fun b1 =>
    some b1

def nC (again0 : Int → Option Bool) (i_101 : Int) (t_101 : aO) : Option Bool :=
    again0 (w64 (i_101 + 1))

def nD (again0 : Int → Option Bool) (i_102 : Int) (t_102 : aO) : Option Bool :=
    nC again0 i_102 t_102

def eZ (again0 : Int → Option Bool) (i_2 : Int) (t_2 : aO) : Nat → Int → Option Bool
  | 0, _ => none
  | k2 + 1, k_2 =>
    bif decide (k_2 < i_2) then ((idx t_2.Slots k_2).bind fun x12 =>
    (idx t_2.Slots i_2).bind fun x13 =>
    (bif decide (x12 = x13) then ((idx t_2.Slots i_2).bind fun x14 =>
    some (!decide (x14 = (-1)))) else (some false)).bind fun b15 =>
    bif b15 then (some false)
    else ((eZ again0 i_2 t_2 k2) (w64 (k_2 + 1))))
    else (nD again0 i_2 t_2)

def nB : Option Bool :=
    some true

def eY (t_0 : aO) : Nat → Int → Option Bool
  | 0, _ => none
  | k0 + 1, i_0 =>
    bif decide (i_0 < (t_0.Slots.length : Int)) then ((idx t_0.Slots i_0).bind fun x5 =>
    (dS x5 (-1) 999).bind fun r6 =>
    (bif !r6 then (some true) else ((bif decide ((i_0.tmod 2) = 1) then ((idx t_0.Slots i_0).bind fun x7 =>
    some (decide (x7 = (-1)))) else (some false)).bind fun b8 =>
    (bif b8 then ((idx t_0.Slots (w64 (i_0 - 1))).bind fun x9 =>
    some (decide (x9 = (-1)))) else (some false)).bind fun b10 =>
    some b10)).bind fun b11 =>
    bif b11 then (some false)
    else (eZ (eY t_0 k0) i_0 t_0 BIG 0))
    else (nB)

def jF (t_0 : aO) : Option Bool :=
    (dS t_0.Rounds 1 5).bind fun r2 =>
    (bif !r2 then (some true) else ((chk (decide (0 ≤ (IntKind.u64.wrap t_0.Rounds)))).bind fun u3 =>
    some (!decide ((t_0.Slots.length : Int) = (w64 (1 * 2 ^ (min (IntKind.u64.wrap t_0.Rounds).toNat 64))))))).bind fun b4 =>
    bif b4 then (some false)
    else (eY t_0 BIG 0)

def gH (t_0 : aO) (round_1 : Int) : Option Int :=
    (chk (decide (0 ≤ (IntKind.u64.wrap (w64 ((w64 (t_0.Rounds - 1)) - round_1)))))).bind fun u2 =>
    some (w64 (1 * 2 ^ (min (IntKind.u64.wrap (w64 ((w64 (t_0.Rounds - 1)) - round_1))).toNat 64)))

def iM (t_0 : aO) (round_1 : Int) (place_2 : Int) : Option Bool :=
    (dS round_1 0 (w64 (t_0.Rounds - 1))).bind fun r2 =>
    (bif r2 then ((gH t_0 round_1).bind fun r3 =>
    (dS place_2 0 (w64 (r3 - 1))).bind fun r4 =>
    some r4) else (some false)).bind fun b5 =>
    some b5

def kQ (t_0 : aO) (x_1 : aE) : Option Bool :=
    (dS x_1.Player 0 999).bind fun r3 =>
    bif !r3 then (some false)
    else (bif decide (x_1.Kind = 5) then ((bif decide (x_1.Round = 0) then ((dS x_1.Place 0 (w64 ((t_0.Slots.length : Int) - 1))).bind fun r4 =>
    some r4) else (some false)).bind fun b5 =>
    (bif b5 then ((dS x_1.Old 0 999).bind fun r6 =>
    some r6) else (some false)).bind fun b7 =>
    some b7)
    else ((dS x_1.Kind 1 4).bind fun r8 =>
    (bif !r8 then (some true) else ((iM t_0 x_1.Round x_1.Place).bind fun r9 =>
    some (!r9))).bind fun b10 =>
    (bif b10 then (some true) else (some (!decide (x_1.Old = 0)))).bind fun b11 =>
    bif b11 then (some false)
    else ((bif decide (0 < x_1.Round) then (some true) else ((idx t_0.Slots (w64 (2 * x_1.Place))).bind fun x12 =>
    (bif !decide (x12 = (-1)) then ((idx t_0.Slots (w64 ((w64 (2 * x_1.Place)) + 1))).bind fun x13 =>
    some (!decide (x13 = (-1)))) else (some false)).bind fun b14 =>
    some b14)).bind fun b15 =>
    some b15)))

def iU (again0 : Int → (List aE) → Option ((List aE))) (l_101 : List aE) (i_101 : Int) (out_101 : List aE) : Option ((List aE)) :=
    again0 (w64 (i_101 + 1)) out_101

def kD (again0 : Int → (List aE) → Option ((List aE))) (l_102 : List aE) (i_102 : Int) (twin_102 : Bool) (out_102 : List aE) : Option ((List aE)) :=
    bif !twin_102 then ((idx l_102 i_102).bind fun x5 =>
    (app 40 out_102 ([x5])).bind fun x6 =>
    iU again0 l_102 i_102 x6)
    else (iU again0 l_102 i_102 out_102)

def fT (again0 : Int → (List aE) → Option ((List aE))) (l_2 : List aE) (i_2 : Int) (out_2 : List aE) : Nat → Bool → Int → Option ((List aE))
  | 0, _, _ => none
  | k2 + 1, twin_2, k_2 =>
    bif decide (k_2 < (out_2.length : Int)) then ((bif twin_2 then (some true) else ((idx out_2 k_2).bind fun x2 =>
    (idx l_2 i_2).bind fun x3 =>
    some (decide (x2 = x3)))).bind fun b4 =>
    (fT again0 l_2 i_2 out_2 k2) b4 (w64 (k_2 + 1)))
    else (kD again0 l_2 i_2 twin_2 out_2)

def oK (out_100 : List aE) : Option ((List aE)) :=
    some out_100

def dU (l_0 : List aE) : Nat → Int → (List aE) → Option ((List aE))
  | 0, _, _ => none
  | k0 + 1, i_0, out_0 =>
    bif decide (i_0 < (l_0.length : Int)) then (fT (dU l_0 k0) l_0 i_0 out_0 BIG false 0)
    else (oK out_0)

def kK (l_0 : List aE) : Option ((List aE)) :=
    dU l_0 BIG 0 ([] : List aE)

def pL : Option Bool :=
    some false

def iI (l_0 : List Int) (n_0 : Int) : Nat → Int → Option Bool
  | 0, _ => none
  | k0 + 1, i_0 =>
    bif decide (i_0 < (l_0.length : Int)) then ((idx l_0 i_0).bind fun x1 =>
    bif decide (x1 = n_0) then (some true)
    else ((iI l_0 n_0 k0) (w64 (i_0 + 1))))
    else (pL)

def nM (l_0 : List Int) (n_1 : Int) : Option Bool :=
    iI l_0 n_1 BIG 0

def gU (again0 : Int → Int → (List Int) → (List Int) → Option ((List Int) × Bool)) (again2 : Int → Int → Bool → (List Int) → Option ((List Int) × Bool)) (allv_103 : List aE) (used_103 : Int) (i_103 : Int) (now_103 : Int) (again_103 : Bool) (t_103 : aO) (out_103 : List Int) (o18_103 : List Int) : Option ((List Int) × Bool) :=
    again2 used_103 now_103 again_103 o18_103

def iP (again0 : Int → Int → (List Int) → (List Int) → Option ((List Int) × Bool)) (again2 : Int → Int → Bool → (List Int) → Option ((List Int) × Bool)) (allv_104 : List aE) (used_104 : Int) (i_104 : Int) (now_104 : Int) (again_104 : Bool) (t_104 : aO) (out_104 : List Int) (nextv_104 : List Int) (o18_104 : List Int) : Option ((List Int) × Bool) :=
    (bif decide (1 < (nextv_104.length : Int)) then (some true) else ((bif decide ((nextv_104.length : Int) = 1) then ((idx nextv_104 0).bind fun x17 =>
    (nM o18_104 x17).bind fun r18 =>
    some r18) else (some false)).bind fun b19 =>
    some b19)).bind fun b20 =>
    bif b20 then (some (([] : List Int), false))
    else (bif decide ((nextv_104.length : Int) = 1) then ((idx nextv_104 0).bind fun x21 =>
    (app 8 o18_104 ([x21])).bind fun x22 =>
    gU again0 again2 allv_104 (w64 (used_104 + 1)) i_104 x21 true t_104 out_104 x22)
    else (gU again0 again2 allv_104 used_104 i_104 now_104 again_104 t_104 out_104 o18_104))

def eD (again0 : Int → Int → (List Int) → (List Int) → Option ((List Int) × Bool)) (again2 : Int → Int → Bool → (List Int) → Option ((List Int) × Bool)) (allv_4 : List aE) (used_4 : Int) (i_4 : Int) (now_4 : Int) (again_4 : Bool) (t_4 : aO) (out_4 : List Int) (o18_4 : List Int) : Nat → Int → (List Int) → Option ((List Int) × Bool)
  | 0, _, _ => none
  | k4 + 1, k_4, nextv_4 =>
    bif decide (k_4 < (allv_4.length : Int)) then ((idx allv_4 k_4).bind fun x9 =>
    (bif decide (x9.Kind = 5) then ((idx allv_4 k_4).bind fun x10 =>
    some (decide (x10.Place = i_4))) else (some false)).bind fun b11 =>
    (bif b11 then ((idx allv_4 k_4).bind fun x12 =>
    some (decide (x12.Old = now_4))) else (some false)).bind fun b13 =>
    bif b13 then ((idx allv_4 k_4).bind fun x14 =>
    (app 8 nextv_4 ([x14.Player])).bind fun x15 =>
    (eD again0 again2 allv_4 used_4 i_4 now_4 again_4 t_4 out_4 o18_4 k4) (w64 (k_4 + 1)) x15)
    else ((eD again0 again2 allv_4 used_4 i_4 now_4 again_4 t_4 out_4 o18_4 k4) (w64 (k_4 + 1)) nextv_4))
    else (iP again0 again2 allv_4 used_4 i_4 now_4 again_4 t_4 out_4 nextv_4 o18_4)

def mN (again0 : Int → Int → (List Int) → (List Int) → Option ((List Int) × Bool)) (allv_101 : List aE) (used_101 : Int) (i_101 : Int) (t_101 : aO) (out_101 : List Int) (o18_101 : List Int) : Option ((List Int) × Bool) :=
    again0 used_101 (w64 (i_101 + 1)) out_101 o18_101

def kJ (again0 : Int → Int → (List Int) → (List Int) → Option ((List Int) × Bool)) (allv_102 : List aE) (used_102 : Int) (i_102 : Int) (now_102 : Int) (t_102 : aO) (out_102 : List Int) (o18_102 : List Int) : Option ((List Int) × Bool) :=
    (app 8 out_102 ([now_102])).bind fun x24 =>
    mN again0 allv_102 used_102 i_102 t_102 x24 o18_102

def eP (again0 : Int → Int → (List Int) → (List Int) → Option ((List Int) × Bool)) (allv_2 : List aE) (i_2 : Int) (t_2 : aO) (out_2 : List Int) : Nat → Int → Int → Bool → (List Int) → Option ((List Int) × Bool)
  | 0, _, _, _, _ => none
  | k2 + 1, used_2, now_2, again_2, o18_2 =>
    bif again_2 then (eD again0 (eP again0 allv_2 i_2 t_2 out_2 k2) allv_2 used_2 i_2 now_2 false t_2 out_2 o18_2 BIG 0 ([] : List Int))
    else (kJ again0 allv_2 used_2 i_2 now_2 t_2 out_2 o18_2)

def mO (used_106 : Int) (out_106 : List Int) : Option ((List Int) × Bool) :=
    some (out_106, decide (used_106 = 0))

def eE (allv_6 : List aE) (out_6 : List Int) : Nat → Int → Int → Option ((List Int) × Bool)
  | 0, _, _ => none
  | k6 + 1, used_6, k_6 =>
    bif decide (k_6 < (allv_6.length : Int)) then ((idx allv_6 k_6).bind fun x26 =>
    bif decide (x26.Kind = 5) then ((eE allv_6 out_6 k6) (w64 (used_6 - 1)) (w64 (k_6 + 1)))
    else ((eE allv_6 out_6 k6) used_6 (w64 (k_6 + 1))))
    else (mO used_6 out_6)

def mM (allv_100 : List aE) (used_100 : Int) (out_100 : List Int) : Option ((List Int) × Bool) :=
    eE allv_100 out_100 BIG used_100 0

def dO (allv_0 : List aE) (t_0 : aO) : Nat → Int → Int → (List Int) → (List Int) → Option ((List Int) × Bool)
  | 0, _, _, _, _ => none
  | k0 + 1, used_0, i_0, out_0, o18_0 =>
    bif decide (i_0 < (t_0.Slots.length : Int)) then ((idx t_0.Slots i_0).bind fun x7 =>
    eP (dO allv_0 t_0 k0) allv_0 i_0 t_0 out_0 BIG used_0 x7 true o18_0)
    else (mM allv_0 used_0 out_0)

def kB (t_0 : aO) (l_1 : List aE) : Option ((List Int) × Bool) :=
    (kK l_1).bind fun r2 =>
    (app 8 ([] : List Int) t_0.Slots).bind fun x4 =>
    dO r2 t_0 BIG 0 0 ([] : List Int) x4

def oH (again0 : Int → (List (List Int)) → (List Int) → Option (aQ × Bool)) (l_101 : List aE) (slots_101 : List Int) (r_101 : Int) (t_101 : aO) (o4_101 : aQ) (d_101 : List (List Int)) (d_101_2 : List Int) : Option (aQ × Bool) :=
    again0 (w64 (r_101 + 1)) d_101 d_101_2

def iS (again0 : Int → (List (List Int)) → (List Int) → Option (aQ × Bool)) (l_102 : List aE) (slots_102 : List Int) (r_102 : Int) (t_102 : aO) (o4_102 : aQ) (d_102 : List (List Int)) (d_102_2 : List Int) (row_102 : List Int) : Option (aQ × Bool) :=
    (app 24 d_102 [row_102]).bind fun x24 =>
    oH again0 l_102 slots_102 r_102 t_102 o4_102 x24 d_102_2

def dT (again0 : Int → (List (List Int)) → (List Int) → Option (aQ × Bool)) (l_2 : List aE) (slots_2 : List Int) (r_2 : Int) (t_2 : aO) (o4_2 : aQ) (d_2 : List (List Int)) (d_2_2 : List Int) : Nat → Int → (List Int) → Option (aQ × Bool)
  | 0, _, _ => none
  | k2 + 1, p_2, row_2 =>
    (gH t_2 r_2).bind fun r6 =>
    bif decide (p_2 < r6) then ((bif decide (r_2 = 0) then ((idx slots_2 (w64 (2 * p_2))).bind fun x7 =>
    some (decide (x7 = (-1)))) else (some false)).bind fun b8 =>
    bif b8 then ((idx slots_2 (w64 ((w64 (2 * p_2)) + 1))).bind fun x9 =>
    (bif decide (r_2 = 0) then ((idx slots_2 (w64 ((w64 (2 * p_2)) + 1))).bind fun x10 =>
    some (decide (x10 = (-1)))) else (some false)).bind fun b11 =>
    bif b11 then ((idx slots_2 (w64 (2 * p_2))).bind fun x12 =>
    (app 8 row_2 ([x12])).bind fun x13 =>
    (dT again0 l_2 slots_2 r_2 t_2 o4_2 d_2 d_2_2 k2) (w64 (p_2 + 1)) x13)
    else ((app 8 row_2 ([x9])).bind fun x15 =>
    (dT again0 l_2 slots_2 r_2 t_2 o4_2 d_2 d_2_2 k2) (w64 (p_2 + 1)) x15))
    else ((bif decide (r_2 = 0) then ((idx slots_2 (w64 ((w64 (2 * p_2)) + 1))).bind fun x17 =>
    some (decide (x17 = (-1)))) else (some false)).bind fun b18 =>
    bif b18 then ((idx slots_2 (w64 (2 * p_2))).bind fun x19 =>
    (app 8 row_2 ([x19])).bind fun x20 =>
    (dT again0 l_2 slots_2 r_2 t_2 o4_2 d_2 d_2_2 k2) (w64 (p_2 + 1)) x20)
    else ((app 8 row_2 ([(-2)])).bind fun x22 =>
    (dT again0 l_2 slots_2 r_2 t_2 o4_2 d_2 d_2_2 k2) (w64 (p_2 + 1)) x22)))
    else (iS again0 l_2 slots_2 r_2 t_2 o4_2 d_2 d_2_2 row_2)

def iT (again4 : Int → aQ → (List (List Int)) → Option (aQ × Bool)) (slots_105 : List Int) (allv_105 : List aE) (i_105 : Int) (o4_105 : aQ) (d_105 : List (List Int)) (d_105_2 : List Int) : Option (aQ × Bool) :=
    again4 (w64 (i_105 + 1)) o4_105 d_105

def nT (again4 : Int → aQ → (List (List Int)) → Option (aQ × Bool)) (slots_110 : List Int) (allv_110 : List aE) (i_110 : Int) (o4_110 : aQ) (d_110 : List (List Int)) (d_110_2 : List Int) : Option (aQ × Bool) :=
    iT again4 slots_110 allv_110 i_110 o4_110 d_110 d_110_2

def fJ (again4 : Int → aQ → (List (List Int)) → Option (aQ × Bool)) (slots_10 : List Int) (allv_10 : List aE) (i_10 : Int) (atv_10 : Int) (d_10_2 : List Int) (x_10 : aE) : Nat → Int → aQ → (List (List Int)) → Option (aQ × Bool)
  | 0, _, _, _ => none
  | k10 + 1, r_10, o4_10, d_10 =>
    bif decide (r_10 ≤ x_10.Round) then ((chk (decide (0 ≤ (IntKind.u64.wrap (w64 (r_10 + 1)))))).bind fun u36 =>
    (idx d_10 r_10).bind fun x37 =>
    (idx x37 (atv_10.fdiv (2 ^ (min (IntKind.u64.wrap (w64 (r_10 + 1))).toNat 64)))).bind fun x38 =>
    (bif !decide (x38 = (-2)) then ((idx d_10 r_10).bind fun x39 =>
    (idx x39 (atv_10.fdiv (2 ^ (min (IntKind.u64.wrap (w64 (r_10 + 1))).toNat 64)))).bind fun x40 =>
    some (!decide (x40 = x_10.Player))) else (some false)).bind fun b41 =>
    bif b41 then (some ((aQ.mk ([] : List Int) ([] : List (List Int))), false))
    else ((idx d_10 r_10).bind fun x42 =>
    (idx x42 (atv_10.fdiv (2 ^ (min (IntKind.u64.wrap (w64 (r_10 + 1))).toNat 64)))).bind fun x43 =>
    (fJ again4 slots_10 allv_10 i_10 atv_10 d_10_2 x_10 k10) (w64 (r_10 + 1)) o4_10 (d_10.set r_10.toNat (x42.set (atv_10.fdiv (2 ^ (min (IntKind.u64.wrap (w64 (r_10 + 1))).toNat 64))).toNat x_10.Player))))
    else (nT again4 slots_10 allv_10 i_10 o4_10 d_10 d_10_2)

def fR (again4 : Int → aQ → (List (List Int)) → Option (aQ × Bool)) (slots_108 : List Int) (allv_108 : List aE) (i_108 : Int) (atv_108 : Int) (o4_108 : aQ) (d_108 : List (List Int)) (d_108_2 : List Int) (x_108 : aE) : Option (aQ × Bool) :=
    (bif decide (atv_108 < 0) then (some true) else ((chk (decide (0 ≤ (IntKind.u64.wrap (w64 (x_108.Round + 1)))))).bind fun u34 =>
    some (!decide ((atv_108.fdiv (2 ^ (min (IntKind.u64.wrap (w64 (x_108.Round + 1))).toNat 64))) = x_108.Place)))).bind fun b35 =>
    bif b35 then (some ((aQ.mk ([] : List Int) ([] : List (List Int))), false))
    else (fJ again4 slots_108 allv_108 i_108 atv_108 d_108_2 x_108 BIG 0 o4_108 d_108)

def dP (again4 : Int → aQ → (List (List Int)) → Option (aQ × Bool)) (slots_8 : List Int) (allv_8 : List aE) (i_8 : Int) (o4_8 : aQ) (d_8 : List (List Int)) (d_8_2 : List Int) (x_8 : aE) : Nat → Int → Int → Option (aQ × Bool)
  | 0, _, _ => none
  | k8 + 1, atv_8, s_8 =>
    bif decide (s_8 < (slots_8.length : Int)) then ((idx slots_8 s_8).bind fun x33 =>
    bif decide (x33 = x_8.Player) then ((dP again4 slots_8 allv_8 i_8 o4_8 d_8 d_8_2 x_8 k8) s_8 (w64 (s_8 + 1)))
    else ((dP again4 slots_8 allv_8 i_8 o4_8 d_8 d_8_2 x_8 k8) atv_8 (w64 (s_8 + 1))))
    else (fR again4 slots_8 allv_8 i_8 atv_8 o4_8 d_8 d_8_2 x_8)

def lV (again4 : Int → aQ → (List (List Int)) → Option (aQ × Bool)) (slots_106 : List Int) (allv_106 : List aE) (i_106 : Int) (o4_106 : aQ) (d_106 : List (List Int)) (d_106_2 : List Int) (x_106 : aE) : Option (aQ × Bool) :=
    dP again4 slots_106 allv_106 i_106 o4_106 d_106 d_106_2 x_106 BIG (-1) 0

def fS (again4 : Int → aQ → (List (List Int)) → Option (aQ × Bool)) (slots_6 : List Int) (allv_6 : List aE) (i_6 : Int) (d_6 : List (List Int)) (d_6_2 : List Int) (x_6 : aE) : Nat → Int → aQ → Option (aQ × Bool)
  | 0, _, _ => none
  | k6 + 1, k_6, o4_6 =>
    bif decide (k_6 < i_6) then ((idx allv_6 k_6).bind fun x29 =>
    (bif !decide (x29.Kind = 5) then (some (decide (x29.Round = x_6.Round))) else (some false)).bind fun b31 =>
    (bif b31 then (some (decide (x29.Place = x_6.Place))) else (some false)).bind fun b32 =>
    bif b32 then (some ((aQ.mk ([] : List Int) ([] : List (List Int))), false))
    else ((fS again4 slots_6 allv_6 i_6 d_6 d_6_2 x_6 k6) (w64 (k_6 + 1)) o4_6))
    else (lV again4 slots_6 allv_6 i_6 o4_6 d_6 d_6_2 x_6)

def oI (o4_104 : aQ) (d_104 : List (List Int)) (d_104_2 : List Int) : Option (aQ × Bool) :=
    some ((aQ.mk d_104_2 d_104), true)

def dC (slots_4 : List Int) (allv_4 : List aE) (d_4_2 : List Int) : Nat → Int → aQ → (List (List Int)) → Option (aQ × Bool)
  | 0, _, _, _ => none
  | k4 + 1, i_4, o4_4, d_4 =>
    bif decide (i_4 < (allv_4.length : Int)) then ((idx allv_4 i_4).bind fun x27 =>
    bif decide (x27.Kind = 5) then (iT (dC slots_4 allv_4 d_4_2 k4) slots_4 allv_4 i_4 o4_4 d_4 d_4_2)
    else (fS (dC slots_4 allv_4 d_4_2 k4) slots_4 allv_4 i_4 d_4 d_4_2 x27 BIG 0 o4_4))
    else (oI o4_4 d_4 d_4_2)

def iR (l_100 : List aE) (slots_100 : List Int) (o4_100 : aQ) (d_100 : List (List Int)) (d_100_2 : List Int) : Option (aQ × Bool) :=
    (kK l_100).bind fun r26 =>
    dC slots_100 r26 d_100_2 BIG 0 o4_100 d_100

def fB (l_0 : List aE) (slots_0 : List Int) (t_0 : aO) (o4_0 : aQ) : Nat → Int → (List (List Int)) → (List Int) → Option (aQ × Bool)
  | 0, _, _, _ => none
  | k0 + 1, r_0, d_0, d_0_2 =>
    bif decide (r_0 < t_0.Rounds) then (dT (fB l_0 slots_0 t_0 o4_0 k0) l_0 slots_0 r_0 t_0 o4_0 d_0 d_0_2 BIG 0 ([] : List Int))
    else (iR l_0 slots_0 o4_0 d_0 d_0_2)

def cQ (t_0 : aO) (l_1 : List aE) : Option (aQ × Bool) :=
    (kB t_0 l_1).bind fun r3 =>
    bif !r3.2 then (some ((aQ.mk ([] : List Int) ([] : List (List Int))), false))
    else (fB l_1 r3.1 t_0 (aQ.mk ([] : List Int) ([] : List (List Int))) BIG 0 ([] : List (List Int)) r3.1)

def iD (l_100 : List aE) (t_100 : aO) : Option Int :=
    (cQ t_100 l_100).bind fun r5 =>
    bif !r5.2 then (some 72)
    else (some 0)

def fH (l_0 : List aE) (t_0 : aO) : Nat → Int → Option Int
  | 0, _ => none
  | k0 + 1, i_0 =>
    bif decide (i_0 < (l_0.length : Int)) then ((idx l_0 i_0).bind fun x3 =>
    (kQ t_0 x3).bind fun r4 =>
    bif !r4 then (some 71)
    else ((fH l_0 t_0 k0) (w64 (i_0 + 1))))
    else (iD l_0 t_0)

def eF (t_0 : aO) (l_1 : List aE) : Option Int :=
    (jF t_0).bind fun r2 =>
    bif !r2 then (some 70)
    else (bif decide (60 < (l_1.length : Int)) then (some 71)
    else (fH l_1 t_0 BIG 0))

def pH (d_0 : aQ) (round_1 : Int) (place_2 : Int) (side_3 : Int) : Option Int :=
    bif decide (round_1 = 0) then ((idx d_0.Slots (w64 ((w64 (2 * place_2)) + side_3))).bind fun x2 =>
    some x2)
    else ((idx d_0.Must (w64 (round_1 - 1))).bind fun x3 =>
    (idx x3 (w64 ((w64 (2 * place_2)) + side_3))).bind fun x4 =>
    some x4)

def qW (again0 : Int → (List bA) → Option ((List bA))) (r_101 : Int) (t_101 : aO) (d_101 : aQ) (out_101 : List bA) : Option ((List bA)) :=
    again0 (w64 (r_101 + 1)) out_101

def lM (again0 : Int → (List bA) → Option ((List bA))) (r_102 : Int) (t_102 : aO) (d_102 : aQ) (out_102 : List bA) : Option ((List bA)) :=
    qW again0 r_102 t_102 d_102 out_102

def iE (again0 : Int → (List bA) → Option ((List bA))) (r_2 : Int) (t_2 : aO) (d_2 : aQ) : Nat → Int → (List bA) → Option ((List bA))
  | 0, _, _ => none
  | k2 + 1, p_2, out_2 =>
    (gH t_2 r_2).bind fun r4 =>
    bif decide (p_2 < r4) then ((pH d_2 r_2 p_2 0).bind fun r5 =>
    (pH d_2 r_2 p_2 1).bind fun r6 =>
    (app 32 out_2 ([(bA.mk r_2 p_2 r5 r6)])).bind fun x7 =>
    (iE again0 r_2 t_2 d_2 k2) (w64 (p_2 + 1)) x7)
    else (lM again0 r_2 t_2 d_2 out_2)

def qV (out_100 : List bA) : Option ((List bA)) :=
    some out_100

def eO (t_0 : aO) (d_0 : aQ) : Nat → Int → (List bA) → Option ((List bA))
  | 0, _, _ => none
  | k0 + 1, r_0, out_0 =>
    bif decide (r_0 < t_0.Rounds) then (iE (eO t_0 d_0 k0) r_0 t_0 d_0 BIG 0 out_0)
    else (qV out_0)

def lE (t_0 : aO) (d_1 : aQ) : Option ((List bA)) :=
    eO t_0 d_1 BIG 0 ([] : List bA)

def jT (t_0 : aO) (l_1 : List aE) : Option ((List bA) × Int) :=
    (eF t_0 l_1).bind fun r2 =>
    bif !decide (r2 = 0) then (some (([] : List bA), r2))
    else ((cQ t_0 l_1).bind fun r3 =>
    (lE t_0 r3.1).bind fun r5 =>
    some (r5, 0))

def gV (t_0 : aO) (l_1 : List aE) (round_2 : Int) (place_3 : Int) : Option Int :=
    (eF t_0 l_1).bind fun r2 =>
    bif !decide (r2 = 0) then (some r2)
    else ((iM t_0 round_2 place_3).bind fun r3 =>
    bif !r3 then (some 1)
    else (some 0))

def gI (t_0 : aO) (l_1 : List aE) (round_2 : Int) (place_3 : Int) : Option (Int × Int) :=
    (gV t_0 l_1 round_2 place_3).bind fun r2 =>
    bif !decide (r2 = 0) then (some (0, r2))
    else ((cQ t_0 l_1).bind fun r3 =>
    (idx r3.1.Must round_2).bind fun x5 =>
    (idx x5 place_3).bind fun x6 =>
    bif decide (x6 = (-2)) then (some (0, 3))
    else ((idx r3.1.Must round_2).bind fun x7 =>
    (idx x7 place_3).bind fun x8 =>
    some (x8, 0)))

end Go.Am
