/- Shallow functions, printed by program. -/
import Derived.Test.YtaocljlhapoieaaAmFull
import Derived.Test.YtaocljlhapoieaaAmPrim
import Derived.Test.YtaocljlhapoieaaAmSort
namespace Go.Am

structure aX where
  Player : Int
  From : Int
  To : Int
  deriving DecidableEq, Inhabited
def aI (x : aX) : List D := [.lit (.int .i64 x.Player), .lit (.int .i64 x.From), .lit (.int .i64 x.To)]

def aAb (x : List aX) : List D := [.sl 3 (x.map aI)]

structure aB where
  Id : Int
  Player : Int
  Week : Int
  Points : Int
  Must : Bool
  deriving DecidableEq, Inhabited
def aD (x : aB) : List D := [.lit (.int .i64 x.Id), .lit (.int .i64 x.Player), .lit (.int .i64 x.Week), .lit (.int .i64 x.Points), .lit (.bool x.Must)]

def aAo (x : List aB) : List D := [.sl 5 (x.map aD)]

structure aM where
  Players : Int
  Counts : Int
  Reports : List aB
  Bans : List aX
  Frozen : List aX
  deriving DecidableEq, Inhabited
def aU (x : aM) : List D := [.lit (.int .i64 x.Players), .lit (.int .i64 x.Counts), .sl 5 (x.Reports.map aD), .sl 3 (x.Bans.map aI), .sl 3 (x.Frozen.map aI)]

structure bW where
  Ledger : aM
  deriving DecidableEq, Inhabited
def cE (x : bW) : List D := [.lit (.int .i64 x.Ledger.Players), .lit (.int .i64 x.Ledger.Counts), .sl 5 (x.Ledger.Reports.map aD), .sl 3 (x.Ledger.Bans.map aI), .sl 3 (x.Ledger.Frozen.map aI)]

def pQ (x : List Int) : List D := [.sl 1 (x.map cK)]

structure bB where
  player : Int
  points : Int
  musts : Int
  many : Int
  deriving DecidableEq, Inhabited
def bM (x : bB) : List D := [.lit (.int .i64 x.player), .lit (.int .i64 x.points), .lit (.int .i64 x.musts), .lit (.int .i64 x.many)]

structure kH where
  Player : Int
  Week : Int
  Id : Int
  deriving DecidableEq, Inhabited
def nZ (x : kH) : List D := [.lit (.int .i64 x.Player), .lit (.int .i64 x.Week), .lit (.int .i64 x.Id)]

structure jI where
  Prizes : List Int
  To : List Int
  deriving DecidableEq, Inhabited
def mR (x : jI) : List D := [.sl 1 (x.Prizes.map cK), .sl 1 (x.To.map cK)]

def vV (x : aB) : Prop := okI x.Id ∧ okI x.Player ∧ okI x.Week ∧ okI x.Points ∧ okB x.Must

def rN (x : aX) : Prop := okI x.Player ∧ okI x.From ∧ okI x.To

def zR (x : aM) : Prop := okI x.Players ∧ okI x.Counts ∧ (okL vV) x.Reports ∧ (okL rN) x.Bans ∧ (okL rN) x.Frozen

def vJ (x : kH) : Prop := okI x.Player ∧ okI x.Week ∧ okI x.Id

def sY (x : jI) : Prop := (okL okI) x.Prizes ∧ (okL okI) x.To

def eG (n_0 : Int) (low_1 : Int) (high_2 : Int) : Option Bool :=
    (bif decide (low_1 ≤ n_0) then (some (decide (n_0 ≤ high_2))) else (some false)).bind fun b1 =>
    some b1

def mT (l_100 : List aX) : Option Bool :=
    some (decide ((l_100.length : Int) ≤ 8))

def fQ (players_0 : Int) (l_0 : List aX) : Nat → Int → Option Bool
  | 0, _ => none
  | k0 + 1, i_0 =>
    bif decide (i_0 < (l_0.length : Int)) then ((idx l_0 i_0).bind fun x1 =>
    (eG x1.Player 0 (w64 (players_0 - 1))).bind fun r2 =>
    (bif !r2 then (some true) else ((idx l_0 i_0).bind fun x3 =>
    some (decide (x3.From < 0)))).bind fun b4 =>
    (bif b4 then (some true) else ((idx l_0 i_0).bind fun x5 =>
    (idx l_0 i_0).bind fun x6 =>
    some (decide (x6.To < x5.From)))).bind fun b7 =>
    (bif b7 then (some true) else ((idx l_0 i_0).bind fun x8 =>
    some (decide (400 < x8.To)))).bind fun b9 =>
    bif b9 then (some false)
    else ((fQ players_0 l_0 k0) (w64 (i_0 + 1))))
    else (mT l_0)

def iP (players_0 : Int) (l_1 : List aX) : Option Bool :=
    fQ players_0 l_1 BIG 0

def kO (players_0 : Int) (r_1 : aB) : Option Bool :=
    (eG r_1.Id 0 99).bind fun r2 =>
    (bif r2 then ((eG r_1.Player 0 (w64 (players_0 - 1))).bind fun r3 =>
    some r3) else (some false)).bind fun b4 =>
    (bif b4 then ((eG r_1.Week 0 400).bind fun r5 =>
    some r5) else (some false)).bind fun b6 =>
    (bif b6 then ((eG r_1.Points 0 2000).bind fun r7 =>
    some r7) else (some false)).bind fun b8 =>
    some b8

def nL (again2 : Int → Option Bool) (i_103 : Int) (l_103 : aM) : Option Bool :=
    again2 (w64 (i_103 + 1))

def nM (again2 : Int → Option Bool) (i_104 : Int) (l_104 : aM) : Option Bool :=
    nL again2 i_104 l_104

def gA (again2 : Int → Option Bool) (i_4 : Int) (l_4 : aM) : Nat → Int → Option Bool
  | 0, _ => none
  | k4 + 1, k_4 =>
    bif decide (k_4 < i_4) then ((idx l_4.Frozen i_4).bind fun x12 =>
    (idx l_4.Frozen k_4).bind fun x13 =>
    (bif decide (x12.Player = x13.Player) then (some (decide (x12.From ≤ x13.To))) else (some false)).bind fun b16 =>
    (bif b16 then (some (decide (x13.From ≤ x12.To))) else (some false)).bind fun b17 =>
    bif b17 then (some false)
    else ((gA again2 i_4 l_4 k4) (w64 (k_4 + 1))))
    else (nM again2 i_4 l_4)

def nK : Option Bool :=
    some true

def dW (l_2 : aM) : Nat → Int → Option Bool
  | 0, _ => none
  | k2 + 1, i_2 =>
    bif decide (i_2 < (l_2.Frozen.length : Int)) then (gA (dW l_2 k2) i_2 l_2 BIG 0)
    else (nK)

def nJ (l_100 : aM) : Option Bool :=
    dW l_100 BIG 0

def fH (l_0 : aM) : Nat → Int → Option Bool
  | 0, _ => none
  | k0 + 1, i_0 =>
    bif decide (i_0 < (l_0.Reports.length : Int)) then ((idx l_0.Reports i_0).bind fun x10 =>
    (kO l_0.Players x10).bind fun r11 =>
    bif !r11 then (some false)
    else ((fH l_0 k0) (w64 (i_0 + 1))))
    else (nJ l_0)

def kN (l_0 : aM) : Option Bool :=
    (eG l_0.Players 1 16).bind fun r2 =>
    (bif !r2 then (some true) else ((eG l_0.Counts 1 20).bind fun r3 =>
    some (!r3))).bind fun b4 =>
    (bif b4 then (some true) else (some (decide (40 < (l_0.Reports.length : Int))))).bind fun b5 =>
    (bif b5 then (some true) else ((iP l_0.Players l_0.Bans).bind fun r6 =>
    some (!r6))).bind fun b7 =>
    (bif b7 then (some true) else ((iP l_0.Players l_0.Frozen).bind fun r8 =>
    some (!r8))).bind fun b9 =>
    bif b9 then (some false)
    else (fH l_0 BIG 0)

def oP (again0 : Int → Option Bool) (l_101 : List aB) (i_101 : Int) : Option Bool :=
    again0 (w64 (i_101 + 1))

def oQ (again0 : Int → Option Bool) (l_102 : List aB) (i_102 : Int) : Option Bool :=
    oP again0 l_102 i_102

def gV (again0 : Int → Option Bool) (l_2 : List aB) (i_2 : Int) : Nat → Int → Option Bool
  | 0, _ => none
  | k2 + 1, k_2 =>
    bif decide (k_2 < i_2) then ((idx l_2 i_2).bind fun x1 =>
    (idx l_2 k_2).bind fun x2 =>
    (bif decide (x1.Id = x2.Id) then ((idx l_2 i_2).bind fun x3 =>
    (idx l_2 k_2).bind fun x4 =>
    some (!decide (x3 = x4))) else (some false)).bind fun b5 =>
    bif b5 then (some true)
    else ((gV again0 l_2 i_2 k2) (w64 (k_2 + 1))))
    else (oQ again0 l_2 i_2)

def oO : Option Bool :=
    some false

def eT (l_0 : List aB) : Nat → Int → Option Bool
  | 0, _ => none
  | k0 + 1, i_0 =>
    bif decide (i_0 < (l_0.length : Int)) then (gV (eT l_0 k0) l_0 i_0 BIG 0)
    else (oO)

def mI (l_0 : List aB) : Option Bool :=
    eT l_0 BIG 0

def jJ (l_0 : aM) : Option Int :=
    (kN l_0).bind fun r2 =>
    bif !r2 then (some 40)
    else ((mI l_0.Reports).bind fun r3 =>
    bif r3 then (some 41)
    else (some 0))

def kA (l_100 : aM) : Option Bool :=
    (bif decide (5 < l_100.Players) then (some true) else (some (decide (10 < (l_100.Reports.length : Int))))).bind fun b6 =>
    some b6

def fN (l_0 : aM) : Nat → Int → Option Bool
  | 0, _ => none
  | k0 + 1, i_0 =>
    bif decide (i_0 < (l_0.Reports.length : Int)) then ((idx l_0.Reports i_0).bind fun x5 =>
    bif decide (150 < x5.Week) then (some true)
    else ((fN l_0 k0) (w64 (i_0 + 1))))
    else (kA l_0)

def iO (l_0 : aM) : Option Bool :=
    (bif decide (60 < (l_0.Reports.length : Int)) then (some true) else (some (decide (20 < (l_0.Bans.length : Int))))).bind fun b2 =>
    (bif b2 then (some true) else (some (decide (20 < (l_0.Frozen.length : Int))))).bind fun b3 =>
    bif b3 then (some true)
    else ((jJ l_0).bind fun r4 =>
    bif !decide (r4 = 0) then (some false)
    else (fN l_0 BIG 0))

def oZ : Option aM :=
    some (aM.mk 3 2 ([(aB.mk 1 0 10 500 false), (aB.mk 2 0 20 300 false), (aB.mk 3 0 30 100 true), (aB.mk 4 1 12 400 false), (aB.mk 5 1 40 200 false), (aB.mk 6 2 15 600 false)]) ([(aX.mk 1 50 55)]) ([(aX.mk 2 20 29)]))

def eN (n_0 : Int) (low_1 : Int) (high_2 : Int) : Option Bool :=
    (bif decide (low_1 ≤ n_0) then (some (decide (n_0 ≤ high_2))) else (some false)).bind fun b1 =>
    some b1

def jP : Option Int :=
    some (-1)

def eB (s_0 : List aX) (f_0 : aX → Option Bool) (t7_0 : Int) : Nat → Int → Option Int
  | 0, _ => none
  | k0 + 1, t8_0 =>
    bif decide (t8_0 < t7_0) then ((idx s_0 t8_0).bind fun x1 =>
    (f_0 x1).bind fun r2 =>
    bif r2 then (some t8_0)
    else ((eB s_0 f_0 t7_0 k0) (w64 (t8_0 + 1))))
    else (jP)

def gH (s_0 : List aX) (f_1 : aX → Option Bool) : Option Int :=
    eB s_0 f_1 (s_0.length : Int) BIG 0

def eA (s_0 : List aX) (f_1 : aX → Option Bool) : Option Bool :=
    (gH s_0 f_1).bind fun r1 =>
    some (decide (0 ≤ r1))

def mO (a_0 : aX) (c_1 : aM) : Option Bool :=
    (eN a_0.Player 0 (w64 (c_1.Players - 1))).bind fun r2 =>
    (bif !r2 then (some true) else (some (decide (a_0.To < a_0.From)))).bind fun b3 =>
    (bif b3 then (some true) else ((eN a_0.From 0 400).bind fun r4 =>
    some (!r4))).bind fun b5 =>
    (bif b5 then (some true) else ((eN a_0.To 0 400).bind fun r6 =>
    some (!r6))).bind fun b7 =>
    some b7

def mF (l_0 : aM) (all_1 : List aX) : Option Bool :=
    (bif decide ((all_1.length : Int) ≤ 8) then ((eA all_1 (fun y2 => mO y2 l_0)).bind fun r3 =>
    some (!r3)) else (some false)).bind fun b4 =>
    some b4

def mZ (b_0 : aX) (c_1 : aX) : Option Bool :=
    (bif decide (c_1.Player = b_0.Player) then (some (decide (c_1.From ≤ b_0.To))) else (some false)).bind fun b2 =>
    (bif b2 then (some (decide (b_0.From ≤ c_1.To))) else (some false)).bind fun b3 =>
    some b3

def rE : Option Bool :=
    some true

def iJ (t69_2 : List aX) (t70_2 : Int) (l_2 : aM) : Nat → Int → Option Bool
  | 0, _ => none
  | k2 + 1, t71_2 =>
    bif decide (t71_2 < t70_2) then ((idx t69_2 t71_2).bind fun x18 =>
    (sub l_2.Frozen 0 t71_2).bind fun x20 =>
    (eA x20 (fun y21 => mZ y21 x18)).bind fun r22 =>
    bif r22 then (some false)
    else ((iJ t69_2 t70_2 l_2 k2) (w64 (t71_2 + 1))))
    else (rE)

def rD (l_100 : aM) : Option Bool :=
    (mF l_100 l_100.Bans).bind fun r15 =>
    (bif !r15 then (some true) else ((mF l_100 l_100.Frozen).bind fun r16 =>
    some (!r16))).bind fun b17 =>
    bif b17 then (some false)
    else (iJ l_100.Frozen (l_100.Frozen.length : Int) l_100 BIG 0)

def iI (t24_0 : List aB) (t25_0 : Int) (l_0 : aM) : Nat → Int → Option Bool
  | 0, _ => none
  | k0 + 1, t26_0 =>
    bif decide (t26_0 < t25_0) then ((idx t24_0 t26_0).bind fun x6 =>
    (eN x6.Id 0 99).bind fun r8 =>
    (bif !r8 then (some true) else ((eN x6.Player 0 (w64 (l_0.Players - 1))).bind fun r9 =>
    some (!r9))).bind fun b10 =>
    (bif b10 then (some true) else ((eN x6.Week 0 400).bind fun r11 =>
    some (!r11))).bind fun b12 =>
    (bif b12 then (some true) else ((eN x6.Points 0 2000).bind fun r13 =>
    some (!r13))).bind fun b14 =>
    bif b14 then (some false)
    else ((iI t24_0 t25_0 l_0 k0) (w64 (t26_0 + 1))))
    else (rD l_0)

def oI (l_0 : aM) : Option Bool :=
    (eN l_0.Players 1 16).bind fun r2 =>
    (bif !r2 then (some true) else ((eN l_0.Counts 1 20).bind fun r3 =>
    some (!r3))).bind fun b4 =>
    (bif b4 then (some true) else (some (decide (40 < (l_0.Reports.length : Int))))).bind fun b5 =>
    bif b5 then (some false)
    else (iI l_0.Reports (l_0.Reports.length : Int) l_0 BIG 0)

def eX (s_0 : List aB) : Option ((List aB)) :=
    (app 40 ([] : List aB) s_0).bind fun x5 =>
    some x5

def eZ (again0 : Int → (List aB) → Option ((List aB))) (a_101 : Int) (b_101 : Int) (cmp_101 : aB → aB → Option Int) (i_101 : Int) (data_101 : List aB) : Option ((List aB)) :=
    again0 (w64 (i_101 + 1)) data_101

def fA (again0 : Int → (List aB) → Option ((List aB))) (a_102 : Int) (b_102 : Int) (cmp_102 : aB → aB → Option Int) (i_102 : Int) (data_102 : List aB) : Option ((List aB)) :=
    eZ again0 a_102 b_102 cmp_102 i_102 data_102

def cV (again0 : Int → (List aB) → Option ((List aB))) (a_2 : Int) (b_2 : Int) (cmp_2 : aB → aB → Option Int) (i_2 : Int) : Nat → Int → (List aB) → Option ((List aB))
  | 0, _, _ => none
  | k2 + 1, j_2, data_2 =>
    (bif decide (a_2 < j_2) then ((idx data_2 j_2).bind fun x1 =>
    (idx data_2 (w64 (j_2 - 1))).bind fun x2 =>
    (cmp_2 x1 x2).bind fun r3 =>
    some (decide (r3 < 0))) else (some false)).bind fun b4 =>
    bif b4 then ((idx data_2 (w64 (j_2 - 1))).bind fun x5 =>
    (idx data_2 j_2).bind fun x6 =>
    (idx data_2 j_2).bind fun x7 =>
    (idx (data_2.set j_2.toNat x5) (w64 (j_2 - 1))).bind fun x8 =>
    (cV again0 a_2 b_2 cmp_2 i_2 k2) (w64 (j_2 - 1)) ((data_2.set j_2.toNat x5).set (w64 (j_2 - 1)).toNat x6))
    else (fA again0 a_2 b_2 cmp_2 i_2 data_2)

def eY (data_100 : List aB) : Option ((List aB)) :=
    some data_100

def cH (a_0 : Int) (b_0 : Int) (cmp_0 : aB → aB → Option Int) : Nat → Int → (List aB) → Option ((List aB))
  | 0, _, _ => none
  | k0 + 1, i_0, data_0 =>
    bif decide (i_0 < b_0) then (cV (cH a_0 b_0 cmp_0 k0) a_0 b_0 cmp_0 i_0 BIG i_0 data_0)
    else (eY data_0)

def dI (data_0 : List aB) (a_1 : Int) (b_2 : Int) (cmp_3 : aB → aB → Option Int) : Option ((List aB)) :=
    cH a_1 b_2 cmp_3 BIG (w64 (a_1 + 1)) data_0

def iB (data_100 : List aB) : Option ((List aB)) :=
    some data_100

def dL (a_0 : Int) (b_0 : Int) (n_0 : Int) : Nat → Int → (List aB) → Option ((List aB))
  | 0, _, _ => none
  | k0 + 1, i_0, data_0 =>
    bif decide (i_0 < n_0) then ((idx data_0 (w64 (b_0 + i_0))).bind fun x1 =>
    (idx data_0 (w64 (a_0 + i_0))).bind fun x2 =>
    (idx data_0 (w64 (a_0 + i_0))).bind fun x3 =>
    (idx (data_0.set (w64 (a_0 + i_0)).toNat x1) (w64 (b_0 + i_0))).bind fun x4 =>
    (dL a_0 b_0 n_0 k0) (w64 (i_0 + 1)) ((data_0.set (w64 (a_0 + i_0)).toNat x1).set (w64 (b_0 + i_0)).toNat x2))
    else (iB data_0)

def dS (data_0 : List aB) (a_1 : Int) (b_2 : Int) (n_3 : Int) (cmp_4 : aB → aB → Option Int) : Option ((List aB)) :=
    dL a_1 b_2 n_3 BIG 0 data_0

def iW (m_100 : Int) (cmp_100 : aB → aB → Option Int) (i_100 : Int) (data_100 : List aB) : Option ((List aB)) :=
    (dS data_100 (w64 (m_100 - i_100)) m_100 i_100 cmp_100).bind fun r3 =>
    some r3

def cZ (m_0 : Int) (cmp_0 : aB → aB → Option Int) : Nat → Int → Int → (List aB) → Option ((List aB))
  | 0, _, _, _ => none
  | k0 + 1, i_0, j_0, data_0 =>
    bif !decide (i_0 = j_0) then (bif decide (j_0 < i_0) then ((dS data_0 (w64 (m_0 - i_0)) m_0 j_0 cmp_0).bind fun r1 =>
    (cZ m_0 cmp_0 k0) (w64 (i_0 - j_0)) j_0 r1)
    else ((dS data_0 (w64 (m_0 - i_0)) (w64 ((w64 (m_0 + j_0)) - i_0)) i_0 cmp_0).bind fun r2 =>
    (cZ m_0 cmp_0 k0) i_0 (w64 (j_0 - i_0)) r2))
    else (iW m_0 cmp_0 i_0 data_0)

def eP (data_0 : List aB) (a_1 : Int) (m_2 : Int) (b_3 : Int) (cmp_4 : aB → aB → Option Int) : Option ((List aB)) :=
    cZ m_2 cmp_4 BIG (w64 (m_2 - a_1)) (w64 (b_3 - m_2)) data_0

def iL (againR : (List aB) → Int → Int → Int → Option ((List aB))) (data_102 : List aB) : Option ((List aB)) :=
    some data_102

def dN (againR : (List aB) → Int → Int → Int → Option ((List aB))) (i_2 : Int) : Nat → Int → (List aB) → Option ((List aB))
  | 0, _, _ => none
  | k2 + 1, k_2, data_2 =>
    bif decide (k_2 < (w64 (i_2 - 1))) then ((idx data_2 (w64 (k_2 + 1))).bind fun x4 =>
    (idx data_2 k_2).bind fun x5 =>
    (idx data_2 k_2).bind fun x6 =>
    (idx (data_2.set k_2.toNat x4) (w64 (k_2 + 1))).bind fun x7 =>
    (dN againR i_2 k2) (w64 (k_2 + 1)) ((data_2.set k_2.toNat x4).set (w64 (k_2 + 1)).toNat x5))
    else (iL againR data_2)

def fW (againR : (List aB) → Int → Int → Int → Option ((List aB))) (a_100 : Int) (i_100 : Int) (data_100 : List aB) : Option ((List aB)) :=
    dN againR i_100 BIG a_100 data_100

def cN (againR : (List aB) → Int → Int → Int → Option ((List aB))) (a_0 : Int) (cmp_0 : aB → aB → Option Int) (data_0 : List aB) : Nat → Int → Int → Option ((List aB))
  | 0, _, _ => none
  | k0 + 1, i_0, j_0 =>
    bif decide (i_0 < j_0) then ((idx data_0 (w64 ((IntKind.u64.wrap (w64 (i_0 + j_0))).fdiv (2 ^ (min (1 : Int).toNat 64))))).bind fun x1 =>
    (idx data_0 a_0).bind fun x2 =>
    (cmp_0 x1 x2).bind fun r3 =>
    bif decide (r3 < 0) then ((cN againR a_0 cmp_0 data_0 k0) (w64 ((w64 ((IntKind.u64.wrap (w64 (i_0 + j_0))).fdiv (2 ^ (min (1 : Int).toNat 64)))) + 1)) j_0)
    else ((cN againR a_0 cmp_0 data_0 k0) i_0 (w64 ((IntKind.u64.wrap (w64 (i_0 + j_0))).fdiv (2 ^ (min (1 : Int).toNat 64))))))
    else (fW againR a_0 i_0 data_0)

def iM (againR : (List aB) → Int → Int → Int → Option ((List aB))) (data_106 : List aB) : Option ((List aB)) :=
    some data_106

def dO (againR : (List aB) → Int → Int → Int → Option ((List aB))) (i_6 : Int) : Nat → Int → (List aB) → Option ((List aB))
  | 0, _, _ => none
  | k6 + 1, k_6, data_6 =>
    bif decide (i_6 < k_6) then ((idx data_6 (w64 (k_6 - 1))).bind fun x11 =>
    (idx data_6 k_6).bind fun x12 =>
    (idx data_6 k_6).bind fun x13 =>
    (idx (data_6.set k_6.toNat x11) (w64 (k_6 - 1))).bind fun x14 =>
    (dO againR i_6 k6) (w64 (k_6 - 1)) ((data_6.set k_6.toNat x11).set (w64 (k_6 - 1)).toNat x12))
    else (iM againR data_6)

def fX (againR : (List aB) → Int → Int → Int → Option ((List aB))) (m_104 : Int) (i_104 : Int) (data_104 : List aB) : Option ((List aB)) :=
    dO againR i_104 BIG m_104 data_104

def cO (againR : (List aB) → Int → Int → Int → Option ((List aB))) (m_4 : Int) (cmp_4 : aB → aB → Option Int) (data_4 : List aB) : Nat → Int → Int → Option ((List aB))
  | 0, _, _ => none
  | k4 + 1, i_4, j_4 =>
    bif decide (i_4 < j_4) then ((idx data_4 m_4).bind fun x8 =>
    (idx data_4 (w64 ((IntKind.u64.wrap (w64 (i_4 + j_4))).fdiv (2 ^ (min (1 : Int).toNat 64))))).bind fun x9 =>
    (cmp_4 x8 x9).bind fun r10 =>
    bif !(decide (r10 < 0)) then ((cO againR m_4 cmp_4 data_4 k4) (w64 ((w64 ((IntKind.u64.wrap (w64 (i_4 + j_4))).fdiv (2 ^ (min (1 : Int).toNat 64)))) + 1)) j_4)
    else ((cO againR m_4 cmp_4 data_4 k4) i_4 (w64 ((IntKind.u64.wrap (w64 (i_4 + j_4))).fdiv (2 ^ (min (1 : Int).toNat 64))))))
    else (fX againR m_4 i_4 data_4)

def dC (againR : (List aB) → Int → Int → Int → Option ((List aB))) (a_108 : Int) (m_108 : Int) (b_108 : Int) (cmp_108 : aB → aB → Option Int) (mid_108 : Int) (n_108 : Int) (start_108 : Int) (data_108 : List aB) : Option ((List aB)) :=
    (bif decide (start_108 < m_108) then (some (decide (m_108 < (w64 (n_108 - start_108))))) else (some false)).bind fun b18 =>
    bif b18 then ((eP data_108 start_108 m_108 (w64 (n_108 - start_108)) cmp_108).bind fun r19 =>
    (bif decide (a_108 < start_108) then (some (decide (start_108 < mid_108))) else (some false)).bind fun b20 =>
    bif b20 then ((againR r19 a_108 start_108 mid_108).bind fun r21 =>
    (bif decide (mid_108 < (w64 (n_108 - start_108))) then (some (decide ((w64 (n_108 - start_108)) < b_108))) else (some false)).bind fun b22 =>
    bif b22 then ((againR r21 mid_108 (w64 (n_108 - start_108)) b_108).bind fun r23 =>
    some r23)
    else (some r21))
    else ((bif decide (mid_108 < (w64 (n_108 - start_108))) then (some (decide ((w64 (n_108 - start_108)) < b_108))) else (some false)).bind fun b24 =>
    bif b24 then ((againR r19 mid_108 (w64 (n_108 - start_108)) b_108).bind fun r25 =>
    some r25)
    else (some r19)))
    else ((bif decide (a_108 < start_108) then (some (decide (start_108 < mid_108))) else (some false)).bind fun b26 =>
    bif b26 then ((againR data_108 a_108 start_108 mid_108).bind fun r27 =>
    (bif decide (mid_108 < (w64 (n_108 - start_108))) then (some (decide ((w64 (n_108 - start_108)) < b_108))) else (some false)).bind fun b28 =>
    bif b28 then ((againR r27 mid_108 (w64 (n_108 - start_108)) b_108).bind fun r29 =>
    some r29)
    else (some r27))
    else ((bif decide (mid_108 < (w64 (n_108 - start_108))) then (some (decide ((w64 (n_108 - start_108)) < b_108))) else (some false)).bind fun b30 =>
    bif b30 then ((againR data_108 mid_108 (w64 (n_108 - start_108)) b_108).bind fun r31 =>
    some r31)
    else (some data_108)))

def bZ (againR : (List aB) → Int → Int → Int → Option ((List aB))) (a_8 : Int) (m_8 : Int) (b_8 : Int) (cmp_8 : aB → aB → Option Int) (mid_8 : Int) (n_8 : Int) (p_8 : Int) (data_8 : List aB) : Nat → Int → Int → Option ((List aB))
  | 0, _, _ => none
  | k8 + 1, start_8, r_8 =>
    bif decide (start_8 < r_8) then ((idx data_8 (w64 (p_8 - (w64 ((IntKind.u64.wrap (w64 (start_8 + r_8))).fdiv (2 ^ (min (1 : Int).toNat 64))))))).bind fun x15 =>
    (idx data_8 (w64 ((IntKind.u64.wrap (w64 (start_8 + r_8))).fdiv (2 ^ (min (1 : Int).toNat 64))))).bind fun x16 =>
    (cmp_8 x15 x16).bind fun r17 =>
    bif !(decide (r17 < 0)) then ((bZ againR a_8 m_8 b_8 cmp_8 mid_8 n_8 p_8 data_8 k8) (w64 ((w64 ((IntKind.u64.wrap (w64 (start_8 + r_8))).fdiv (2 ^ (min (1 : Int).toNat 64)))) + 1)) r_8)
    else ((bZ againR a_8 m_8 b_8 cmp_8 mid_8 n_8 p_8 data_8 k8) start_8 (w64 ((IntKind.u64.wrap (w64 (start_8 + r_8))).fdiv (2 ^ (min (1 : Int).toNat 64))))))
    else (dC againR a_8 m_8 b_8 cmp_8 mid_8 n_8 start_8 data_8)

def bE (cmp_4 : aB → aB → Option Int) : Nat → (List aB) → Int → Int → Int → Option ((List aB))
  | 0, _, _, _, _ => none
  | kr + 1, data_0, a_1, m_2, b_3 =>
    bif decide ((w64 (m_2 - a_1)) = 1) then (cN (bE cmp_4 kr) a_1 cmp_4 data_0 BIG m_2 b_3)
    else (bif decide ((w64 (b_3 - m_2)) = 1) then (cO (bE cmp_4 kr) m_2 cmp_4 data_0 BIG a_1 m_2)
    else (bif decide ((w64 ((IntKind.u64.wrap (w64 (a_1 + b_3))).fdiv (2 ^ (min (1 : Int).toNat 64)))) < m_2) then (bZ (bE cmp_4 kr) a_1 m_2 b_3 cmp_4 (w64 ((IntKind.u64.wrap (w64 (a_1 + b_3))).fdiv (2 ^ (min (1 : Int).toNat 64)))) (w64 ((w64 ((IntKind.u64.wrap (w64 (a_1 + b_3))).fdiv (2 ^ (min (1 : Int).toNat 64)))) + m_2)) (w64 ((w64 ((w64 ((IntKind.u64.wrap (w64 (a_1 + b_3))).fdiv (2 ^ (min (1 : Int).toNat 64)))) + m_2)) - 1)) data_0 BIG (w64 ((w64 ((w64 ((IntKind.u64.wrap (w64 (a_1 + b_3))).fdiv (2 ^ (min (1 : Int).toNat 64)))) + m_2)) - b_3)) (w64 ((IntKind.u64.wrap (w64 (a_1 + b_3))).fdiv (2 ^ (min (1 : Int).toNat 64)))))
    else (bZ (bE cmp_4 kr) a_1 m_2 b_3 cmp_4 (w64 ((IntKind.u64.wrap (w64 (a_1 + b_3))).fdiv (2 ^ (min (1 : Int).toNat 64)))) (w64 ((w64 ((IntKind.u64.wrap (w64 (a_1 + b_3))).fdiv (2 ^ (min (1 : Int).toNat 64)))) + m_2)) (w64 ((w64 ((w64 ((IntKind.u64.wrap (w64 (a_1 + b_3))).fdiv (2 ^ (min (1 : Int).toNat 64)))) + m_2)) - 1)) data_0 BIG a_1 m_2)))

def gL (data_0 : List aB) (a_1 : Int) (m_2 : Int) (b_3 : Int) (cmp_4 : aB → aB → Option Int) : Option ((List aB)) := bE cmp_4 BIG data_0 a_1 m_2 b_3

def fC (again2 : Int → (List aB) → Option ((List aB))) (n_103 : Int) (cmp_103 : aB → aB → Option Int) (blockSize_103 : Int) (data_103 : List aB) : Option ((List aB)) :=
    again2 blockSize_103 data_103

def iZ (again2 : Int → (List aB) → Option ((List aB))) (n_104 : Int) (cmp_104 : aB → aB → Option Int) (blockSize_104 : Int) (a_104 : Int) (data_104 : List aB) : Option ((List aB)) :=
    bif decide ((w64 (a_104 + blockSize_104)) < n_104) then ((gL data_104 a_104 (w64 (a_104 + blockSize_104)) n_104 cmp_104).bind fun r4 =>
    fC again2 n_104 cmp_104 (w64 (blockSize_104 * 2)) r4)
    else (fC again2 n_104 cmp_104 (w64 (blockSize_104 * 2)) data_104)

def dR (again2 : Int → (List aB) → Option ((List aB))) (n_4 : Int) (cmp_4 : aB → aB → Option Int) (blockSize_4 : Int) : Nat → Int → Int → (List aB) → Option ((List aB))
  | 0, _, _, _ => none
  | k4 + 1, a_4, b_4, data_4 =>
    bif decide (b_4 ≤ n_4) then ((gL data_4 a_4 (w64 (a_4 + blockSize_4)) b_4 cmp_4).bind fun r3 =>
    (dR again2 n_4 cmp_4 blockSize_4 k4) b_4 (w64 (b_4 + (w64 (2 * blockSize_4)))) r3)
    else (iZ again2 n_4 cmp_4 blockSize_4 a_4 data_4)

def iY (data_102 : List aB) : Option ((List aB)) :=
    some data_102

def dA (n_2 : Int) (cmp_2 : aB → aB → Option Int) : Nat → Int → (List aB) → Option ((List aB))
  | 0, _, _ => none
  | k2 + 1, blockSize_2, data_2 =>
    bif decide (blockSize_2 < n_2) then (dR (dA n_2 cmp_2 k2) n_2 cmp_2 blockSize_2 BIG 0 (w64 (2 * blockSize_2)) data_2)
    else (iY data_2)

def iX (n_100 : Int) (cmp_100 : aB → aB → Option Int) (blockSize_100 : Int) (a_100 : Int) (data_100 : List aB) : Option ((List aB)) :=
    (dI data_100 a_100 n_100 cmp_100).bind fun r2 =>
    dA n_100 cmp_100 BIG blockSize_100 r2

def dQ (n_0 : Int) (cmp_0 : aB → aB → Option Int) (blockSize_0 : Int) : Nat → Int → Int → (List aB) → Option ((List aB))
  | 0, _, _, _ => none
  | k0 + 1, a_0, b_0, data_0 =>
    bif decide (b_0 ≤ n_0) then ((dI data_0 a_0 b_0 cmp_0).bind fun r1 =>
    (dQ n_0 cmp_0 blockSize_0 k0) b_0 (w64 (b_0 + blockSize_0)) r1)
    else (iX n_0 cmp_0 blockSize_0 a_0 data_0)

def gS (data_0 : List aB) (n_1 : Int) (cmp_2 : aB → aB → Option Int) : Option ((List aB)) :=
    dQ n_1 cmp_2 20 BIG 0 20 data_0

def eM (x_0 : List aB) (cmp_1 : aB → aB → Option Int) : Option ((List aB)) :=
    (gS x_0 (x_0.length : Int) cmp_1).bind fun r1 =>
    some r1

def oM (a_0 : aB) (b_1 : aB) : Option Int :=
    some (w64 (a_0.Id - b_1.Id))

def kX (again0 : Int → (List aB) → Option ((List aB))) (k_102 : Int) (s_102 : List aB) : Option ((List aB)) :=
    (chk (decide (0 ≤ k_102) && decide (k_102 ≤ (s_102.length : Int)))).bind fun u9 =>
    (chk (decide (k_102.toNat ≤ s_102.length))).bind fun u10 =>
    (chk (decide (0 ≤ k_102))).bind fun u11 =>
    some (s_102.take k_102.toNat)

def dY (again0 : Int → (List aB) → Option ((List aB))) (s2_2 : Int) : Nat → Int → Int → (List aB) → Option ((List aB))
  | 0, _, _, _ => none
  | k2 + 1, k_2, k2_2, s_2 =>
    bif decide (k2_2 < ((s_2.drop s2_2.toNat).length : Int)) then ((idx (s_2.drop s2_2.toNat) k2_2).bind fun x5 =>
    (idx (s_2.drop s2_2.toNat) (w64 (k2_2 - 1))).bind fun x6 =>
    bif !decide (x5 = x6) then ((idx (s_2.drop s2_2.toNat) k2_2).bind fun x7 =>
    (idx s_2 k_2).bind fun x8 =>
    (dY again0 s2_2 k2) (w64 (k_2 + 1)) (w64 (k2_2 + 1)) (s_2.set k_2.toNat x7))
    else ((dY again0 s2_2 k2) k_2 (w64 (k2_2 + 1)) s_2))
    else (kX again0 k_2 s_2)

def kW (again0 : Int → (List aB) → Option ((List aB))) (k_101 : Int) (s_101 : List aB) : Option ((List aB)) :=
    again0 (w64 (k_101 + 1)) s_101

def kV (s_100 : List aB) : Option ((List aB)) :=
    some s_100

def dH : Nat → Int → (List aB) → Option ((List aB))
  | 0, _, _ => none
  | k0 + 1, k_0, s_0 =>
    bif decide (k_0 < (s_0.length : Int)) then ((idx s_0 k_0).bind fun x2 =>
    (idx s_0 (w64 (k_0 - 1))).bind fun x3 =>
    bif decide (x2 = x3) then ((chk (decide (0 ≤ k_0) && decide (k_0 ≤ (s_0.length : Int)))).bind fun u4 =>
    dY (dH k0) k_0 BIG k_0 1 s_0)
    else (kW (dH k0) k_0 s_0))
    else (kV s_0)

def hT (s_0 : List aB) : Option ((List aB)) :=
    bif decide ((s_0.length : Int) < 2) then (some s_0)
    else (dH BIG 1 s_0)

def uT (o7_100 : List aB) : Option ((List aB) × Bool) :=
    some (o7_100, true)

def gQ (o7_0 : List aB) : Nat → Int → Option ((List aB) × Bool)
  | 0, _ => none
  | k0 + 1, i_0 =>
    bif decide (i_0 < (o7_0.length : Int)) then ((idx o7_0 i_0).bind fun x9 =>
    (idx o7_0 (w64 (i_0 - 1))).bind fun x10 =>
    bif decide (x9.Id = x10.Id) then (some (([] : List aB), false))
    else ((gQ o7_0 k0) (w64 (i_0 + 1))))
    else (uT o7_0)

def nA (all_0 : List aB) : Option ((List aB) × Bool) :=
    (eX all_0).bind fun r2 =>
    (eM r2 (fun y4 y5 => oM y4 y5)).bind fun r6 =>
    (hT r6).bind fun r7 =>
    gQ r7 BIG 1

def rR (l_0 : aM) : Option Int :=
    (oI l_0).bind fun r2 =>
    bif !r2 then (some 40)
    else ((nA l_0.Reports).bind fun r3 =>
    bif !r3.2 then (some 41)
    else (some 0))

def tC (l_0 : aM) : Option ((Option bW) × Int) :=
    (rR l_0).bind fun r2 =>
    bif !decide (r2 = 0) then (some (none, r2))
    else ((nA l_0.Reports).bind fun r3 =>
    some (some (bW.mk (aM.mk l_0.Players l_0.Counts r3.1 l_0.Bans l_0.Frozen)), 0))

def pG (l_0 : aM) (player_1 : Int) (week_2 : Int) : Option ((Option bW) × Int) :=
    (tC l_0).bind fun r2 =>
    vW r2.1 (bif !decide (r2.2 = 0) then (some (none, r2.2))
    else ((eN player_1 0 (w64 (l_0.Players - 1))).bind fun r6 =>
    (bif !r6 then (some true) else ((eN week_2 0 400).bind fun r7 =>
    some (!r7))).bind fun b8 =>
    bif b8 then (some (none, 1))
    else (some (none, 0)))) fun y3 =>
    bif !decide (r2.2 = 0) then (some (none, r2.2))
    else ((eN player_1 0 (w64 (l_0.Players - 1))).bind fun r9 =>
    (bif !r9 then (some true) else ((eN week_2 0 400).bind fun r10 =>
    some (!r10))).bind fun b11 =>
    bif b11 then (some (none, 1))
    else (some (some y3, 0)))

def rC (n_100 : Int) : Option Int :=
    some n_100

def iH (week_0 : Int) (t18_0 : List aX) (t19_0 : Int) (r_0 : aB) : Nat → Int → Int → Option Int
  | 0, _, _ => none
  | k0 + 1, n_0, t20_0 =>
    bif decide (t20_0 < t19_0) then ((idx t18_0 t20_0).bind fun x2 =>
    bif decide (x2.Player = r_0.Player) then ((iH week_0 t18_0 t19_0 r_0 k0) (w64 (n_0 - (max 0 (w64 ((w64 ((min x2.To week_0) - (max x2.From (w64 (r_0.Week + 1))))) + 1))))) (w64 (t20_0 + 1)))
    else ((iH week_0 t18_0 t19_0 r_0 k0) n_0 (w64 (t20_0 + 1))))
    else (rC n_0)

def mV (b_0 : bW) (r_1 : aB) (week_2 : Int) : Option Int :=
    iH week_2 b_0.Ledger.Frozen (b_0.Ledger.Frozen.length : Int) r_1 BIG (w64 (week_2 - r_1.Week)) 0

def qL (a_0 : aX) (c_1 : Int) (c_2 : Int) : Option Bool :=
    (bif decide (a_0.Player = c_1) then ((eN c_2 a_0.From a_0.To).bind fun r2 =>
    some r2) else (some false)).bind fun b3 =>
    some b3

def mC (all_0 : List aX) (player_1 : Int) (week_2 : Int) : Option Bool :=
    (eA all_0 (fun y3 => qL y3 player_1 week_2)).bind fun r4 =>
    some r4

def pH (out_100 : List aB) : Option ((List aB)) :=
    some out_100

def gM (b_0 : bW) (player_0 : Int) (week_0 : Int) (t14_0 : List aB) (t15_0 : Int) : Nat → Int → (List aB) → Option ((List aB))
  | 0, _, _ => none
  | k0 + 1, t16_0, out_0 =>
    bif decide (t16_0 < t15_0) then ((idx t14_0 t16_0).bind fun x2 =>
    (bif decide (x2.Player = player_0) then (some (decide (x2.Week ≤ week_0))) else (some false)).bind fun b4 =>
    (bif b4 then ((mV b_0 x2 week_0).bind fun r5 =>
    some (decide (r5 < 52))) else (some false)).bind fun b6 =>
    (bif b6 then ((mC b_0.Ledger.Bans player_0 x2.Week).bind fun r7 =>
    some (!r7)) else (some false)).bind fun b8 =>
    bif b8 then ((app 40 out_0 ([x2])).bind fun x9 =>
    (gM b_0 player_0 week_0 t14_0 t15_0 k0) (w64 (t16_0 + 1)) x9)
    else ((gM b_0 player_0 week_0 t14_0 t15_0 k0) (w64 (t16_0 + 1)) out_0))
    else (pH out_0)

def lQ (b_0 : bW) (player_1 : Int) (week_2 : Int) : Option ((List aB)) :=
    gM b_0 player_1 week_2 b_0.Ledger.Reports (b_0.Ledger.Reports.length : Int) BIG 0 ([] : List aB)

def tL (zero_100 : Int) : Option Int :=
    some zero_100

def lU (zero_0 : Int) (t6_0 : List Int) (t7_0 : Int) : Nat → Int → Option Int
  | 0, _ => none
  | k0 + 1, t8_0 =>
    bif decide (t8_0 < t7_0) then ((idx t6_0 t8_0).bind fun x1 =>
    bif !decide (x1 = zero_0) then (some x1)
    else ((lU zero_0 t6_0 t7_0 k0) (w64 (t8_0 + 1))))
    else (tL zero_0)

def pO (vals_0 : List Int) : Option Int :=
    lU 0 vals_0 (vals_0.length : Int) BIG 0

def kE (x_0 : aB) (y_1 : aB) : Option Int :=
    (bif !decide (x_0.Must = y_1.Must) then (some x_0.Must) else (some false)).bind fun b3 =>
    bif b3 then (some (-1))
    else (bif !decide (x_0.Must = y_1.Must) then (some 1)
    else ((pO ([w64 (y_1.Points - x_0.Points), w64 (x_0.Id - y_1.Id)])).bind fun r4 =>
    some r4))

def lK (b_100 : bW) (musts_100 : Int) (o10_100 : List aB) : Option ((List aB)) :=
    (sub o10_100 0 (min (o10_100.length : Int) (max musts_100 b_100.Ledger.Counts))).bind fun x8 =>
    some x8

def fU (b_0 : bW) (t14_0 : Int) (o10_0 : List aB) : Nat → Int → Int → Option ((List aB))
  | 0, _, _ => none
  | k0 + 1, musts_0, t15_0 =>
    bif decide (t15_0 < t14_0) then ((idx o10_0 t15_0).bind fun x6 =>
    bif x6.Must then ((fU b_0 t14_0 o10_0 k0) (w64 (musts_0 + 1)) (w64 (t15_0 + 1)))
    else ((fU b_0 t14_0 o10_0 k0) musts_0 (w64 (t15_0 + 1))))
    else (lK b_0 musts_0 o10_0)

def lS (b_0 : bW) (all_1 : List aB) : Option ((List aB)) :=
    (eX all_1).bind fun r1 =>
    (eM r1 (fun y3 y4 => kE y3 y4)).bind fun r5 =>
    fU b_0 (r5.length : Int) r5 BIG 0 0

def vY (n_100 : Int) : Option Int :=
    some n_100

def nQ (t5_0 : List aB) (t6_0 : Int) : Nat → Int → Int → Option Int
  | 0, _, _ => none
  | k0 + 1, n_0, t7_0 =>
    bif decide (t7_0 < t6_0) then ((idx t5_0 t7_0).bind fun x1 =>
    (nQ t5_0 t6_0 k0) (w64 (n_0 + x1.Points)) (w64 (t7_0 + 1)))
    else (vY n_0)

def sK (l_0 : List aB) : Option Int :=
    nQ l_0 (l_0.length : Int) BIG 0 0

def qR (x : Int) : Option Int := zB x

def fF (again0 : Int → (List bB) → Option ((List bB))) (a_101 : Int) (b_101 : Int) (cmp_101 : bB → bB → Option Int) (i_101 : Int) (data_101 : List bB) : Option ((List bB)) :=
    again0 (w64 (i_101 + 1)) data_101

def fG (again0 : Int → (List bB) → Option ((List bB))) (a_102 : Int) (b_102 : Int) (cmp_102 : bB → bB → Option Int) (i_102 : Int) (data_102 : List bB) : Option ((List bB)) :=
    fF again0 a_102 b_102 cmp_102 i_102 data_102

def cW (again0 : Int → (List bB) → Option ((List bB))) (a_2 : Int) (b_2 : Int) (cmp_2 : bB → bB → Option Int) (i_2 : Int) : Nat → Int → (List bB) → Option ((List bB))
  | 0, _, _ => none
  | k2 + 1, j_2, data_2 =>
    (bif decide (a_2 < j_2) then ((idx data_2 j_2).bind fun x1 =>
    (idx data_2 (w64 (j_2 - 1))).bind fun x2 =>
    (cmp_2 x1 x2).bind fun r3 =>
    some (decide (r3 < 0))) else (some false)).bind fun b4 =>
    bif b4 then ((idx data_2 (w64 (j_2 - 1))).bind fun x5 =>
    (idx data_2 j_2).bind fun x6 =>
    (idx data_2 j_2).bind fun x7 =>
    (idx (data_2.set j_2.toNat x5) (w64 (j_2 - 1))).bind fun x8 =>
    (cW again0 a_2 b_2 cmp_2 i_2 k2) (w64 (j_2 - 1)) ((data_2.set j_2.toNat x5).set (w64 (j_2 - 1)).toNat x6))
    else (fG again0 a_2 b_2 cmp_2 i_2 data_2)

def fE (data_100 : List bB) : Option ((List bB)) :=
    some data_100

def cJ (a_0 : Int) (b_0 : Int) (cmp_0 : bB → bB → Option Int) : Nat → Int → (List bB) → Option ((List bB))
  | 0, _, _ => none
  | k0 + 1, i_0, data_0 =>
    bif decide (i_0 < b_0) then (cW (cJ a_0 b_0 cmp_0 k0) a_0 b_0 cmp_0 i_0 BIG i_0 data_0)
    else (fE data_0)

def dK (data_0 : List bB) (a_1 : Int) (b_2 : Int) (cmp_3 : bB → bB → Option Int) : Option ((List bB)) :=
    cJ a_1 b_2 cmp_3 BIG (w64 (a_1 + 1)) data_0

def gE (cmp_0 : bB → bB → Option Int) : Nat → Int → Int → Int → Bool → Bool → (List bB) → Option ((List bB))
  | 0, _, _, _, _, _, _ => none
  | k0 + 1, a_0, b_0, limit_0, wasBalanced_0, wasPartitioned_0, data_0 =>
    bif decide ((w64 (b_0 - a_0)) ≤ 12) then ((dK data_0 a_0 b_0 cmp_0).bind fun r1 =>
    some r1)
    else (none)

def gR (data_0 : List bB) (a_1 : Int) (b_2 : Int) (limit_3 : Int) (cmp_4 : bB → bB → Option Int) : Option ((List bB)) :=
    gE cmp_4 BIG a_1 b_2 limit_3 true true data_0

def hZ (x_0 : List bB) (cmp_1 : bB → bB → Option Int) : Option ((List bB)) :=
    (qR (IntKind.u64.wrap (x_0.length : Int))).bind fun r1 =>
    (gR x_0 0 (x_0.length : Int) r1 cmp_1).bind fun r2 =>
    some r2

def kF (x_0 : bB) (y_1 : bB) : Option Int :=
    (pO ([w64 (y_1.points - x_0.points), w64 (y_1.musts - x_0.musts), w64 (x_0.many - y_1.many), w64 (x_0.player - y_1.player)])).bind fun r3 =>
    some r3

def kD (again0 : Int → (List bB) → Option ((List Int))) (b_101 : bW) (week_101 : Int) (t18_101 : Int) (t19_101 : Int) (lines_101 : List bB) : Option ((List Int)) :=
    again0 (w64 (t19_101 + 1)) lines_101

def nT (again0 : Int → (List bB) → Option ((List Int))) (b_102 : bW) (week_102 : Int) (t18_102 : Int) (t19_102 : Int) (lines_102 : List bB) (x_102 : bB) : Option ((List Int)) :=
    (app 32 lines_102 ([x_102])).bind fun x10 =>
    kD again0 b_102 week_102 t18_102 t19_102 x10

def gU (again0 : Int → (List bB) → Option ((List Int))) (b_2 : bW) (week_2 : Int) (t18_2 : Int) (t19_2 : Int) (t47_2 : List aB) (t48_2 : Int) (lines_2 : List bB) : Nat → Int → bB → Option ((List Int))
  | 0, _, _ => none
  | k2 + 1, t49_2, x_2 =>
    bif decide (t49_2 < t48_2) then ((idx t47_2 t49_2).bind fun x8 =>
    bif x8.Must then ((gU again0 b_2 week_2 t18_2 t19_2 t47_2 t48_2 lines_2 k2) (w64 (t49_2 + 1)) (bB.mk x_2.player x_2.points (w64 (x_2.musts + x8.Points)) x_2.many))
    else ((gU again0 b_2 week_2 t18_2 t19_2 t47_2 t48_2 lines_2 k2) (w64 (t49_2 + 1)) x_2))
    else (nT again0 b_2 week_2 t18_2 t19_2 lines_2 x_2)

def qD (out_104 : List Int) : Option ((List Int)) :=
    some out_104

def iV (t70_4 : Int) (lines_4 : List bB) : Nat → Int → (List Int) → Option ((List Int))
  | 0, _, _ => none
  | k4 + 1, t71_4, out_4 =>
    bif decide (t71_4 < t70_4) then ((idx lines_4 t71_4).bind fun x16 =>
    (app 8 out_4 ([x16.player])).bind fun x18 =>
    (iV t70_4 lines_4 k4) (w64 (t71_4 + 1)) x18)
    else (qD out_4)

def lX (lines_100 : List bB) : Option ((List Int)) :=
    (hZ lines_100 (fun y12 y13 => kF y12 y13)).bind fun r14 =>
    iV (r14.length : Int) r14 BIG 0 ([] : List Int)

def fB (b_0 : bW) (week_0 : Int) (t18_0 : Int) : Nat → Int → (List bB) → Option ((List Int))
  | 0, _, _ => none
  | k0 + 1, t19_0, lines_0 =>
    bif decide (t19_0 < t18_0) then ((lQ b_0 t19_0 week_0).bind fun r2 =>
    (mC b_0.Ledger.Bans t19_0 week_0).bind fun r3 =>
    (bif r3 then (some true) else (some (decide ((r2.length : Int) = 0)))).bind fun b4 =>
    bif b4 then (kD (fB b_0 week_0 t18_0 k0) b_0 week_0 t18_0 t19_0 lines_0)
    else ((lS b_0 r2).bind fun r5 =>
    (sK r5).bind fun r6 =>
    gU (fB b_0 week_0 t18_0 k0) b_0 week_0 t18_0 t19_0 r2 (r2.length : Int) lines_0 BIG 0 (bB.mk t19_0 r6 0 (r2.length : Int))))
    else (lX lines_0)

def gG (b_0 : bW) (week_1 : Int) : Option ((List Int)) :=
    fB b_0 week_1 b_0.Ledger.Players BIG 0 ([] : List bB)

def yN (l_0 : aM) (week_1 : Int) : Option ((List Int) × Int) :=
    (pG l_0 0 week_1).bind fun r2 =>
    vW r2.1 (bif !decide (r2.2 = 0) then (some (([] : List Int), r2.2))
    else (none)) fun y3 =>
    bif !decide (r2.2 = 0) then (some (([] : List Int), r2.2))
    else ((gG y3 week_1).bind fun r6 =>
    some (r6, 0))

def mU : Option Int :=
    some (-1)

def fS (s_0 : List Int) (f_0 : Int → Option Bool) (t7_0 : Int) : Nat → Int → Option Int
  | 0, _ => none
  | k0 + 1, t8_0 =>
    bif decide (t8_0 < t7_0) then ((idx s_0 t8_0).bind fun x1 =>
    (f_0 x1).bind fun r2 =>
    bif r2 then (some t8_0)
    else ((fS s_0 f_0 t7_0 k0) (w64 (t8_0 + 1))))
    else (mU)

def jV (s_0 : List Int) (f_1 : Int → Option Bool) : Option Int :=
    fS s_0 f_1 (s_0.length : Int) BIG 0

def fR (s_0 : List Int) (f_1 : Int → Option Bool) : Option Bool :=
    (jV s_0 f_1).bind fun r1 =>
    some (decide (0 ≤ r1))

def mN (n_0 : Int) : Option Bool :=
    (eN n_0 0 2000).bind fun r1 =>
    some (!r1)

def oW : Option Int :=
    some (-1)

def hG (s_0 : List Int) (v_0 : Int) (t7_0 : Int) : Nat → Int → Option Int
  | 0, _ => none
  | k0 + 1, t8_0 =>
    bif decide (t8_0 < t7_0) then ((idx s_0 t8_0).bind fun x1 =>
    bif decide (v_0 = x1) then (some t8_0)
    else ((hG s_0 v_0 t7_0 k0) (w64 (t8_0 + 1))))
    else (oW)

def mP (s_0 : List Int) (v_1 : Int) : Option Int :=
    hG s_0 v_1 (s_0.length : Int) BIG 0

def lR (b_0 : bW) (player_1 : Int) (week_2 : Int) : Option Int :=
    (gG b_0 week_2).bind fun r1 =>
    (mP r1 player_1).bind fun r2 =>
    some (w64 (r2 + 1))

def pF (book : bW) (pl : Int) (wk : Int) (ms : Bool) (be : Int) (wo : Int) : Option (Bool × Int × Int) :=
    (lR book pl wk).bind fun r1 =>
    (bif ms then (some true) else (some (decide (r1 = 0)))).bind fun b2 =>
    some (b2, min be r1, max wo r1)

def nC (n_1 : Int) : Option ((List Int)) :=
    bif decide (n_1 < 0) then (none)
    else (bif decide (0 < (w64 (n_1 - (w64 (0 - 0))))) then ((chk (decide (0 ≤ 0))).bind fun u2 =>
    (chk (decide (0 < (w64 (n_1 - (w64 (0 - 0))))) && decide ((w64 (n_1 - (w64 (0 - 0)))) * ((8 : Nat) : Int) ≤ 140737488355328))).bind fun u3 =>
    (chk (decide (0 ≤ 0))).bind fun u5 =>
    some ([] : List Int))
    else (some ([] : List Int)))

def rU (o24_102 : List Int) : Option ((List Int)) :=
    some o24_102

def fV (t25_2 : List (List Int)) (t26_2 : Int) : Nat → Int → (List Int) → Option ((List Int))
  | 0, _, _ => none
  | k2 + 1, t27_2, o24_2 =>
    bif decide (t27_2 < t26_2) then ((idx t25_2 t27_2).bind fun x4 =>
    (app 8 o24_2 x4).bind fun x5 =>
    (fV t25_2 t26_2 k2) (w64 (t27_2 + 1)) x5)
    else (rU o24_2)

def oH (slices_100 : List (List Int)) (size_100 : Int) : Option ((List Int)) :=
    (nC size_100).bind fun r2 =>
    fV slices_100 (slices_100.length : Int) BIG 0 r2

def gP (slices_0 : List (List Int)) (t9_0 : List (List Int)) (t10_0 : Int) : Nat → Int → Int → Option ((List Int))
  | 0, _, _ => none
  | k0 + 1, size_0, t11_0 =>
    bif decide (t11_0 < t10_0) then ((idx t9_0 t11_0).bind fun x1 =>
    bif decide ((w64 (size_0 + (x1.length : Int))) < 0) then (none)
    else ((gP slices_0 t9_0 t10_0 k0) (w64 (size_0 + (x1.length : Int))) (w64 (t11_0 + 1))))
    else (oH slices_0 size_0)

def kG (slices_0 : List (List Int)) : Option ((List Int)) :=
    gP slices_0 slices_0 (slices_0.length : Int) BIG 0 0

def oF (againR : bW → Int → Int → Bool → Int → Int → Int → (List Int) → (List Int) → Option (bW × Bool × Int × Int)) (many_100 : Int) (b_100 : bW) (b_100_2 : Int) (b_100_3 : Int) (b_100_4 : Bool) (b_100_5 : Int) (b_100_6 : Int) : Option (bW × Bool × Int × Int) :=
    (sub b_100.Ledger.Reports 0 many_100).bind fun x12 =>
    some ((bW.mk (aM.mk b_100.Ledger.Players b_100.Ledger.Counts x12 b_100.Ledger.Bans b_100.Ledger.Frozen)), b_100_4, b_100_5, b_100_6)

def gO (againR : bW → Int → Int → Bool → Int → Int → Int → (List Int) → (List Int) → Option (bW × Bool × Int × Int)) (week_0 : Int) (prizes_0 : List Int) (free_0 : List Int) (many_0 : Int) (t29_0 : List Int) (t30_0 : Int) (b_0_2 : Int) (b_0_3 : Int) : Nat → Int → bW → Bool → Int → Int → Option (bW × Bool × Int × Int)
  | 0, _, _, _, _, _ => none
  | k0 + 1, t31_0, b_0, b_0_4, b_0_5, b_0_6 =>
    bif decide (t31_0 < t30_0) then ((idx t29_0 t31_0).bind fun x3 =>
    (sub b_0.Ledger.Reports 0 many_0).bind fun x4 =>
    (idx prizes_0 0).bind fun x5 =>
    (app 40 x4 ([(aB.mk (w64 (100 + many_0)) x3 week_0 x5 false)])).bind fun x6 =>
    (sub prizes_0 1 (prizes_0.length : Int)).bind fun x7 =>
    (sub free_0 0 t31_0).bind fun x8 =>
    (sub free_0 (w64 (t31_0 + 1)) (free_0.length : Int)).bind fun x9 =>
    (kG ([x8, x9])).bind fun r10 =>
    (againR (bW.mk (aM.mk b_0.Ledger.Players b_0.Ledger.Counts x6 b_0.Ledger.Bans b_0.Ledger.Frozen)) b_0_2 b_0_3 b_0_4 b_0_5 b_0_6 week_0 x7 r10).bind fun r11 =>
    (gO againR week_0 prizes_0 free_0 many_0 t29_0 t30_0 b_0_2 b_0_3 k0) (w64 (t31_0 + 1)) r11.1 r11.2.1 r11.2.2.1 r11.2.2.2)
    else (oF againR many_0 b_0 b_0_2 b_0_3 b_0_4 b_0_5 b_0_6)

def eD : Nat → bW → Int → Int → Bool → Int → Int → Int → (List Int) → (List Int) → Option (bW × Bool × Int × Int)
  | 0, _, _, _, _, _, _, _, _, _ => none
  | kr + 1, book, pl, wk, ms, be, wo, week_1, prizes_2, free_3 =>
    (bif decide ((prizes_2.length : Int) = 0) then (some true) else (some (decide ((free_3.length : Int) = 0)))).bind fun b1 =>
    bif b1 then ((pF book pl wk ms be wo).bind fun r2 =>
    some (book, r2.1, r2.2.1, r2.2.2))
    else (gO (eD kr) week_1 prizes_2 free_3 (book.Ledger.Reports.length : Int) free_3 (free_3.length : Int) pl wk BIG 0 book ms be wo)

def qC : bW → Int → Int → Bool → Int → Int → Int → (List Int) → (List Int) → Option (bW × Bool × Int × Int) := eD BIG

def qU (prizes_100 : List Int) (player_100 : Int) (week_100 : Int) (best_100 : Int) (worst_100 : Int) (free_100 : List Int) (o19_100 : List aB) (o19_100_2 : Int) (o19_100_3 : Int) (o19_100_4 : List aX) (o19_100_5 : List aX) : Option (Int × Int × Int) :=
    (qC (bW.mk (aM.mk o19_100_2 o19_100_3 o19_100 o19_100_4 o19_100_5)) player_100 week_100 false (w64 (o19_100_2 + 1)) 0 week_100 prizes_100 free_100).bind fun r24 =>
    bif r24.2.1 then (some (0, 0, 3))
    else (some (r24.2.2.1, r24.2.2.2, 0))

def kI (prizes_0 : List Int) (t36_0 : Int) (player_0 : Int) (week_0 : Int) (best_0 : Int) (worst_0 : Int) (o19_0 : List aB) (o19_0_2 : Int) (o19_0_3 : Int) (o19_0_4 : List aX) (o19_0_5 : List aX) : Nat → Int → (List Int) → Option (Int × Int × Int)
  | 0, _, _ => none
  | k0 + 1, t37_0, free_0 =>
    bif decide (t37_0 < t36_0) then ((mC o19_0_4 t37_0 week_0).bind fun r20 =>
    bif !r20 then ((app 8 free_0 ([t37_0])).bind fun x21 =>
    (kI prizes_0 t36_0 player_0 week_0 best_0 worst_0 o19_0 o19_0_2 o19_0_3 o19_0_4 o19_0_5 k0) (w64 (t37_0 + 1)) x21)
    else ((kI prizes_0 t36_0 player_0 week_0 best_0 worst_0 o19_0 o19_0_2 o19_0_3 o19_0_4 o19_0_5 k0) (w64 (t37_0 + 1)) free_0))
    else (qU prizes_0 player_0 week_0 best_0 worst_0 free_0 o19_0 o19_0_2 o19_0_3 o19_0_4 o19_0_5)

def oE (l_0 : aM) (player_1 : Int) (week_2 : Int) (prizes_3 : List Int) : Option (Int × Int × Int) :=
    (pG l_0 player_1 week_2).bind fun r6 =>
    vW r6.1 (bif !decide (r6.2 = 0) then (some (0, 0, r6.2))
    else ((bif decide (4 < (prizes_3.length : Int)) then (some true) else ((fR prizes_3 (fun y11 => mN y11)).bind fun r12 =>
    some r12)).bind fun b13 =>
    bif b13 then (some (0, 0, 42))
    else (none))) fun y7 =>
    bif !decide (r6.2 = 0) then (some (0, 0, r6.2))
    else ((bif decide (4 < (prizes_3.length : Int)) then (some true) else ((fR prizes_3 (fun y16 => mN y16)).bind fun r17 =>
    some r17)).bind fun b18 =>
    bif b18 then (some (0, 0, 42))
    else (kI prizes_3 y7.Ledger.Players player_1 week_2 0 0 y7.Ledger.Reports y7.Ledger.Players y7.Ledger.Counts y7.Ledger.Bans y7.Ledger.Frozen BIG 0 ([] : List Int)))

def oG (b_0 : bW) (player_1 : Int) (week_2 : Int) : Option Int :=
    (lQ b_0 player_1 week_2).bind fun r1 =>
    (lS b_0 r1).bind fun r2 =>
    (sK r2).bind fun r3 =>
    some r3

def nD : Option Int :=
    some (-1)

def hY (s_0 : List aB) (f_0 : aB → Option Bool) (t7_0 : Int) : Nat → Int → Option Int
  | 0, _ => none
  | k0 + 1, t8_0 =>
    bif decide (t8_0 < t7_0) then ((idx s_0 t8_0).bind fun x1 =>
    (f_0 x1).bind fun r2 =>
    bif r2 then (some t8_0)
    else ((hY s_0 f_0 t7_0 k0) (w64 (t8_0 + 1))))
    else (nD)

def lL (s_0 : List aB) (f_1 : aB → Option Bool) : Option Int :=
    hY s_0 f_1 (s_0.length : Int) BIG 0

def mS (i_100 : Int) (s_100 : List aB) : Option ((List aB)) :=
    (chk (decide (0 ≤ i_100) && decide (i_100 ≤ (s_100.length : Int)))).bind fun u7 =>
    (chk (decide (i_100.toNat ≤ s_100.length))).bind fun u8 =>
    (chk (decide (0 ≤ i_100))).bind fun u9 =>
    some (s_100.take i_100.toNat)

def fO (del_0 : aB → Option Bool) : Nat → Int → Int → (List aB) → Option ((List aB))
  | 0, _, _, _ => none
  | k0 + 1, i_0, j_0, s_0 =>
    bif decide (j_0 < (s_0.length : Int)) then ((idx s_0 j_0).bind fun x3 =>
    (del_0 x3).bind fun r5 =>
    bif !r5 then ((idx s_0 i_0).bind fun x6 =>
    (fO del_0 k0) (w64 (i_0 + 1)) (w64 (j_0 + 1)) (s_0.set i_0.toNat x3))
    else ((fO del_0 k0) i_0 (w64 (j_0 + 1)) s_0))
    else (mS i_0 s_0)

def kY (s_0 : List aB) (del_1 : aB → Option Bool) : Option ((List aB)) :=
    (lL s_0 del_1).bind fun r2 =>
    bif decide (r2 = (-1)) then (some s_0)
    else (fO del_1 BIG r2 (w64 (r2 + 1)) s_0)

def pS (r_0 : aB) (c_1 : Int) : Option Bool :=
    some (decide (c_1 < r_0.Week))

def uP (l_0 : aM) (player_1 : Int) (week_2 : Int) : Option (Int × Int) :=
    (pG l_0 player_1 week_2).bind fun r3 =>
    vW r3.1 (bif !decide (r3.2 = 0) then (some (0, r3.2))
    else (bif decide (400 ≤ week_2) then (some (0, 1))
    else (none))) fun y4 =>
    bif !decide (r3.2 = 0) then (some (0, r3.2))
    else (bif decide (400 ≤ week_2) then (some (0, 1))
    else ((oG y4 player_1 week_2).bind fun r7 =>
    (kY y4.Ledger.Reports (fun y8 => pS y8 week_2)).bind fun r9 =>
    (oG (bW.mk (aM.mk y4.Ledger.Players y4.Ledger.Counts r9 y4.Ledger.Bans y4.Ledger.Frozen)) player_1 (w64 (week_2 + 1))).bind fun r11 =>
    some (w64 (r7 - r11), 0)))

def qF : Option Bool :=
    some true

def lA (a_0 : List Int) (b_0 : List Int) : Nat → Int → Option Bool
  | 0, _ => none
  | k0 + 1, i_0 =>
    bif decide (i_0 < (a_0.length : Int)) then ((idx a_0 i_0).bind fun x1 =>
    (idx b_0 i_0).bind fun x2 =>
    bif !decide (x1 = x2) then (some false)
    else ((lA a_0 b_0 k0) (w64 (i_0 + 1))))
    else (qF)

def oN (a_0 : List Int) (b_1 : List Int) : Option Bool :=
    bif !decide ((a_0.length : Int) = (b_1.length : Int)) then (some false)
    else (lA a_0 b_1 BIG 0)

def fI : Option Bool :=
    (oZ).bind fun r1 =>
    (yN r1 40).bind fun r3 =>
    (oE r1 1 40 ([300])).bind fun r4 =>
    (uP r1 0 61).bind fun r5 =>
    (bif decide (r3.2 = 0) then (some (decide (r4.2.2 = 0))) else (some false)).bind fun b6 =>
    (bif b6 then (some (decide (r5.2 = 0))) else (some false)).bind fun b7 =>
    (bif b7 then ((oN r3.1 ([0, 2, 1])).bind fun r8 =>
    some r8) else (some false)).bind fun b9 =>
    (bif b9 then (some (decide (r4.1 = 1))) else (some false)).bind fun b10 =>
    (bif b10 then (some (decide (r4.2.1 = 3))) else (some false)).bind fun b11 =>
    (bif b11 then (some (decide (r5.1 = 200))) else (some false)).bind fun b12 =>
    some b12

def jB (l_0 : aM) : Option aM :=
    (app 40 ([] : List aB) l_0.Reports).bind fun x4 =>
    (app 24 ([] : List aX) l_0.Bans).bind fun x5 =>
    (app 24 ([] : List aX) l_0.Frozen).bind fun x6 =>
    some (aM.mk l_0.Players l_0.Counts x4 x5 x6)

def kL (prizes_100 : List Int) : Option Bool :=
    some (decide ((prizes_100.length : Int) ≤ 4))

def fP (prizes_0 : List Int) : Nat → Int → Option Bool
  | 0, _ => none
  | k0 + 1, i_0 =>
    bif decide (i_0 < (prizes_0.length : Int)) then ((idx prizes_0 i_0).bind fun x1 =>
    (eG x1 0 2000).bind fun r2 =>
    bif !r2 then (some false)
    else ((fP prizes_0 k0) (w64 (i_0 + 1))))
    else (kL prizes_0)

def jR (prizes_0 : List Int) : Option Bool :=
    fP prizes_0 BIG 0

def pA : Option Bool :=
    some false

def iD (l_0 : List aX) (player_0 : Int) (week_0 : Int) : Nat → Int → Option Bool
  | 0, _ => none
  | k0 + 1, i_0 =>
    bif decide (i_0 < (l_0.length : Int)) then ((idx l_0 i_0).bind fun x1 =>
    (bif decide (x1.Player = player_0) then ((idx l_0 i_0).bind fun x2 =>
    (idx l_0 i_0).bind fun x3 =>
    (eG week_0 x2.From x3.To).bind fun r4 =>
    some r4) else (some false)).bind fun b5 =>
    bif b5 then (some true)
    else ((iD l_0 player_0 week_0 k0) (w64 (i_0 + 1))))
    else (pA)

def gJ (l_0 : List aX) (player_1 : Int) (week_2 : Int) : Option Bool :=
    iD l_0 player_1 week_2 BIG 0

def mW (player_100 : Int) (week_100 : Int) (points_100 : Int) (id_100 : Int) (o8_100 : aM) (o_100 : Int) (o_100_2 : Int) (o13_100 : List aB) (o13_100_2 : List aX) (o13_100_3 : List aX) : Option aM :=
    (app 40 o13_100 ([(aB.mk id_100 player_100 week_100 points_100 false)])).bind fun x9 =>
    some (aM.mk o_100 o_100_2 x9 o13_100_2 o13_100_3)

def iE (player_0 : Int) (week_0 : Int) (points_0 : Int) (l_0 : aM) (o8_0 : aM) (o_0 : Int) (o_0_2 : Int) (o13_0 : List aB) (o13_0_2 : List aX) (o13_0_3 : List aX) : Nat → Int → Int → Option aM
  | 0, _, _ => none
  | k0 + 1, id_0, i_0 =>
    bif decide (i_0 < (l_0.Reports.length : Int)) then ((idx l_0.Reports i_0).bind fun x8 =>
    (iE player_0 week_0 points_0 l_0 o8_0 o_0 o_0_2 o13_0 o13_0_2 o13_0_3 k0) (max id_0 (w64 (x8.Id + 1))) (w64 (i_0 + 1)))
    else (mW player_0 week_0 points_0 id_0 o8_0 o_0 o_0_2 o13_0 o13_0_2 o13_0_3)

def lO (l_0 : aM) (player_1 : Int) (week_2 : Int) (points_3 : Int) : Option aM :=
    (jB l_0).bind fun r3 =>
    iE player_1 week_2 points_3 l_0 (aM.mk 0 0 ([] : List aB) ([] : List aX) ([] : List aX)) r3.Players r3.Counts r3.Reports r3.Bans r3.Frozen BIG 0 0

def lB (again0 : (List aB) → Int → Option ((List aB))) (l_101 : List aB) (out_101 : List aB) (i_101 : Int) : Option ((List aB)) :=
    again0 out_101 (w64 (i_101 + 1))

def lC (again0 : (List aB) → Int → Option ((List aB))) (l_102 : List aB) (out_102 : List aB) (i_102 : Int) (atv_102 : Int) (known_102 : Bool) : Option ((List aB)) :=
    bif !known_102 then ((idx l_102 i_102).bind fun x6 =>
    (sub out_102 atv_102 (out_102.length : Int)).bind fun x7 =>
    (app 40 ([x6]) x7).bind fun x8 =>
    (sub out_102 0 atv_102).bind fun x10 =>
    (app 40 ([] : List aB) x10).bind fun x11 =>
    (app 40 x11 x8).bind fun x13 =>
    lB again0 l_102 x13 i_102)
    else (lB again0 l_102 out_102 i_102)

def fZ (again0 : (List aB) → Int → Option ((List aB))) (l_2 : List aB) (out_2 : List aB) (i_2 : Int) : Nat → Int → Bool → Int → Option ((List aB))
  | 0, _, _, _ => none
  | k2 + 1, atv_2, known_2, k_2 =>
    bif decide (k_2 < (out_2.length : Int)) then ((bif known_2 then (some true) else ((idx out_2 k_2).bind fun x1 =>
    (idx l_2 i_2).bind fun x2 =>
    some (decide (x1 = x2)))).bind fun b3 =>
    (idx out_2 k_2).bind fun x4 =>
    (idx l_2 i_2).bind fun x5 =>
    bif decide (x4.Id ≤ x5.Id) then ((fZ again0 l_2 out_2 i_2 k2) (w64 (k_2 + 1)) b3 (w64 (k_2 + 1)))
    else ((fZ again0 l_2 out_2 i_2 k2) atv_2 b3 (w64 (k_2 + 1))))
    else (lC again0 l_2 out_2 i_2 atv_2 known_2)

def qI (out_100 : List aB) : Option ((List aB)) :=
    some out_100

def gT (l_0 : List aB) : Nat → (List aB) → Int → Option ((List aB))
  | 0, _, _ => none
  | k0 + 1, out_0, i_0 =>
    bif decide (i_0 < (l_0.length : Int)) then (fZ (gT l_0 k0) l_0 out_0 i_0 BIG 0 false 0)
    else (qI out_0)

def kM (l_0 : List aB) : Option ((List aB)) :=
    gT l_0 BIG ([] : List aB) 0

def tO (n_100 : Int) : Option Int :=
    some n_100

def kB (week_0 : Int) (l_0 : aM) (r_0 : aB) : Nat → Int → Int → Option Int
  | 0, _, _ => none
  | k0 + 1, n_0, w_0 =>
    bif decide (w_0 ≤ week_0) then ((gJ l_0.Frozen r_0.Player w_0).bind fun r3 =>
    bif !r3 then ((kB week_0 l_0 r_0 k0) (w64 (n_0 + 1)) (w64 (w_0 + 1)))
    else ((kB week_0 l_0 r_0 k0) n_0 (w64 (w_0 + 1))))
    else (tO n_0)

def pP (l_0 : aM) (r_1 : aB) (week_2 : Int) : Option Int :=
    kB week_2 l_0 r_1 BIG 0 (w64 (r_1.Week + 1))

def qG (out_100 : List aB) : Option ((List aB)) :=
    some out_100

def fY (player_0 : Int) (week_0 : Int) (allv_0 : List aB) (l_0 : aM) : Nat → Int → (List aB) → Option ((List aB))
  | 0, _, _ => none
  | k0 + 1, i_0, out_0 =>
    bif decide (i_0 < (allv_0.length : Int)) then ((idx allv_0 i_0).bind fun x4 =>
    (bif decide (x4.Player = player_0) then (some (decide (x4.Week ≤ week_0))) else (some false)).bind fun b6 =>
    (bif b6 then ((pP l_0 x4 week_0).bind fun r7 =>
    some (decide (r7 < 52))) else (some false)).bind fun b8 =>
    (bif b8 then ((gJ l_0.Bans player_0 x4.Week).bind fun r9 =>
    some (!r9)) else (some false)).bind fun b10 =>
    bif b10 then ((app 40 out_0 ([x4])).bind fun x11 =>
    (fY player_0 week_0 allv_0 l_0 k0) (w64 (i_0 + 1)) x11)
    else ((fY player_0 week_0 allv_0 l_0 k0) (w64 (i_0 + 1)) out_0))
    else (qG out_0)

def jC (l_0 : aM) (player_1 : Int) (week_2 : Int) : Option ((List aB)) :=
    (kM l_0.Reports).bind fun r3 =>
    fY player_1 week_2 r3 l_0 BIG 0 ([] : List aB)

def pZ (l_0 : aM) (player_1 : Int) (week_2 : Int) : Option Bool :=
    (gJ l_0.Bans player_1 week_2).bind fun r2 =>
    (bif !r2 then ((jC l_0 player_1 week_2).bind fun r3 =>
    some (decide (0 < (r3.length : Int)))) else (some false)).bind fun b4 =>
    some b4

def oS (again2 : Int → (List aB) → Option ((List aB))) (allv_103 : List aB) (must_103 : Int) (i_103 : Int) (l_103 : aM) (out_103 : List aB) : Option ((List aB)) :=
    again2 (w64 (i_103 + 1)) out_103

def oT (again2 : Int → (List aB) → Option ((List aB))) (allv_104 : List aB) (must_104 : Int) (i_104 : Int) (better_104 : Int) (l_104 : aM) (out_104 : List aB) : Option ((List aB)) :=
    (idx allv_104 i_104).bind fun x13 =>
    (bif x13.Must then (some true) else (some (decide (better_104 < (w64 (l_104.Counts - must_104)))))).bind fun b14 =>
    bif b14 then ((idx allv_104 i_104).bind fun x15 =>
    (app 40 out_104 ([x15])).bind fun x16 =>
    oS again2 allv_104 must_104 i_104 l_104 x16)
    else (oS again2 allv_104 must_104 i_104 l_104 out_104)

def jD (again2 : Int → (List aB) → Option ((List aB))) (allv_4 : List aB) (must_4 : Int) (i_4 : Int) (l_4 : aM) (out_4 : List aB) : Nat → Int → Int → Option ((List aB))
  | 0, _, _ => none
  | k4 + 1, better_4, k_4 =>
    bif decide (k_4 < (allv_4.length : Int)) then ((idx allv_4 k_4).bind fun x5 =>
    (bif !x5.Must then ((idx allv_4 k_4).bind fun x6 =>
    (idx allv_4 i_4).bind fun x7 =>
    (bif decide (x7.Points < x6.Points) then (some true) else ((idx allv_4 k_4).bind fun x8 =>
    (idx allv_4 i_4).bind fun x9 =>
    (bif decide (x8.Points = x9.Points) then (some (decide (k_4 < i_4))) else (some false)).bind fun b10 =>
    some b10)).bind fun b11 =>
    some b11) else (some false)).bind fun b12 =>
    bif b12 then ((jD again2 allv_4 must_4 i_4 l_4 out_4 k4) (w64 (better_4 + 1)) (w64 (k_4 + 1)))
    else ((jD again2 allv_4 must_4 i_4 l_4 out_4 k4) better_4 (w64 (k_4 + 1))))
    else (oT again2 allv_4 must_4 i_4 better_4 l_4 out_4)

def sA (out_102 : List aB) : Option ((List aB)) :=
    some out_102

def gY (allv_2 : List aB) (must_2 : Int) (l_2 : aM) : Nat → Int → (List aB) → Option ((List aB))
  | 0, _, _ => none
  | k2 + 1, i_2, out_2 =>
    bif decide (i_2 < (allv_2.length : Int)) then (jD (gY allv_2 must_2 l_2 k2) allv_2 must_2 i_2 l_2 out_2 BIG 0 0)
    else (sA out_2)

def oR (allv_100 : List aB) (must_100 : Int) (l_100 : aM) : Option ((List aB)) :=
    gY allv_100 must_100 l_100 BIG 0 ([] : List aB)

def gX (allv_0 : List aB) (l_0 : aM) : Nat → Int → Int → Option ((List aB))
  | 0, _, _ => none
  | k0 + 1, must_0, i_0 =>
    bif decide (i_0 < (allv_0.length : Int)) then ((idx allv_0 i_0).bind fun x3 =>
    bif x3.Must then ((gX allv_0 l_0 k0) (w64 (must_0 + 1)) (w64 (i_0 + 1)))
    else ((gX allv_0 l_0 k0) must_0 (w64 (i_0 + 1))))
    else (oR allv_0 must_0 l_0)

def qW (l_0 : aM) (player_1 : Int) (week_2 : Int) : Option ((List aB)) :=
    (jC l_0 player_1 week_2).bind fun r2 =>
    gX r2 l_0 BIG 0 0

def rL (sum_100 : Int) (must_100 : Int) : Option (Int × Int) :=
    some (sum_100, must_100)

def iQ (allv_0 : List aB) : Nat → Int → Int → Int → Option (Int × Int)
  | 0, _, _, _ => none
  | k0 + 1, sum_0, must_0, i_0 =>
    bif decide (i_0 < (allv_0.length : Int)) then ((idx allv_0 i_0).bind fun x3 =>
    (idx allv_0 i_0).bind fun x4 =>
    bif x4.Must then ((idx allv_0 i_0).bind fun x5 =>
    (iQ allv_0 k0) (w64 (sum_0 + x3.Points)) (w64 (must_0 + x5.Points)) (w64 (i_0 + 1)))
    else ((iQ allv_0 k0) (w64 (sum_0 + x3.Points)) must_0 (w64 (i_0 + 1))))
    else (rL sum_0 must_0)

def nS (l_0 : aM) (player_1 : Int) (week_2 : Int) : Option (Int × Int) :=
    (qW l_0 player_1 week_2).bind fun r2 =>
    iQ r2 BIG 0 0 0

def qA (l_0 : aM) (a_1 : Int) (b_2 : Int) (week_3 : Int) : Option Bool :=
    (nS l_0 a_1 week_3).bind fun r2 =>
    (nS l_0 b_2 week_3).bind fun r3 =>
    bif !decide (r2.1 = r3.1) then (some (decide (r3.1 < r2.1)))
    else (bif !decide (r2.2 = r3.2) then (some (decide (r3.2 < r2.2)))
    else ((jC l_0 a_1 week_3).bind fun r4 =>
    (jC l_0 b_2 week_3).bind fun r5 =>
    bif !decide ((r4.length : Int) = (r5.length : Int)) then (some (decide ((r4.length : Int) < (r5.length : Int))))
    else (some (decide (a_1 < b_2)))))

def lG (again0 : (List Int) → Int → Option ((List Int))) (week_101 : Int) (out_101 : List Int) (p_101 : Int) (l_101 : aM) : Option ((List Int)) :=
    again0 out_101 (w64 (p_101 + 1))

def pC (again0 : (List Int) → Int → Option ((List Int))) (week_102 : Int) (out_102 : List Int) (p_102 : Int) (atv_102 : Int) (l_102 : aM) : Option ((List Int)) :=
    (sub out_102 atv_102 (out_102.length : Int)).bind fun x6 =>
    (app 8 ([p_102]) x6).bind fun x7 =>
    (sub out_102 0 atv_102).bind fun x9 =>
    (app 8 ([] : List Int) x9).bind fun x10 =>
    (app 8 x10 x7).bind fun x12 =>
    lG again0 week_102 x12 p_102 l_102

def jK (again0 : (List Int) → Int → Option ((List Int))) (week_2 : Int) (out_2 : List Int) (p_2 : Int) (l_2 : aM) : Nat → Int → Option ((List Int))
  | 0, _ => none
  | k2 + 1, atv_2 =>
    (bif decide (atv_2 < (out_2.length : Int)) then ((idx out_2 atv_2).bind fun x3 =>
    (qA l_2 x3 p_2 week_2).bind fun r4 =>
    some r4) else (some false)).bind fun b5 =>
    bif b5 then ((jK again0 week_2 out_2 p_2 l_2 k2) (w64 (atv_2 + 1)))
    else (pC again0 week_2 out_2 p_2 atv_2 l_2)

def sX (out_100 : List Int) : Option ((List Int)) :=
    some out_100

def iF (week_0 : Int) (l_0 : aM) : Nat → (List Int) → Int → Option ((List Int))
  | 0, _, _ => none
  | k0 + 1, out_0, p_0 =>
    bif decide (p_0 < l_0.Players) then ((pZ l_0 p_0 week_0).bind fun r2 =>
    bif !r2 then (lG (iF week_0 l_0 k0) week_0 out_0 p_0 l_0)
    else (jK (iF week_0 l_0 k0) week_0 out_0 p_0 l_0 BIG 0))
    else (sX out_0)

def oX (l_0 : aM) (week_1 : Int) : Option ((List Int)) :=
    iF week_1 l_0 BIG ([] : List Int) 0

def rZ : Option Int :=
    some 0

def gW (player_0 : Int) (allv_0 : List Int) : Nat → Int → Option Int
  | 0, _ => none
  | k0 + 1, i_0 =>
    bif decide (i_0 < (allv_0.length : Int)) then ((idx allv_0 i_0).bind fun x3 =>
    bif decide (x3 = player_0) then (some (w64 (i_0 + 1)))
    else ((gW player_0 allv_0 k0) (w64 (i_0 + 1))))
    else (rZ)

def uH (l_0 : aM) (player_1 : Int) (week_2 : Int) : Option Int :=
    (oX l_0 week_2).bind fun r2 =>
    gW player_1 r2 BIG 0

def kQ (l_0 : aM) (player_1 : Int) (week_2 : Int) : Option Bool :=
    (iO l_0).bind fun r2 =>
    (bif !r2 then ((jJ l_0).bind fun r3 =>
    some (decide (r3 = 0))) else (some false)).bind fun b4 =>
    (bif b4 then (some (decide (0 ≤ player_1))) else (some false)).bind fun b5 =>
    (bif b5 then (some (decide (player_1 < l_0.Players))) else (some false)).bind fun b6 =>
    (bif b6 then (some (decide (0 ≤ week_2))) else (some false)).bind fun b7 =>
    (bif b7 then (some (decide (week_2 ≤ 250))) else (some false)).bind fun b8 =>
    some b8

def pT (l_0 : aM) (player_1 : Int) (week_2 : Int) : Option (Int × Int) :=
    (pG l_0 player_1 week_2).bind fun r2 =>
    vW r2.1 (bif !decide (r2.2 = 0) then (some (0, r2.2))
    else (none)) fun y3 =>
    bif !decide (r2.2 = 0) then (some (0, r2.2))
    else ((lR y3 player_1 week_2).bind fun r6 =>
    bif decide (r6 = 0) then (some (0, 3))
    else (some (r6, 0)))

def jQ (best_100 : Int) (worst_100 : Int) (x_100 : kH) (o_100 : aM) : Option Bool :=
    (jJ o_100).bind fun r37 =>
    bif !decide (r37 = 0) then ((fI).bind fun r38 =>
    some r38)
    else ((pT o_100 x_100.Player x_100.Week).bind fun r39 =>
    (bif decide (r39.2 = 0) then (some (decide (best_100 ≤ r39.1))) else (some false)).bind fun b40 =>
    (bif b40 then (some (decide (r39.1 ≤ worst_100))) else (some false)).bind fun b41 =>
    (bif b41 then ((fI).bind fun r42 =>
    some r42) else (some false)).bind fun b43 =>
    some b43)

def dT (best_0 : Int) (worst_0 : Int) (l_0 : aM) (x_0 : kH) (c_0 : jI) : Nat → Int → aM → (List Bool) → Option Bool
  | 0, _, _, _ => none
  | k0 + 1, i_0, o_0, o137_0 =>
    bif decide (i_0 < (c_0.Prizes.length : Int)) then ((idx c_0.To i_0).bind fun x27 =>
    (bif decide (x27 < 0) then (some true) else (some (decide (l_0.Players ≤ x27)))).bind fun b28 =>
    (bif b28 then (some true) else ((idx o137_0 x27).bind fun x29 =>
    some x29)).bind fun b30 =>
    (bif b30 then (some true) else ((gJ l_0.Bans x27 x_0.Week).bind fun r31 =>
    some r31)).bind fun b32 =>
    bif b32 then ((fI).bind fun r33 =>
    some r33)
    else ((idx o137_0 x27).bind fun x34 =>
    (idx c_0.Prizes i_0).bind fun x35 =>
    (lO o_0 x27 x_0.Week x35).bind fun r36 =>
    (dT best_0 worst_0 l_0 x_0 c_0 k0) (w64 (i_0 + 1)) r36 (o137_0.set x27.toNat true)))
    else (jQ best_0 worst_0 x_0 o_0)

def lN (l_0 : aM) (x_1 : kH) (c_2 : jI) : Option Bool :=
    (kQ l_0 x_1.Player x_1.Week).bind fun r4 =>
    (bif !r4 then (some true) else (some (decide (4 < l_0.Players)))).bind fun b5 =>
    (bif b5 then (some true) else (some (decide (8 < (l_0.Reports.length : Int))))).bind fun b6 =>
    (bif b6 then (some true) else (some (decide (2 < (c_2.Prizes.length : Int))))).bind fun b7 =>
    (bif b7 then (some true) else (some (!decide ((c_2.To.length : Int) = (c_2.Prizes.length : Int))))).bind fun b8 =>
    (bif b8 then (some true) else ((jR c_2.Prizes).bind fun r9 =>
    some (!r9))).bind fun b10 =>
    bif b10 then ((fI).bind fun r11 =>
    some r11)
    else ((oE l_0 x_1.Player x_1.Week c_2.Prizes).bind fun r12 =>
    (oE l_0 x_1.Player x_1.Week ([] : List Int)).bind fun r13 =>
    (pT l_0 x_1.Player x_1.Week).bind fun r14 =>
    (bif !decide (r13.2.2 = r14.2) then (some true) else ((bif decide (r13.2.2 = 0) then ((bif !decide (r13.1 = r14.1) then (some true) else (some (!decide (r13.2.1 = r14.1)))).bind fun b15 =>
    some b15) else (some false)).bind fun b16 =>
    some b16)).bind fun b17 =>
    (bif b17 then (some true) else ((bif !decide (r12.2.2 = 0) then (some (!decide (r12.2.2 = 3))) else (some false)).bind fun b18 =>
    some b18)).bind fun b19 =>
    bif b19 then (some false)
    else (bif !decide (r12.2.2 = 0) then ((fI).bind fun r20 =>
    some r20)
    else ((bif decide (r12.1 < 1) then (some true) else (some (decide (r12.2.1 < r12.1)))).bind fun b21 =>
    (bif b21 then (some true) else (some (decide (l_0.Players < r12.2.1)))).bind fun b22 =>
    bif b22 then (some false)
    else ((jB l_0).bind fun r23 =>
    (mk 1 l_0.Players false).bind fun x25 =>
    dT r12.1 r12.2.1 l_0 x_1 c_2 BIG 0 r23 x25))))

end Go.Am
