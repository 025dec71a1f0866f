/- Shallow functions, printed by program. -/
import Derived.Test.YtaocljlhapoieaaAmFull
import Derived.Test.YtaocljlhapoieaaAmPrim
import Derived.Test.YtaocljlhapoieaaAmSort
namespace Go.Am

structure aL where
  Player : Int
  From : Int
  To : Int
  deriving DecidableEq, Inhabited
def aH (x : aL) : List D := [.lit (.int .i64 x.Player), .lit (.int .i64 x.From), .lit (.int .i64 x.To)]

def zK (x : List aL) : List D := [.sl 3 (x.map aH)]

structure aC where
  Id : Int
  Player : Int
  Week : Int
  Points : Int
  Must : Bool
  deriving DecidableEq, Inhabited
def aB (x : aC) : List D := [.lit (.int .i64 x.Id), .lit (.int .i64 x.Player), .lit (.int .i64 x.Week), .lit (.int .i64 x.Points), .lit (.bool x.Must)]

def gK (x : List aC) : List D := [.sl 5 (x.map aB)]

structure aM where
  Players : Int
  Counts : Int
  Reports : List aC
  Bans : List aL
  Frozen : List aL
  deriving DecidableEq, Inhabited
def aN (x : aM) : List D := [.lit (.int .i64 x.Players), .lit (.int .i64 x.Counts), .sl 5 (x.Reports.map aB), .sl 3 (x.Bans.map aH), .sl 3 (x.Frozen.map aH)]

structure bX where
  Ledger : aM
  deriving DecidableEq, Inhabited
def cD (x : bX) : List D := [.lit (.int .i64 x.Ledger.Players), .lit (.int .i64 x.Ledger.Counts), .sl 5 (x.Ledger.Reports.map aB), .sl 3 (x.Ledger.Bans.map aH), .sl 3 (x.Ledger.Frozen.map aH)]

def qW (x : List Int) : List D := [.sl 1 (x.map cL)]

structure bA where
  player : Int
  points : Int
  musts : Int
  many : Int
  deriving DecidableEq, Inhabited
def bL (x : bA) : List D := [.lit (.int .i64 x.player), .lit (.int .i64 x.points), .lit (.int .i64 x.musts), .lit (.int .i64 x.many)]

def sL (x : aC) : Prop := okI x.Id ∧ okI x.Player ∧ okI x.Week ∧ okI x.Points ∧ okB x.Must

def rD (x : aL) : Prop := okI x.Player ∧ okI x.From ∧ okI x.To

def zA (x : aM) : Prop := okI x.Players ∧ okI x.Counts ∧ (okL sL) x.Reports ∧ (okL rD) x.Bans ∧ (okL rD) x.Frozen

def eL (n_0 : Int) (low_1 : Int) (high_2 : Int) : Option Bool :=
    (bif decide (low_1 ≤ n_0) then (some (decide (n_0 ≤ high_2))) else (some false)).bind fun b1 =>
    some b1

def mI (l_100 : List aL) : Option Bool :=
    some (decide ((l_100.length : Int) ≤ 8))

def fT (players_0 : Int) (l_0 : List aL) : Nat → Int → Option Bool
  | 0, _ => none
  | k0 + 1, i_0 =>
    bif decide (i_0 < (l_0.length : Int)) then ((idx l_0 i_0).bind fun x1 =>
    (eL x1.Player 0 (w64 (players_0 - 1))).bind fun r2 =>
    (bif !r2 then (some true) else ((idx l_0 i_0).bind fun x3 =>
    some (decide (x3.From < 0)))).bind fun b4 =>
    (bif b4 then (some true) else ((idx l_0 i_0).bind fun x5 =>
    (idx l_0 i_0).bind fun x6 =>
    some (decide (x6.To < x5.From)))).bind fun b7 =>
    (bif b7 then (some true) else ((idx l_0 i_0).bind fun x8 =>
    some (decide (400 < x8.To)))).bind fun b9 =>
    bif b9 then (some false)
    else ((fT players_0 l_0 k0) (w64 (i_0 + 1))))
    else (mI l_0)

def iQ (players_0 : Int) (l_1 : List aL) : Option Bool :=
    fT players_0 l_1 BIG 0

def kG (players_0 : Int) (r_1 : aC) : Option Bool :=
    (eL r_1.Id 0 99).bind fun r2 =>
    (bif r2 then ((eL r_1.Player 0 (w64 (players_0 - 1))).bind fun r3 =>
    some r3) else (some false)).bind fun b4 =>
    (bif b4 then ((eL r_1.Week 0 400).bind fun r5 =>
    some r5) else (some false)).bind fun b6 =>
    (bif b6 then ((eL r_1.Points 0 2000).bind fun r7 =>
    some r7) else (some false)).bind fun b8 =>
    some b8

def mZ (again2 : Int → Option Bool) (i_103 : Int) (l_103 : aM) : Option Bool :=
    again2 (w64 (i_103 + 1))

def nA (again2 : Int → Option Bool) (i_104 : Int) (l_104 : aM) : Option Bool :=
    mZ again2 i_104 l_104

def gB (again2 : Int → Option Bool) (i_4 : Int) (l_4 : aM) : Nat → Int → Option Bool
  | 0, _ => none
  | k4 + 1, k_4 =>
    bif decide (k_4 < i_4) then ((idx l_4.Frozen i_4).bind fun x12 =>
    (idx l_4.Frozen k_4).bind fun x13 =>
    (bif decide (x12.Player = x13.Player) then (some (decide (x12.From ≤ x13.To))) else (some false)).bind fun b16 =>
    (bif b16 then (some (decide (x13.From ≤ x12.To))) else (some false)).bind fun b17 =>
    bif b17 then (some false)
    else ((gB again2 i_4 l_4 k4) (w64 (k_4 + 1))))
    else (nA again2 i_4 l_4)

def mY : Option Bool :=
    some true

def dY (l_2 : aM) : Nat → Int → Option Bool
  | 0, _ => none
  | k2 + 1, i_2 =>
    bif decide (i_2 < (l_2.Frozen.length : Int)) then (gB (dY l_2 k2) i_2 l_2 BIG 0)
    else (mY)

def mX (l_100 : aM) : Option Bool :=
    dY l_100 BIG 0

def fK (l_0 : aM) : Nat → Int → Option Bool
  | 0, _ => none
  | k0 + 1, i_0 =>
    bif decide (i_0 < (l_0.Reports.length : Int)) then ((idx l_0.Reports i_0).bind fun x10 =>
    (kG l_0.Players x10).bind fun r11 =>
    bif !r11 then (some false)
    else ((fK l_0 k0) (w64 (i_0 + 1))))
    else (mX l_0)

def kF (l_0 : aM) : Option Bool :=
    (eL l_0.Players 1 16).bind fun r2 =>
    (bif !r2 then (some true) else ((eL l_0.Counts 1 20).bind fun r3 =>
    some (!r3))).bind fun b4 =>
    (bif b4 then (some true) else (some (decide (40 < (l_0.Reports.length : Int))))).bind fun b5 =>
    (bif b5 then (some true) else ((iQ l_0.Players l_0.Bans).bind fun r6 =>
    some (!r6))).bind fun b7 =>
    (bif b7 then (some true) else ((iQ l_0.Players l_0.Frozen).bind fun r8 =>
    some (!r8))).bind fun b9 =>
    bif b9 then (some false)
    else (fK l_0 BIG 0)

def oJ (again0 : Int → Option Bool) (l_101 : List aC) (i_101 : Int) : Option Bool :=
    again0 (w64 (i_101 + 1))

def oK (again0 : Int → Option Bool) (l_102 : List aC) (i_102 : Int) : Option Bool :=
    oJ again0 l_102 i_102

def gX (again0 : Int → Option Bool) (l_2 : List aC) (i_2 : Int) : Nat → Int → Option Bool
  | 0, _ => none
  | k2 + 1, k_2 =>
    bif decide (k_2 < i_2) then ((idx l_2 i_2).bind fun x1 =>
    (idx l_2 k_2).bind fun x2 =>
    (bif decide (x1.Id = x2.Id) then ((idx l_2 i_2).bind fun x3 =>
    (idx l_2 k_2).bind fun x4 =>
    some (!decide (x3 = x4))) else (some false)).bind fun b5 =>
    bif b5 then (some true)
    else ((gX again0 l_2 i_2 k2) (w64 (k_2 + 1))))
    else (oK again0 l_2 i_2)

def oI : Option Bool :=
    some false

def eW (l_0 : List aC) : Nat → Int → Option Bool
  | 0, _ => none
  | k0 + 1, i_0 =>
    bif decide (i_0 < (l_0.length : Int)) then (gX (eW l_0 k0) l_0 i_0 BIG 0)
    else (oI)

def kJ (l_0 : List aC) : Option Bool :=
    eW l_0 BIG 0

def iG (l_0 : aM) : Option Int :=
    (kF l_0).bind fun r2 =>
    bif !r2 then (some 40)
    else ((kJ l_0.Reports).bind fun r3 =>
    bif r3 then (some 41)
    else (some 0))

def jU (l_100 : aM) : Option Bool :=
    (bif decide (5 < l_100.Players) then (some true) else (some (decide (10 < (l_100.Reports.length : Int))))).bind fun b6 =>
    some b6

def fP (l_0 : aM) : Nat → Int → Option Bool
  | 0, _ => none
  | k0 + 1, i_0 =>
    bif decide (i_0 < (l_0.Reports.length : Int)) then ((idx l_0.Reports i_0).bind fun x5 =>
    bif decide (150 < x5.Week) then (some true)
    else ((fP l_0 k0) (w64 (i_0 + 1))))
    else (jU l_0)

def gE (l_0 : aM) : Option Bool :=
    (bif decide (60 < (l_0.Reports.length : Int)) then (some true) else (some (decide (20 < (l_0.Bans.length : Int))))).bind fun b2 =>
    (bif b2 then (some true) else (some (decide (20 < (l_0.Frozen.length : Int))))).bind fun b3 =>
    bif b3 then (some true)
    else ((iG l_0).bind fun r4 =>
    bif !decide (r4 = 0) then (some false)
    else (fP l_0 BIG 0))

def oT : Option aM :=
    some (aM.mk 3 2 ([(aC.mk 1 0 10 500 false), (aC.mk 2 0 20 300 false), (aC.mk 3 0 30 100 true), (aC.mk 4 1 12 400 false), (aC.mk 5 1 40 200 false), (aC.mk 6 2 15 600 false)]) ([(aL.mk 1 50 55)]) ([(aL.mk 2 20 29)]))

def eO (n_0 : Int) (low_1 : Int) (high_2 : Int) : Option Bool :=
    (bif decide (low_1 ≤ n_0) then (some (decide (n_0 ≤ high_2))) else (some false)).bind fun b1 =>
    some b1

def jQ : Option Int :=
    some (-1)

def eE (s_0 : List aL) (f_0 : aL → Option Bool) (t7_0 : Int) : Nat → Int → Option Int
  | 0, _ => none
  | k0 + 1, t8_0 =>
    bif decide (t8_0 < t7_0) then ((idx s_0 t8_0).bind fun x1 =>
    (f_0 x1).bind fun r2 =>
    bif r2 then (some t8_0)
    else ((eE s_0 f_0 t7_0 k0) (w64 (t8_0 + 1))))
    else (jQ)

def gI (s_0 : List aL) (f_1 : aL → Option Bool) : Option Int :=
    eE s_0 f_1 (s_0.length : Int) BIG 0

def eD (s_0 : List aL) (f_1 : aL → Option Bool) : Option Bool :=
    (gI s_0 f_1).bind fun r1 =>
    some (decide (0 ≤ r1))

def mD (a_0 : aL) (c_1 : aM) : Option Bool :=
    (eO a_0.Player 0 (w64 (c_1.Players - 1))).bind fun r2 =>
    (bif !r2 then (some true) else (some (decide (a_0.To < a_0.From)))).bind fun b3 =>
    (bif b3 then (some true) else ((eO a_0.From 0 400).bind fun r4 =>
    some (!r4))).bind fun b5 =>
    (bif b5 then (some true) else ((eO a_0.To 0 400).bind fun r6 =>
    some (!r6))).bind fun b7 =>
    some b7

def lX (l_0 : aM) (all_1 : List aL) : Option Bool :=
    (bif decide ((all_1.length : Int) ≤ 8) then ((eD all_1 (fun y2 => mD y2 l_0)).bind fun r3 =>
    some (!r3)) else (some false)).bind fun b4 =>
    some b4

def mS (b_0 : aL) (c_1 : aL) : Option Bool :=
    (bif decide (c_1.Player = b_0.Player) then (some (decide (c_1.From ≤ b_0.To))) else (some false)).bind fun b2 =>
    (bif b2 then (some (decide (b_0.From ≤ c_1.To))) else (some false)).bind fun b3 =>
    some b3

def qS : Option Bool :=
    some true

def iK (t69_2 : List aL) (t70_2 : Int) (l_2 : aM) : Nat → Int → Option Bool
  | 0, _ => none
  | k2 + 1, t71_2 =>
    bif decide (t71_2 < t70_2) then ((idx t69_2 t71_2).bind fun x18 =>
    (sub l_2.Frozen 0 t71_2).bind fun x20 =>
    (eD x20 (fun y21 => mS y21 x18)).bind fun r22 =>
    bif r22 then (some false)
    else ((iK t69_2 t70_2 l_2 k2) (w64 (t71_2 + 1))))
    else (qS)

def qR (l_100 : aM) : Option Bool :=
    (lX l_100 l_100.Bans).bind fun r15 =>
    (bif !r15 then (some true) else ((lX l_100 l_100.Frozen).bind fun r16 =>
    some (!r16))).bind fun b17 =>
    bif b17 then (some false)
    else (iK l_100.Frozen (l_100.Frozen.length : Int) l_100 BIG 0)

def iJ (t24_0 : List aC) (t25_0 : Int) (l_0 : aM) : Nat → Int → Option Bool
  | 0, _ => none
  | k0 + 1, t26_0 =>
    bif decide (t26_0 < t25_0) then ((idx t24_0 t26_0).bind fun x6 =>
    (eO x6.Id 0 99).bind fun r8 =>
    (bif !r8 then (some true) else ((eO x6.Player 0 (w64 (l_0.Players - 1))).bind fun r9 =>
    some (!r9))).bind fun b10 =>
    (bif b10 then (some true) else ((eO x6.Week 0 400).bind fun r11 =>
    some (!r11))).bind fun b12 =>
    (bif b12 then (some true) else ((eO x6.Points 0 2000).bind fun r13 =>
    some (!r13))).bind fun b14 =>
    bif b14 then (some false)
    else ((iJ t24_0 t25_0 l_0 k0) (w64 (t26_0 + 1))))
    else (qR l_0)

def oA (l_0 : aM) : Option Bool :=
    (eO l_0.Players 1 16).bind fun r2 =>
    (bif !r2 then (some true) else ((eO l_0.Counts 1 20).bind fun r3 =>
    some (!r3))).bind fun b4 =>
    (bif b4 then (some true) else (some (decide (40 < (l_0.Reports.length : Int))))).bind fun b5 =>
    bif b5 then (some false)
    else (iJ l_0.Reports (l_0.Reports.length : Int) l_0 BIG 0)

def eZ (s_0 : List aC) : Option ((List aC)) :=
    (app 40 ([] : List aC) s_0).bind fun x5 =>
    some x5

def fB (again0 : Int → (List aC) → Option ((List aC))) (a_101 : Int) (b_101 : Int) (cmp_101 : aC → aC → Option Int) (i_101 : Int) (data_101 : List aC) : Option ((List aC)) :=
    again0 (w64 (i_101 + 1)) data_101

def fC (again0 : Int → (List aC) → Option ((List aC))) (a_102 : Int) (b_102 : Int) (cmp_102 : aC → aC → Option Int) (i_102 : Int) (data_102 : List aC) : Option ((List aC)) :=
    fB again0 a_102 b_102 cmp_102 i_102 data_102

def cT (again0 : Int → (List aC) → Option ((List aC))) (a_2 : Int) (b_2 : Int) (cmp_2 : aC → aC → Option Int) (i_2 : Int) : Nat → Int → (List aC) → Option ((List aC))
  | 0, _, _ => none
  | k2 + 1, j_2, data_2 =>
    (bif decide (a_2 < j_2) then ((idx data_2 j_2).bind fun x1 =>
    (idx data_2 (w64 (j_2 - 1))).bind fun x2 =>
    (cmp_2 x1 x2).bind fun r3 =>
    some (decide (r3 < 0))) else (some false)).bind fun b4 =>
    bif b4 then ((idx data_2 (w64 (j_2 - 1))).bind fun x5 =>
    (idx data_2 j_2).bind fun x6 =>
    (idx data_2 j_2).bind fun x7 =>
    (idx (data_2.set j_2.toNat x5) (w64 (j_2 - 1))).bind fun x8 =>
    (cT again0 a_2 b_2 cmp_2 i_2 k2) (w64 (j_2 - 1)) ((data_2.set j_2.toNat x5).set (w64 (j_2 - 1)).toNat x6))
    else (fC again0 a_2 b_2 cmp_2 i_2 data_2)

def fA (data_100 : List aC) : Option ((List aC)) :=
    some data_100

def cF (a_0 : Int) (b_0 : Int) (cmp_0 : aC → aC → Option Int) : Nat → Int → (List aC) → Option ((List aC))
  | 0, _, _ => none
  | k0 + 1, i_0, data_0 =>
    bif decide (i_0 < b_0) then (cT (cF a_0 b_0 cmp_0 k0) a_0 b_0 cmp_0 i_0 BIG i_0 data_0)
    else (fA data_0)

def dJ (data_0 : List aC) (a_1 : Int) (b_2 : Int) (cmp_3 : aC → aC → Option Int) : Option ((List aC)) :=
    cF a_1 b_2 cmp_3 BIG (w64 (a_1 + 1)) data_0

def iA (data_100 : List aC) : Option ((List aC)) :=
    some data_100

def dM (a_0 : Int) (b_0 : Int) (n_0 : Int) : Nat → Int → (List aC) → Option ((List aC))
  | 0, _, _ => none
  | k0 + 1, i_0, data_0 =>
    bif decide (i_0 < n_0) then ((idx data_0 (w64 (b_0 + i_0))).bind fun x1 =>
    (idx data_0 (w64 (a_0 + i_0))).bind fun x2 =>
    (idx data_0 (w64 (a_0 + i_0))).bind fun x3 =>
    (idx (data_0.set (w64 (a_0 + i_0)).toNat x1) (w64 (b_0 + i_0))).bind fun x4 =>
    (dM a_0 b_0 n_0 k0) (w64 (i_0 + 1)) ((data_0.set (w64 (a_0 + i_0)).toNat x1).set (w64 (b_0 + i_0)).toNat x2))
    else (iA data_0)

def dW (data_0 : List aC) (a_1 : Int) (b_2 : Int) (n_3 : Int) (cmp_4 : aC → aC → Option Int) : Option ((List aC)) :=
    dM a_1 b_2 n_3 BIG 0 data_0

def iU (m_100 : Int) (cmp_100 : aC → aC → Option Int) (i_100 : Int) (data_100 : List aC) : Option ((List aC)) :=
    (dW data_100 (w64 (m_100 - i_100)) m_100 i_100 cmp_100).bind fun r3 =>
    some r3

def cZ (m_0 : Int) (cmp_0 : aC → aC → Option Int) : Nat → Int → Int → (List aC) → Option ((List aC))
  | 0, _, _, _ => none
  | k0 + 1, i_0, j_0, data_0 =>
    bif !decide (i_0 = j_0) then (bif decide (j_0 < i_0) then ((dW data_0 (w64 (m_0 - i_0)) m_0 j_0 cmp_0).bind fun r1 =>
    (cZ m_0 cmp_0 k0) (w64 (i_0 - j_0)) j_0 r1)
    else ((dW data_0 (w64 (m_0 - i_0)) (w64 ((w64 (m_0 + j_0)) - i_0)) i_0 cmp_0).bind fun r2 =>
    (cZ m_0 cmp_0 k0) i_0 (w64 (j_0 - i_0)) r2))
    else (iU m_0 cmp_0 i_0 data_0)

def eP (data_0 : List aC) (a_1 : Int) (m_2 : Int) (b_3 : Int) (cmp_4 : aC → aC → Option Int) : Option ((List aC)) :=
    cZ m_2 cmp_4 BIG (w64 (m_2 - a_1)) (w64 (b_3 - m_2)) data_0

def iN (againR : (List aC) → Int → Int → Int → Option ((List aC))) (data_102 : List aC) : Option ((List aC)) :=
    some data_102

def dN (againR : (List aC) → Int → Int → Int → Option ((List aC))) (i_2 : Int) : Nat → Int → (List aC) → Option ((List aC))
  | 0, _, _ => none
  | k2 + 1, k_2, data_2 =>
    bif decide (k_2 < (w64 (i_2 - 1))) then ((idx data_2 (w64 (k_2 + 1))).bind fun x4 =>
    (idx data_2 k_2).bind fun x5 =>
    (idx data_2 k_2).bind fun x6 =>
    (idx (data_2.set k_2.toNat x4) (w64 (k_2 + 1))).bind fun x7 =>
    (dN againR i_2 k2) (w64 (k_2 + 1)) ((data_2.set k_2.toNat x4).set (w64 (k_2 + 1)).toNat x5))
    else (iN againR data_2)

def fY (againR : (List aC) → Int → Int → Int → Option ((List aC))) (a_100 : Int) (i_100 : Int) (data_100 : List aC) : Option ((List aC)) :=
    dN againR i_100 BIG a_100 data_100

def cN (againR : (List aC) → Int → Int → Int → Option ((List aC))) (a_0 : Int) (cmp_0 : aC → aC → Option Int) (data_0 : List aC) : Nat → Int → Int → Option ((List aC))
  | 0, _, _ => none
  | k0 + 1, i_0, j_0 =>
    bif decide (i_0 < j_0) then ((idx data_0 (w64 ((IntKind.u64.wrap (w64 (i_0 + j_0))).fdiv (2 ^ (min (1 : Int).toNat 64))))).bind fun x1 =>
    (idx data_0 a_0).bind fun x2 =>
    (cmp_0 x1 x2).bind fun r3 =>
    bif decide (r3 < 0) then ((cN againR a_0 cmp_0 data_0 k0) (w64 ((w64 ((IntKind.u64.wrap (w64 (i_0 + j_0))).fdiv (2 ^ (min (1 : Int).toNat 64)))) + 1)) j_0)
    else ((cN againR a_0 cmp_0 data_0 k0) i_0 (w64 ((IntKind.u64.wrap (w64 (i_0 + j_0))).fdiv (2 ^ (min (1 : Int).toNat 64))))))
    else (fY againR a_0 i_0 data_0)

def iO (againR : (List aC) → Int → Int → Int → Option ((List aC))) (data_106 : List aC) : Option ((List aC)) :=
    some data_106

def dO (againR : (List aC) → Int → Int → Int → Option ((List aC))) (i_6 : Int) : Nat → Int → (List aC) → Option ((List aC))
  | 0, _, _ => none
  | k6 + 1, k_6, data_6 =>
    bif decide (i_6 < k_6) then ((idx data_6 (w64 (k_6 - 1))).bind fun x11 =>
    (idx data_6 k_6).bind fun x12 =>
    (idx data_6 k_6).bind fun x13 =>
    (idx (data_6.set k_6.toNat x11) (w64 (k_6 - 1))).bind fun x14 =>
    (dO againR i_6 k6) (w64 (k_6 - 1)) ((data_6.set k_6.toNat x11).set (w64 (k_6 - 1)).toNat x12))
    else (iO againR data_6)

def fZ (againR : (List aC) → Int → Int → Int → Option ((List aC))) (m_104 : Int) (i_104 : Int) (data_104 : List aC) : Option ((List aC)) :=
    dO againR i_104 BIG m_104 data_104

def cO (againR : (List aC) → Int → Int → Int → Option ((List aC))) (m_4 : Int) (cmp_4 : aC → aC → Option Int) (data_4 : List aC) : Nat → Int → Int → Option ((List aC))
  | 0, _, _ => none
  | k4 + 1, i_4, j_4 =>
    bif decide (i_4 < j_4) then ((idx data_4 m_4).bind fun x8 =>
    (idx data_4 (w64 ((IntKind.u64.wrap (w64 (i_4 + j_4))).fdiv (2 ^ (min (1 : Int).toNat 64))))).bind fun x9 =>
    (cmp_4 x8 x9).bind fun r10 =>
    bif !(decide (r10 < 0)) then ((cO againR m_4 cmp_4 data_4 k4) (w64 ((w64 ((IntKind.u64.wrap (w64 (i_4 + j_4))).fdiv (2 ^ (min (1 : Int).toNat 64)))) + 1)) j_4)
    else ((cO againR m_4 cmp_4 data_4 k4) i_4 (w64 ((IntKind.u64.wrap (w64 (i_4 + j_4))).fdiv (2 ^ (min (1 : Int).toNat 64))))))
    else (fZ againR m_4 i_4 data_4)

def dC (againR : (List aC) → Int → Int → Int → Option ((List aC))) (a_108 : Int) (m_108 : Int) (b_108 : Int) (cmp_108 : aC → aC → Option Int) (mid_108 : Int) (n_108 : Int) (start_108 : Int) (data_108 : List aC) : Option ((List aC)) :=
    (bif decide (start_108 < m_108) then (some (decide (m_108 < (w64 (n_108 - start_108))))) else (some false)).bind fun b18 =>
    bif b18 then ((eP data_108 start_108 m_108 (w64 (n_108 - start_108)) cmp_108).bind fun r19 =>
    (bif decide (a_108 < start_108) then (some (decide (start_108 < mid_108))) else (some false)).bind fun b20 =>
    bif b20 then ((againR r19 a_108 start_108 mid_108).bind fun r21 =>
    (bif decide (mid_108 < (w64 (n_108 - start_108))) then (some (decide ((w64 (n_108 - start_108)) < b_108))) else (some false)).bind fun b22 =>
    bif b22 then ((againR r21 mid_108 (w64 (n_108 - start_108)) b_108).bind fun r23 =>
    some r23)
    else (some r21))
    else ((bif decide (mid_108 < (w64 (n_108 - start_108))) then (some (decide ((w64 (n_108 - start_108)) < b_108))) else (some false)).bind fun b24 =>
    bif b24 then ((againR r19 mid_108 (w64 (n_108 - start_108)) b_108).bind fun r25 =>
    some r25)
    else (some r19)))
    else ((bif decide (a_108 < start_108) then (some (decide (start_108 < mid_108))) else (some false)).bind fun b26 =>
    bif b26 then ((againR data_108 a_108 start_108 mid_108).bind fun r27 =>
    (bif decide (mid_108 < (w64 (n_108 - start_108))) then (some (decide ((w64 (n_108 - start_108)) < b_108))) else (some false)).bind fun b28 =>
    bif b28 then ((againR r27 mid_108 (w64 (n_108 - start_108)) b_108).bind fun r29 =>
    some r29)
    else (some r27))
    else ((bif decide (mid_108 < (w64 (n_108 - start_108))) then (some (decide ((w64 (n_108 - start_108)) < b_108))) else (some false)).bind fun b30 =>
    bif b30 then ((againR data_108 mid_108 (w64 (n_108 - start_108)) b_108).bind fun r31 =>
    some r31)
    else (some data_108)))

def bZ (againR : (List aC) → Int → Int → Int → Option ((List aC))) (a_8 : Int) (m_8 : Int) (b_8 : Int) (cmp_8 : aC → aC → Option Int) (mid_8 : Int) (n_8 : Int) (p_8 : Int) (data_8 : List aC) : Nat → Int → Int → Option ((List aC))
  | 0, _, _ => none
  | k8 + 1, start_8, r_8 =>
    bif decide (start_8 < r_8) then ((idx data_8 (w64 (p_8 - (w64 ((IntKind.u64.wrap (w64 (start_8 + r_8))).fdiv (2 ^ (min (1 : Int).toNat 64))))))).bind fun x15 =>
    (idx data_8 (w64 ((IntKind.u64.wrap (w64 (start_8 + r_8))).fdiv (2 ^ (min (1 : Int).toNat 64))))).bind fun x16 =>
    (cmp_8 x15 x16).bind fun r17 =>
    bif !(decide (r17 < 0)) then ((bZ againR a_8 m_8 b_8 cmp_8 mid_8 n_8 p_8 data_8 k8) (w64 ((w64 ((IntKind.u64.wrap (w64 (start_8 + r_8))).fdiv (2 ^ (min (1 : Int).toNat 64)))) + 1)) r_8)
    else ((bZ againR a_8 m_8 b_8 cmp_8 mid_8 n_8 p_8 data_8 k8) start_8 (w64 ((IntKind.u64.wrap (w64 (start_8 + r_8))).fdiv (2 ^ (min (1 : Int).toNat 64))))))
    else (dC againR a_8 m_8 b_8 cmp_8 mid_8 n_8 start_8 data_8)

def bD (cmp_4 : aC → aC → Option Int) : Nat → (List aC) → Int → Int → Int → Option ((List aC))
  | 0, _, _, _, _ => none
  | kr + 1, data_0, a_1, m_2, b_3 =>
    bif decide ((w64 (m_2 - a_1)) = 1) then (cN (bD cmp_4 kr) a_1 cmp_4 data_0 BIG m_2 b_3)
    else (bif decide ((w64 (b_3 - m_2)) = 1) then (cO (bD cmp_4 kr) m_2 cmp_4 data_0 BIG a_1 m_2)
    else (bif decide ((w64 ((IntKind.u64.wrap (w64 (a_1 + b_3))).fdiv (2 ^ (min (1 : Int).toNat 64)))) < m_2) then (bZ (bD cmp_4 kr) a_1 m_2 b_3 cmp_4 (w64 ((IntKind.u64.wrap (w64 (a_1 + b_3))).fdiv (2 ^ (min (1 : Int).toNat 64)))) (w64 ((w64 ((IntKind.u64.wrap (w64 (a_1 + b_3))).fdiv (2 ^ (min (1 : Int).toNat 64)))) + m_2)) (w64 ((w64 ((w64 ((IntKind.u64.wrap (w64 (a_1 + b_3))).fdiv (2 ^ (min (1 : Int).toNat 64)))) + m_2)) - 1)) data_0 BIG (w64 ((w64 ((w64 ((IntKind.u64.wrap (w64 (a_1 + b_3))).fdiv (2 ^ (min (1 : Int).toNat 64)))) + m_2)) - b_3)) (w64 ((IntKind.u64.wrap (w64 (a_1 + b_3))).fdiv (2 ^ (min (1 : Int).toNat 64)))))
    else (bZ (bD cmp_4 kr) a_1 m_2 b_3 cmp_4 (w64 ((IntKind.u64.wrap (w64 (a_1 + b_3))).fdiv (2 ^ (min (1 : Int).toNat 64)))) (w64 ((w64 ((IntKind.u64.wrap (w64 (a_1 + b_3))).fdiv (2 ^ (min (1 : Int).toNat 64)))) + m_2)) (w64 ((w64 ((w64 ((IntKind.u64.wrap (w64 (a_1 + b_3))).fdiv (2 ^ (min (1 : Int).toNat 64)))) + m_2)) - 1)) data_0 BIG a_1 m_2)))

def gM (data_0 : List aC) (a_1 : Int) (m_2 : Int) (b_3 : Int) (cmp_4 : aC → aC → Option Int) : Option ((List aC)) := bD cmp_4 BIG data_0 a_1 m_2 b_3

def fE (again2 : Int → (List aC) → Option ((List aC))) (n_103 : Int) (cmp_103 : aC → aC → Option Int) (blockSize_103 : Int) (data_103 : List aC) : Option ((List aC)) :=
    again2 blockSize_103 data_103

def iX (again2 : Int → (List aC) → Option ((List aC))) (n_104 : Int) (cmp_104 : aC → aC → Option Int) (blockSize_104 : Int) (a_104 : Int) (data_104 : List aC) : Option ((List aC)) :=
    bif decide ((w64 (a_104 + blockSize_104)) < n_104) then ((gM data_104 a_104 (w64 (a_104 + blockSize_104)) n_104 cmp_104).bind fun r4 =>
    fE again2 n_104 cmp_104 (w64 (blockSize_104 * 2)) r4)
    else (fE again2 n_104 cmp_104 (w64 (blockSize_104 * 2)) data_104)

def dT (again2 : Int → (List aC) → Option ((List aC))) (n_4 : Int) (cmp_4 : aC → aC → Option Int) (blockSize_4 : Int) : Nat → Int → Int → (List aC) → Option ((List aC))
  | 0, _, _, _ => none
  | k4 + 1, a_4, b_4, data_4 =>
    bif decide (b_4 ≤ n_4) then ((gM data_4 a_4 (w64 (a_4 + blockSize_4)) b_4 cmp_4).bind fun r3 =>
    (dT again2 n_4 cmp_4 blockSize_4 k4) b_4 (w64 (b_4 + (w64 (2 * blockSize_4)))) r3)
    else (iX again2 n_4 cmp_4 blockSize_4 a_4 data_4)

def iW (data_102 : List aC) : Option ((List aC)) :=
    some data_102

def dA (n_2 : Int) (cmp_2 : aC → aC → Option Int) : Nat → Int → (List aC) → Option ((List aC))
  | 0, _, _ => none
  | k2 + 1, blockSize_2, data_2 =>
    bif decide (blockSize_2 < n_2) then (dT (dA n_2 cmp_2 k2) n_2 cmp_2 blockSize_2 BIG 0 (w64 (2 * blockSize_2)) data_2)
    else (iW data_2)

def iV (n_100 : Int) (cmp_100 : aC → aC → Option Int) (blockSize_100 : Int) (a_100 : Int) (data_100 : List aC) : Option ((List aC)) :=
    (dJ data_100 a_100 n_100 cmp_100).bind fun r2 =>
    dA n_100 cmp_100 BIG blockSize_100 r2

def dS (n_0 : Int) (cmp_0 : aC → aC → Option Int) (blockSize_0 : Int) : Nat → Int → Int → (List aC) → Option ((List aC))
  | 0, _, _, _ => none
  | k0 + 1, a_0, b_0, data_0 =>
    bif decide (b_0 ≤ n_0) then ((dJ data_0 a_0 b_0 cmp_0).bind fun r1 =>
    (dS n_0 cmp_0 blockSize_0 k0) b_0 (w64 (b_0 + blockSize_0)) r1)
    else (iV n_0 cmp_0 blockSize_0 a_0 data_0)

def gT (data_0 : List aC) (n_1 : Int) (cmp_2 : aC → aC → Option Int) : Option ((List aC)) :=
    dS n_1 cmp_2 20 BIG 0 20 data_0

def eJ (x_0 : List aC) (cmp_1 : aC → aC → Option Int) : Option ((List aC)) :=
    (gT x_0 (x_0.length : Int) cmp_1).bind fun r1 =>
    some r1

def oG (a_0 : aC) (b_1 : aC) : Option Int :=
    some (w64 (a_0.Id - b_1.Id))

def kO (again0 : Int → (List aC) → Option ((List aC))) (k_102 : Int) (s_102 : List aC) : Option ((List aC)) :=
    (chk (decide (0 ≤ k_102) && decide (k_102 ≤ (s_102.length : Int)))).bind fun u9 =>
    (chk (decide (k_102.toNat ≤ s_102.length))).bind fun u10 =>
    (chk (decide (0 ≤ k_102))).bind fun u11 =>
    some (s_102.take k_102.toNat)

def eB (again0 : Int → (List aC) → Option ((List aC))) (s2_2 : Int) : Nat → Int → Int → (List aC) → Option ((List aC))
  | 0, _, _, _ => none
  | k2 + 1, k_2, k2_2, s_2 =>
    bif decide (k2_2 < ((s_2.drop s2_2.toNat).length : Int)) then ((idx (s_2.drop s2_2.toNat) k2_2).bind fun x5 =>
    (idx (s_2.drop s2_2.toNat) (w64 (k2_2 - 1))).bind fun x6 =>
    bif !decide (x5 = x6) then ((idx (s_2.drop s2_2.toNat) k2_2).bind fun x7 =>
    (idx s_2 k_2).bind fun x8 =>
    (eB again0 s2_2 k2) (w64 (k_2 + 1)) (w64 (k2_2 + 1)) (s_2.set k_2.toNat x7))
    else ((eB again0 s2_2 k2) k_2 (w64 (k2_2 + 1)) s_2))
    else (kO again0 k_2 s_2)

def kN (again0 : Int → (List aC) → Option ((List aC))) (k_101 : Int) (s_101 : List aC) : Option ((List aC)) :=
    again0 (w64 (k_101 + 1)) s_101

def kM (s_100 : List aC) : Option ((List aC)) :=
    some s_100

def dH : Nat → Int → (List aC) → Option ((List aC))
  | 0, _, _ => none
  | k0 + 1, k_0, s_0 =>
    bif decide (k_0 < (s_0.length : Int)) then ((idx s_0 k_0).bind fun x2 =>
    (idx s_0 (w64 (k_0 - 1))).bind fun x3 =>
    bif decide (x2 = x3) then ((chk (decide (0 ≤ k_0) && decide (k_0 ≤ (s_0.length : Int)))).bind fun u4 =>
    eB (dH k0) k_0 BIG k_0 1 s_0)
    else (kN (dH k0) k_0 s_0))
    else (kM s_0)

def hT (s_0 : List aC) : Option ((List aC)) :=
    bif decide ((s_0.length : Int) < 2) then (some s_0)
    else (dH BIG 1 s_0)

def uN (o7_100 : List aC) : Option ((List aC) × Bool) :=
    some (o7_100, true)

def gR (o7_0 : List aC) : Nat → Int → Option ((List aC) × Bool)
  | 0, _ => none
  | k0 + 1, i_0 =>
    bif decide (i_0 < (o7_0.length : Int)) then ((idx o7_0 i_0).bind fun x9 =>
    (idx o7_0 (w64 (i_0 - 1))).bind fun x10 =>
    bif decide (x9.Id = x10.Id) then (some (([] : List aC), false))
    else ((gR o7_0 k0) (w64 (i_0 + 1))))
    else (uN o7_0)

def lU (all_0 : List aC) : Option ((List aC) × Bool) :=
    (eZ all_0).bind fun r2 =>
    (eJ r2 (fun y4 y5 => oG y4 y5)).bind fun r6 =>
    (hT r6).bind fun r7 =>
    gR r7 BIG 1

def mQ (l_0 : aM) : Option Int :=
    (oA l_0).bind fun r2 =>
    bif !r2 then (some 40)
    else ((lU l_0.Reports).bind fun r3 =>
    bif !r3.2 then (some 41)
    else (some 0))

def yB (l_0 : aM) : Option ((Option bX) × Int) :=
    (mQ l_0).bind fun r2 =>
    bif !decide (r2 = 0) then (some (none, r2))
    else ((lU l_0.Reports).bind fun r3 =>
    some (some (bX.mk (aM.mk l_0.Players l_0.Counts r3.1 l_0.Bans l_0.Frozen)), 0))

def uL (l_0 : aM) (player_1 : Int) (week_2 : Int) : Option ((Option bX) × Int) :=
    (yB l_0).bind fun r2 =>
    aBb r2.1 (bif !decide (r2.2 = 0) then (some (none, r2.2))
    else ((eO player_1 0 (w64 (l_0.Players - 1))).bind fun r6 =>
    (bif !r6 then (some true) else ((eO week_2 0 400).bind fun r7 =>
    some (!r7))).bind fun b8 =>
    bif b8 then (some (none, 1))
    else (some (none, 0)))) fun y3 =>
    bif !decide (r2.2 = 0) then (some (none, r2.2))
    else ((eO player_1 0 (w64 (l_0.Players - 1))).bind fun r9 =>
    (bif !r9 then (some true) else ((eO week_2 0 400).bind fun r10 =>
    some (!r10))).bind fun b11 =>
    bif b11 then (some (none, 1))
    else (some (some y3, 0)))

def qQ (n_100 : Int) : Option Int :=
    some n_100

def iI (week_0 : Int) (t18_0 : List aL) (t19_0 : Int) (r_0 : aC) : Nat → Int → Int → Option Int
  | 0, _, _ => none
  | k0 + 1, n_0, t20_0 =>
    bif decide (t20_0 < t19_0) then ((idx t18_0 t20_0).bind fun x2 =>
    bif decide (x2.Player = r_0.Player) then ((iI week_0 t18_0 t19_0 r_0 k0) (w64 (n_0 - (max 0 (w64 ((w64 ((min x2.To week_0) - (max x2.From (w64 (r_0.Week + 1))))) + 1))))) (w64 (t20_0 + 1)))
    else ((iI week_0 t18_0 t19_0 r_0 k0) n_0 (w64 (t20_0 + 1))))
    else (qQ n_0)

def mJ (b_0 : bX) (r_1 : aC) (week_2 : Int) : Option Int :=
    iI week_2 b_0.Ledger.Frozen (b_0.Ledger.Frozen.length : Int) r_1 BIG (w64 (week_2 - r_1.Week)) 0

def pZ (a_0 : aL) (c_1 : Int) (c_2 : Int) : Option Bool :=
    (bif decide (a_0.Player = c_1) then ((eO c_2 a_0.From a_0.To).bind fun r2 =>
    some r2) else (some false)).bind fun b3 =>
    some b3

def mR (all_0 : List aL) (player_1 : Int) (week_2 : Int) : Option Bool :=
    (eD all_0 (fun y3 => pZ y3 player_1 week_2)).bind fun r4 =>
    some r4

def oY (out_100 : List aC) : Option ((List aC)) :=
    some out_100

def gO (b_0 : bX) (player_0 : Int) (week_0 : Int) (t14_0 : List aC) (t15_0 : Int) : Nat → Int → (List aC) → Option ((List aC))
  | 0, _, _ => none
  | k0 + 1, t16_0, out_0 =>
    bif decide (t16_0 < t15_0) then ((idx t14_0 t16_0).bind fun x2 =>
    (bif decide (x2.Player = player_0) then (some (decide (x2.Week ≤ week_0))) else (some false)).bind fun b4 =>
    (bif b4 then ((mJ b_0 x2 week_0).bind fun r5 =>
    some (decide (r5 < 52))) else (some false)).bind fun b6 =>
    (bif b6 then ((mR b_0.Ledger.Bans player_0 x2.Week).bind fun r7 =>
    some (!r7)) else (some false)).bind fun b8 =>
    bif b8 then ((app 40 out_0 ([x2])).bind fun x9 =>
    (gO b_0 player_0 week_0 t14_0 t15_0 k0) (w64 (t16_0 + 1)) x9)
    else ((gO b_0 player_0 week_0 t14_0 t15_0 k0) (w64 (t16_0 + 1)) out_0))
    else (oY out_0)

def lG (b_0 : bX) (player_1 : Int) (week_2 : Int) : Option ((List aC)) :=
    gO b_0 player_1 week_2 b_0.Ledger.Reports (b_0.Ledger.Reports.length : Int) BIG 0 ([] : List aC)

def tE (zero_100 : Int) : Option Int :=
    some zero_100

def lJ (zero_0 : Int) (t6_0 : List Int) (t7_0 : Int) : Nat → Int → Option Int
  | 0, _ => none
  | k0 + 1, t8_0 =>
    bif decide (t8_0 < t7_0) then ((idx t6_0 t8_0).bind fun x1 =>
    bif !decide (x1 = zero_0) then (some x1)
    else ((lJ zero_0 t6_0 t7_0 k0) (w64 (t8_0 + 1))))
    else (tE zero_0)

def pE (vals_0 : List Int) : Option Int :=
    lJ 0 vals_0 (vals_0.length : Int) BIG 0

def jX (x_0 : aC) (y_1 : aC) : Option Int :=
    (bif !decide (x_0.Must = y_1.Must) then (some x_0.Must) else (some false)).bind fun b3 =>
    bif b3 then (some (-1))
    else (bif !decide (x_0.Must = y_1.Must) then (some 1)
    else ((pE ([w64 (y_1.Points - x_0.Points), w64 (x_0.Id - y_1.Id)])).bind fun r4 =>
    some r4))

def kY (b_100 : bX) (musts_100 : Int) (o10_100 : List aC) : Option ((List aC)) :=
    (sub o10_100 0 (min (o10_100.length : Int) (max musts_100 b_100.Ledger.Counts))).bind fun x8 =>
    some x8

def fW (b_0 : bX) (t14_0 : Int) (o10_0 : List aC) : Nat → Int → Int → Option ((List aC))
  | 0, _, _ => none
  | k0 + 1, musts_0, t15_0 =>
    bif decide (t15_0 < t14_0) then ((idx o10_0 t15_0).bind fun x6 =>
    bif x6.Must then ((fW b_0 t14_0 o10_0 k0) (w64 (musts_0 + 1)) (w64 (t15_0 + 1)))
    else ((fW b_0 t14_0 o10_0 k0) musts_0 (w64 (t15_0 + 1))))
    else (kY b_0 musts_0 o10_0)

def lH (b_0 : bX) (all_1 : List aC) : Option ((List aC)) :=
    (eZ all_1).bind fun r1 =>
    (eJ r1 (fun y3 y4 => jX y3 y4)).bind fun r5 =>
    fW b_0 (r5.length : Int) r5 BIG 0 0

def vO (n_100 : Int) : Option Int :=
    some n_100

def nH (t5_0 : List aC) (t6_0 : Int) : Nat → Int → Int → Option Int
  | 0, _, _ => none
  | k0 + 1, n_0, t7_0 =>
    bif decide (t7_0 < t6_0) then ((idx t5_0 t7_0).bind fun x1 =>
    (nH t5_0 t6_0 k0) (w64 (n_0 + x1.Points)) (w64 (t7_0 + 1)))
    else (vO n_0)

def sE (l_0 : List aC) : Option Int :=
    nH l_0 (l_0.length : Int) BIG 0 0

def qF (x : Int) : Option Int := yN x

def fI (again0 : Int → (List bA) → Option ((List bA))) (a_101 : Int) (b_101 : Int) (cmp_101 : bA → bA → Option Int) (i_101 : Int) (data_101 : List bA) : Option ((List bA)) :=
    again0 (w64 (i_101 + 1)) data_101

def fJ (again0 : Int → (List bA) → Option ((List bA))) (a_102 : Int) (b_102 : Int) (cmp_102 : bA → bA → Option Int) (i_102 : Int) (data_102 : List bA) : Option ((List bA)) :=
    fI again0 a_102 b_102 cmp_102 i_102 data_102

def cW (again0 : Int → (List bA) → Option ((List bA))) (a_2 : Int) (b_2 : Int) (cmp_2 : bA → bA → Option Int) (i_2 : Int) : Nat → Int → (List bA) → Option ((List bA))
  | 0, _, _ => none
  | k2 + 1, j_2, data_2 =>
    (bif decide (a_2 < j_2) then ((idx data_2 j_2).bind fun x1 =>
    (idx data_2 (w64 (j_2 - 1))).bind fun x2 =>
    (cmp_2 x1 x2).bind fun r3 =>
    some (decide (r3 < 0))) else (some false)).bind fun b4 =>
    bif b4 then ((idx data_2 (w64 (j_2 - 1))).bind fun x5 =>
    (idx data_2 j_2).bind fun x6 =>
    (idx data_2 j_2).bind fun x7 =>
    (idx (data_2.set j_2.toNat x5) (w64 (j_2 - 1))).bind fun x8 =>
    (cW again0 a_2 b_2 cmp_2 i_2 k2) (w64 (j_2 - 1)) ((data_2.set j_2.toNat x5).set (w64 (j_2 - 1)).toNat x6))
    else (fJ again0 a_2 b_2 cmp_2 i_2 data_2)

def fH (data_100 : List bA) : Option ((List bA)) :=
    some data_100

def cG (a_0 : Int) (b_0 : Int) (cmp_0 : bA → bA → Option Int) : Nat → Int → (List bA) → Option ((List bA))
  | 0, _, _ => none
  | k0 + 1, i_0, data_0 =>
    bif decide (i_0 < b_0) then (cW (cG a_0 b_0 cmp_0 k0) a_0 b_0 cmp_0 i_0 BIG i_0 data_0)
    else (fH data_0)

def dL (data_0 : List bA) (a_1 : Int) (b_2 : Int) (cmp_3 : bA → bA → Option Int) : Option ((List bA)) :=
    cG a_1 b_2 cmp_3 BIG (w64 (a_1 + 1)) data_0

def gD (cmp_0 : bA → bA → Option Int) : Nat → Int → Int → Int → Bool → Bool → (List bA) → Option ((List bA))
  | 0, _, _, _, _, _, _ => none
  | k0 + 1, a_0, b_0, limit_0, wasBalanced_0, wasPartitioned_0, data_0 =>
    bif decide ((w64 (b_0 - a_0)) ≤ 12) then ((dL data_0 a_0 b_0 cmp_0).bind fun r1 =>
    some r1)
    else (none)

def gS (data_0 : List bA) (a_1 : Int) (b_2 : Int) (limit_3 : Int) (cmp_4 : bA → bA → Option Int) : Option ((List bA)) :=
    gD cmp_4 BIG a_1 b_2 limit_3 true true data_0

def hZ (x_0 : List bA) (cmp_1 : bA → bA → Option Int) : Option ((List bA)) :=
    (qF (IntKind.u64.wrap (x_0.length : Int))).bind fun r1 =>
    (gS x_0 0 (x_0.length : Int) r1 cmp_1).bind fun r2 =>
    some r2

def jY (x_0 : bA) (y_1 : bA) : Option Int :=
    (pE ([w64 (y_1.points - x_0.points), w64 (y_1.musts - x_0.musts), w64 (x_0.many - y_1.many), w64 (x_0.player - y_1.player)])).bind fun r3 =>
    some r3

def jW (again0 : Int → (List bA) → Option ((List Int))) (b_101 : bX) (week_101 : Int) (t18_101 : Int) (t19_101 : Int) (lines_101 : List bA) : Option ((List Int)) :=
    again0 (w64 (t19_101 + 1)) lines_101

def nK (again0 : Int → (List bA) → Option ((List Int))) (b_102 : bX) (week_102 : Int) (t18_102 : Int) (t19_102 : Int) (lines_102 : List bA) (x_102 : bA) : Option ((List Int)) :=
    (app 32 lines_102 ([x_102])).bind fun x10 =>
    jW again0 b_102 week_102 t18_102 t19_102 x10

def gV (again0 : Int → (List bA) → Option ((List Int))) (b_2 : bX) (week_2 : Int) (t18_2 : Int) (t19_2 : Int) (t47_2 : List aC) (t48_2 : Int) (lines_2 : List bA) : Nat → Int → bA → Option ((List Int))
  | 0, _, _ => none
  | k2 + 1, t49_2, x_2 =>
    bif decide (t49_2 < t48_2) then ((idx t47_2 t49_2).bind fun x8 =>
    bif x8.Must then ((gV again0 b_2 week_2 t18_2 t19_2 t47_2 t48_2 lines_2 k2) (w64 (t49_2 + 1)) (bA.mk x_2.player x_2.points (w64 (x_2.musts + x8.Points)) x_2.many))
    else ((gV again0 b_2 week_2 t18_2 t19_2 t47_2 t48_2 lines_2 k2) (w64 (t49_2 + 1)) x_2))
    else (nK again0 b_2 week_2 t18_2 t19_2 lines_2 x_2)

def pR (out_104 : List Int) : Option ((List Int)) :=
    some out_104

def iT (t70_4 : Int) (lines_4 : List bA) : Nat → Int → (List Int) → Option ((List Int))
  | 0, _, _ => none
  | k4 + 1, t71_4, out_4 =>
    bif decide (t71_4 < t70_4) then ((idx lines_4 t71_4).bind fun x16 =>
    (app 8 out_4 ([x16.player])).bind fun x18 =>
    (iT t70_4 lines_4 k4) (w64 (t71_4 + 1)) x18)
    else (pR out_4)

def lM (lines_100 : List bA) : Option ((List Int)) :=
    (hZ lines_100 (fun y12 y13 => jY y12 y13)).bind fun r14 =>
    iT (r14.length : Int) r14 BIG 0 ([] : List Int)

def fD (b_0 : bX) (week_0 : Int) (t18_0 : Int) : Nat → Int → (List bA) → Option ((List Int))
  | 0, _, _ => none
  | k0 + 1, t19_0, lines_0 =>
    bif decide (t19_0 < t18_0) then ((lG b_0 t19_0 week_0).bind fun r2 =>
    (mR b_0.Ledger.Bans t19_0 week_0).bind fun r3 =>
    (bif r3 then (some true) else (some (decide ((r2.length : Int) = 0)))).bind fun b4 =>
    bif b4 then (jW (fD b_0 week_0 t18_0 k0) b_0 week_0 t18_0 t19_0 lines_0)
    else ((lH b_0 r2).bind fun r5 =>
    (sE r5).bind fun r6 =>
    gV (fD b_0 week_0 t18_0 k0) b_0 week_0 t18_0 t19_0 r2 (r2.length : Int) lines_0 BIG 0 (bA.mk t19_0 r6 0 (r2.length : Int))))
    else (lM lines_0)

def gG (b_0 : bX) (week_1 : Int) : Option ((List Int)) :=
    fD b_0 week_1 b_0.Ledger.Players BIG 0 ([] : List bA)

def xZ (l_0 : aM) (week_1 : Int) : Option ((List Int) × Int) :=
    (uL l_0 0 week_1).bind fun r2 =>
    aBb r2.1 (bif !decide (r2.2 = 0) then (some (([] : List Int), r2.2))
    else (none)) fun y3 =>
    bif !decide (r2.2 = 0) then (some (([] : List Int), r2.2))
    else ((gG y3 week_1).bind fun r6 =>
    some (r6, 0))

def pO : Option Int :=
    some (-1)

def kE (s_0 : List Int) (f_0 : Int → Option Bool) (t7_0 : Int) : Nat → Int → Option Int
  | 0, _ => none
  | k0 + 1, t8_0 =>
    bif decide (t8_0 < t7_0) then ((idx s_0 t8_0).bind fun x1 =>
    (f_0 x1).bind fun r2 =>
    bif r2 then (some t8_0)
    else ((kE s_0 f_0 t7_0 k0) (w64 (t8_0 + 1))))
    else (pO)

def nW (s_0 : List Int) (f_1 : Int → Option Bool) : Option Int :=
    kE s_0 f_1 (s_0.length : Int) BIG 0

def kD (s_0 : List Int) (f_1 : Int → Option Bool) : Option Bool :=
    (nW s_0 f_1).bind fun r1 =>
    some (decide (0 ≤ r1))

def rI (n_0 : Int) : Option Bool :=
    (eO n_0 0 2000).bind fun r1 =>
    some (!r1)

def rX : Option Int :=
    some (-1)

def mG (s_0 : List Int) (v_0 : Int) (t7_0 : Int) : Nat → Int → Option Int
  | 0, _ => none
  | k0 + 1, t8_0 =>
    bif decide (t8_0 < t7_0) then ((idx s_0 t8_0).bind fun x1 =>
    bif decide (v_0 = x1) then (some t8_0)
    else ((mG s_0 v_0 t7_0 k0) (w64 (t8_0 + 1))))
    else (rX)

def qT (s_0 : List Int) (v_1 : Int) : Option Int :=
    mG s_0 v_1 (s_0.length : Int) BIG 0

def rK (b_0 : bX) (player_1 : Int) (week_2 : Int) : Option Int :=
    (gG b_0 week_2).bind fun r1 =>
    (qT r1 player_1).bind fun r2 =>
    some (w64 (r2 + 1))

def uJ (book : bX) (pl : Int) (wk : Int) (ms : Bool) (be : Int) (wo : Int) : Option (Bool × Int × Int) :=
    (rK book pl wk).bind fun r1 =>
    (bif ms then (some true) else (some (decide (r1 = 0)))).bind fun b2 =>
    some (b2, min be r1, max wo r1)

def rQ (n_1 : Int) : Option ((List Int)) :=
    bif decide (n_1 < 0) then (none)
    else (bif decide (0 < (w64 (n_1 - (w64 (0 - 0))))) then ((chk (decide (0 ≤ 0))).bind fun u2 =>
    (chk (decide (0 < (w64 (n_1 - (w64 (0 - 0))))) && decide ((w64 (n_1 - (w64 (0 - 0)))) * ((8 : Nat) : Int) ≤ 140737488355328))).bind fun u3 =>
    (chk (decide (0 ≤ 0))).bind fun u5 =>
    some ([] : List Int))
    else (some ([] : List Int)))

def rO (o24_102 : List Int) : Option ((List Int)) :=
    some o24_102

def lT (t25_2 : List (List Int)) (t26_2 : Int) : Nat → Int → (List Int) → Option ((List Int))
  | 0, _, _ => none
  | k2 + 1, t27_2, o24_2 =>
    bif decide (t27_2 < t26_2) then ((idx t25_2 t27_2).bind fun x4 =>
    (app 8 o24_2 x4).bind fun x5 =>
    (lT t25_2 t26_2 k2) (w64 (t27_2 + 1)) x5)
    else (rO o24_2)

def rN (slices_100 : List (List Int)) (size_100 : Int) : Option ((List Int)) :=
    (rQ size_100).bind fun r2 =>
    lT slices_100 (slices_100.length : Int) BIG 0 r2

def lS (slices_0 : List (List Int)) (t9_0 : List (List Int)) (t10_0 : Int) : Nat → Int → Int → Option ((List Int))
  | 0, _, _ => none
  | k0 + 1, size_0, t11_0 =>
    bif decide (t11_0 < t10_0) then ((idx t9_0 t11_0).bind fun x1 =>
    bif decide ((w64 (size_0 + (x1.length : Int))) < 0) then (none)
    else ((lS slices_0 t9_0 t10_0 k0) (w64 (size_0 + (x1.length : Int))) (w64 (t11_0 + 1))))
    else (rN slices_0 size_0)

def pS (slices_0 : List (List Int)) : Option ((List Int)) :=
    lS slices_0 slices_0 (slices_0.length : Int) BIG 0 0

def rJ (againR : bX → Int → Int → Bool → Int → Int → Int → (List Int) → (List Int) → Option (bX × Bool × Int × Int)) (many_100 : Int) (b_100 : bX) (b_100_2 : Int) (b_100_3 : Int) (b_100_4 : Bool) (b_100_5 : Int) (b_100_6 : Int) : Option (bX × Bool × Int × Int) :=
    (sub b_100.Ledger.Reports 0 many_100).bind fun x12 =>
    some ((bX.mk (aM.mk b_100.Ledger.Players b_100.Ledger.Counts x12 b_100.Ledger.Bans b_100.Ledger.Frozen)), b_100_4, b_100_5, b_100_6)

def lQ (againR : bX → Int → Int → Bool → Int → Int → Int → (List Int) → (List Int) → Option (bX × Bool × Int × Int)) (week_0 : Int) (prizes_0 : List Int) (free_0 : List Int) (many_0 : Int) (t29_0 : List Int) (t30_0 : Int) (b_0_2 : Int) (b_0_3 : Int) : Nat → Int → bX → Bool → Int → Int → Option (bX × Bool × Int × Int)
  | 0, _, _, _, _, _ => none
  | k0 + 1, t31_0, b_0, b_0_4, b_0_5, b_0_6 =>
    bif decide (t31_0 < t30_0) then ((idx t29_0 t31_0).bind fun x3 =>
    (sub b_0.Ledger.Reports 0 many_0).bind fun x4 =>
    (idx prizes_0 0).bind fun x5 =>
    (app 40 x4 ([(aC.mk (w64 (100 + many_0)) x3 week_0 x5 false)])).bind fun x6 =>
    (sub prizes_0 1 (prizes_0.length : Int)).bind fun x7 =>
    (sub free_0 0 t31_0).bind fun x8 =>
    (sub free_0 (w64 (t31_0 + 1)) (free_0.length : Int)).bind fun x9 =>
    (pS ([x8, x9])).bind fun r10 =>
    (againR (bX.mk (aM.mk b_0.Ledger.Players b_0.Ledger.Counts x6 b_0.Ledger.Bans b_0.Ledger.Frozen)) b_0_2 b_0_3 b_0_4 b_0_5 b_0_6 week_0 x7 r10).bind fun r11 =>
    (lQ againR week_0 prizes_0 free_0 many_0 t29_0 t30_0 b_0_2 b_0_3 k0) (w64 (t31_0 + 1)) r11.1 r11.2.1 r11.2.2.1 r11.2.2.2)
    else (rJ againR many_0 b_0 b_0_2 b_0_3 b_0_4 b_0_5 b_0_6)

def kH : Nat → bX → Int → Int → Bool → Int → Int → Int → (List Int) → (List Int) → Option (bX × Bool × Int × Int)
  | 0, _, _, _, _, _, _, _, _, _ => none
  | kr + 1, book, pl, wk, ms, be, wo, week_1, prizes_2, free_3 =>
    (bif decide ((prizes_2.length : Int) = 0) then (some true) else (some (decide ((free_3.length : Int) = 0)))).bind fun b1 =>
    bif b1 then ((uJ book pl wk ms be wo).bind fun r2 =>
    some (book, r2.1, r2.2.1, r2.2.2))
    else (lQ (kH kr) week_1 prizes_2 free_3 (book.Ledger.Reports.length : Int) free_3 (free_3.length : Int) pl wk BIG 0 book ms be wo)

def tM : bX → Int → Int → Bool → Int → Int → Int → (List Int) → (List Int) → Option (bX × Bool × Int × Int) := kH BIG

def xD (prizes_100 : List Int) (player_100 : Int) (week_100 : Int) (best_100 : Int) (worst_100 : Int) (free_100 : List Int) (o19_100 : List aC) (o19_100_2 : Int) (o19_100_3 : Int) (o19_100_4 : List aL) (o19_100_5 : List aL) : Option (Int × Int × Int) :=
    (tM (bX.mk (aM.mk o19_100_2 o19_100_3 o19_100 o19_100_4 o19_100_5)) player_100 week_100 false (w64 (o19_100_2 + 1)) 0 week_100 prizes_100 free_100).bind fun r24 =>
    bif r24.2.1 then (some (0, 0, 3))
    else (some (r24.2.2.1, r24.2.2.2, 0))

def nZ (prizes_0 : List Int) (t36_0 : Int) (player_0 : Int) (week_0 : Int) (best_0 : Int) (worst_0 : Int) (o19_0 : List aC) (o19_0_2 : Int) (o19_0_3 : Int) (o19_0_4 : List aL) (o19_0_5 : List aL) : Nat → Int → (List Int) → Option (Int × Int × Int)
  | 0, _, _ => none
  | k0 + 1, t37_0, free_0 =>
    bif decide (t37_0 < t36_0) then ((mR o19_0_4 t37_0 week_0).bind fun r20 =>
    bif !r20 then ((app 8 free_0 ([t37_0])).bind fun x21 =>
    (nZ prizes_0 t36_0 player_0 week_0 best_0 worst_0 o19_0 o19_0_2 o19_0_3 o19_0_4 o19_0_5 k0) (w64 (t37_0 + 1)) x21)
    else ((nZ prizes_0 t36_0 player_0 week_0 best_0 worst_0 o19_0 o19_0_2 o19_0_3 o19_0_4 o19_0_5 k0) (w64 (t37_0 + 1)) free_0))
    else (xD prizes_0 player_0 week_0 best_0 worst_0 free_0 o19_0 o19_0_2 o19_0_3 o19_0_4 o19_0_5)

def wU (l_0 : aM) (player_1 : Int) (week_2 : Int) (prizes_3 : List Int) : Option (Int × Int × Int) :=
    (uL l_0 player_1 week_2).bind fun r6 =>
    aBb r6.1 (bif !decide (r6.2 = 0) then (some (0, 0, r6.2))
    else ((bif decide (4 < (prizes_3.length : Int)) then (some true) else ((kD prizes_3 (fun y11 => rI y11)).bind fun r12 =>
    some r12)).bind fun b13 =>
    bif b13 then (some (0, 0, 42))
    else (none))) fun y7 =>
    bif !decide (r6.2 = 0) then (some (0, 0, r6.2))
    else ((bif decide (4 < (prizes_3.length : Int)) then (some true) else ((kD prizes_3 (fun y16 => rI y16)).bind fun r17 =>
    some r17)).bind fun b18 =>
    bif b18 then (some (0, 0, 42))
    else (nZ prizes_3 y7.Ledger.Players player_1 week_2 0 0 y7.Ledger.Reports y7.Ledger.Players y7.Ledger.Counts y7.Ledger.Bans y7.Ledger.Frozen BIG 0 ([] : List Int)))

def nU (b_0 : bX) (player_1 : Int) (week_2 : Int) : Option Int :=
    (lG b_0 player_1 week_2).bind fun r1 =>
    (lH b_0 r1).bind fun r2 =>
    (sE r2).bind fun r3 =>
    some r3

def mU : Option Int :=
    some (-1)

def hY (s_0 : List aC) (f_0 : aC → Option Bool) (t7_0 : Int) : Nat → Int → Option Int
  | 0, _ => none
  | k0 + 1, t8_0 =>
    bif decide (t8_0 < t7_0) then ((idx s_0 t8_0).bind fun x1 =>
    (f_0 x1).bind fun r2 =>
    bif r2 then (some t8_0)
    else ((hY s_0 f_0 t7_0 k0) (w64 (t8_0 + 1))))
    else (mU)

def lA (s_0 : List aC) (f_1 : aC → Option Bool) : Option Int :=
    hY s_0 f_1 (s_0.length : Int) BIG 0

def mH (i_100 : Int) (s_100 : List aC) : Option ((List aC)) :=
    (chk (decide (0 ≤ i_100) && decide (i_100 ≤ (s_100.length : Int)))).bind fun u7 =>
    (chk (decide (i_100.toNat ≤ s_100.length))).bind fun u8 =>
    (chk (decide (0 ≤ i_100))).bind fun u9 =>
    some (s_100.take i_100.toNat)

def fS (del_0 : aC → Option Bool) : Nat → Int → Int → (List aC) → Option ((List aC))
  | 0, _, _, _ => none
  | k0 + 1, i_0, j_0, s_0 =>
    bif decide (j_0 < (s_0.length : Int)) then ((idx s_0 j_0).bind fun x3 =>
    (del_0 x3).bind fun r5 =>
    bif !r5 then ((idx s_0 i_0).bind fun x6 =>
    (fS del_0 k0) (w64 (i_0 + 1)) (w64 (j_0 + 1)) (s_0.set i_0.toNat x3))
    else ((fS del_0 k0) i_0 (w64 (j_0 + 1)) s_0))
    else (mH i_0 s_0)

def kP (s_0 : List aC) (del_1 : aC → Option Bool) : Option ((List aC)) :=
    (lA s_0 del_1).bind fun r2 =>
    bif decide (r2 = (-1)) then (some s_0)
    else (fS del_1 BIG r2 (w64 (r2 + 1)) s_0)

def pI (r_0 : aC) (c_1 : Int) : Option Bool :=
    some (decide (c_1 < r_0.Week))

def uI (l_0 : aM) (player_1 : Int) (week_2 : Int) : Option (Int × Int) :=
    (uL l_0 player_1 week_2).bind fun r3 =>
    aBb r3.1 (bif !decide (r3.2 = 0) then (some (0, r3.2))
    else (bif decide (400 ≤ week_2) then (some (0, 1))
    else (none))) fun y4 =>
    bif !decide (r3.2 = 0) then (some (0, r3.2))
    else (bif decide (400 ≤ week_2) then (some (0, 1))
    else ((nU y4 player_1 week_2).bind fun r7 =>
    (kP y4.Ledger.Reports (fun y8 => pI y8 week_2)).bind fun r9 =>
    (nU (bX.mk (aM.mk y4.Ledger.Players y4.Ledger.Counts r9 y4.Ledger.Bans y4.Ledger.Frozen)) player_1 (w64 (week_2 + 1))).bind fun r11 =>
    some (w64 (r7 - r11), 0)))

def pT : Option Bool :=
    some true

def kR (a_0 : List Int) (b_0 : List Int) : Nat → Int → Option Bool
  | 0, _ => none
  | k0 + 1, i_0 =>
    bif decide (i_0 < (a_0.length : Int)) then ((idx a_0 i_0).bind fun x1 =>
    (idx b_0 i_0).bind fun x2 =>
    bif !decide (x1 = x2) then (some false)
    else ((kR a_0 b_0 k0) (w64 (i_0 + 1))))
    else (pT)

def oH (a_0 : List Int) (b_1 : List Int) : Option Bool :=
    bif !decide ((a_0.length : Int) = (b_1.length : Int)) then (some false)
    else (kR a_0 b_1 BIG 0)

def kI : Option Bool :=
    (oT).bind fun r1 =>
    (xZ r1 40).bind fun r3 =>
    (wU r1 1 40 ([300])).bind fun r4 =>
    (uI r1 0 61).bind fun r5 =>
    (bif decide (r3.2 = 0) then (some (decide (r4.2.2 = 0))) else (some false)).bind fun b6 =>
    (bif b6 then (some (decide (r5.2 = 0))) else (some false)).bind fun b7 =>
    (bif b7 then ((oH r3.1 ([0, 2, 1])).bind fun r8 =>
    some r8) else (some false)).bind fun b9 =>
    (bif b9 then (some (decide (r4.1 = 1))) else (some false)).bind fun b10 =>
    (bif b10 then (some (decide (r4.2.1 = 3))) else (some false)).bind fun b11 =>
    (bif b11 then (some (decide (r5.1 = 200))) else (some false)).bind fun b12 =>
    some b12

def lF (l_0 : aM) : Option aM :=
    (app 40 ([] : List aC) l_0.Reports).bind fun x4 =>
    (app 24 ([] : List aL) l_0.Bans).bind fun x5 =>
    (app 24 ([] : List aL) l_0.Frozen).bind fun x6 =>
    some (aM.mk l_0.Players l_0.Counts x4 x5 x6)

def sR : Option Bool :=
    some false

def kT (l_0 : List aL) (player_0 : Int) (week_0 : Int) : Nat → Int → Option Bool
  | 0, _ => none
  | k0 + 1, i_0 =>
    bif decide (i_0 < (l_0.length : Int)) then ((idx l_0 i_0).bind fun x1 =>
    (bif decide (x1.Player = player_0) then ((idx l_0 i_0).bind fun x2 =>
    (idx l_0 i_0).bind fun x3 =>
    (eL week_0 x2.From x3.To).bind fun r4 =>
    some r4) else (some false)).bind fun b5 =>
    bif b5 then (some true)
    else ((kT l_0 player_0 week_0 k0) (w64 (i_0 + 1))))
    else (sR)

def lE (l_0 : List aL) (player_1 : Int) (week_2 : Int) : Option Bool :=
    kT l_0 player_1 week_2 BIG 0

def gU (again0 : (List aC) → Int → Option ((List aC))) (l_101 : List aC) (out_101 : List aC) (i_101 : Int) : Option ((List aC)) :=
    again0 out_101 (w64 (i_101 + 1))

def jD (again0 : (List aC) → Int → Option ((List aC))) (l_102 : List aC) (out_102 : List aC) (i_102 : Int) (atv_102 : Int) (known_102 : Bool) : Option ((List aC)) :=
    bif !known_102 then ((idx l_102 i_102).bind fun x6 =>
    (sub out_102 atv_102 (out_102.length : Int)).bind fun x7 =>
    (app 40 ([x6]) x7).bind fun x8 =>
    (sub out_102 0 atv_102).bind fun x10 =>
    (app 40 ([] : List aC) x10).bind fun x11 =>
    (app 40 x11 x8).bind fun x13 =>
    gU again0 l_102 x13 i_102)
    else (gU again0 l_102 out_102 i_102)

def eN (again0 : (List aC) → Int → Option ((List aC))) (l_2 : List aC) (out_2 : List aC) (i_2 : Int) : Nat → Int → Bool → Int → Option ((List aC))
  | 0, _, _, _ => none
  | k2 + 1, atv_2, known_2, k_2 =>
    bif decide (k_2 < (out_2.length : Int)) then ((bif known_2 then (some true) else ((idx out_2 k_2).bind fun x1 =>
    (idx l_2 i_2).bind fun x2 =>
    some (decide (x1 = x2)))).bind fun b3 =>
    (idx out_2 k_2).bind fun x4 =>
    (idx l_2 i_2).bind fun x5 =>
    bif decide (x4.Id ≤ x5.Id) then ((eN again0 l_2 out_2 i_2 k2) (w64 (k_2 + 1)) b3 (w64 (k_2 + 1)))
    else ((eN again0 l_2 out_2 i_2 k2) atv_2 b3 (w64 (k_2 + 1))))
    else (jD again0 l_2 out_2 i_2 atv_2 known_2)

def mW (out_100 : List aC) : Option ((List aC)) :=
    some out_100

def eM (l_0 : List aC) : Nat → (List aC) → Int → Option ((List aC))
  | 0, _, _ => none
  | k0 + 1, out_0, i_0 =>
    bif decide (i_0 < (l_0.length : Int)) then (eN (eM l_0 k0) l_0 out_0 i_0 BIG 0 false 0)
    else (mW out_0)

def dP (l_0 : List aC) : Option ((List aC)) :=
    eM l_0 BIG ([] : List aC) 0

def tK (n_100 : Int) : Option Int :=
    some n_100

def jV (week_0 : Int) (l_0 : aM) (r_0 : aC) : Nat → Int → Int → Option Int
  | 0, _, _ => none
  | k0 + 1, n_0, w_0 =>
    bif decide (w_0 ≤ week_0) then ((lE l_0.Frozen r_0.Player w_0).bind fun r3 =>
    bif !r3 then ((jV week_0 l_0 r_0 k0) (w64 (n_0 + 1)) (w64 (w_0 + 1)))
    else ((jV week_0 l_0 r_0 k0) n_0 (w64 (w_0 + 1))))
    else (tK n_0)

def pF (l_0 : aM) (r_1 : aC) (week_2 : Int) : Option Int :=
    jV week_2 l_0 r_1 BIG 0 (w64 (r_1.Week + 1))

def pW (out_100 : List aC) : Option ((List aC)) :=
    some out_100

def gA (player_0 : Int) (week_0 : Int) (allv_0 : List aC) (l_0 : aM) : Nat → Int → (List aC) → Option ((List aC))
  | 0, _, _ => none
  | k0 + 1, i_0, out_0 =>
    bif decide (i_0 < (allv_0.length : Int)) then ((idx allv_0 i_0).bind fun x4 =>
    (bif decide (x4.Player = player_0) then (some (decide (x4.Week ≤ week_0))) else (some false)).bind fun b6 =>
    (bif b6 then ((pF l_0 x4 week_0).bind fun r7 =>
    some (decide (r7 < 52))) else (some false)).bind fun b8 =>
    (bif b8 then ((lE l_0.Bans player_0 x4.Week).bind fun r9 =>
    some (!r9)) else (some false)).bind fun b10 =>
    bif b10 then ((app 40 out_0 ([x4])).bind fun x11 =>
    (gA player_0 week_0 allv_0 l_0 k0) (w64 (i_0 + 1)) x11)
    else ((gA player_0 week_0 allv_0 l_0 k0) (w64 (i_0 + 1)) out_0))
    else (pW out_0)

def iZ (l_0 : aM) (player_1 : Int) (week_2 : Int) : Option ((List aC)) :=
    (dP l_0.Reports).bind fun r3 =>
    gA player_1 week_2 r3 l_0 BIG 0 ([] : List aC)

def pP (l_0 : aM) (player_1 : Int) (week_2 : Int) : Option Bool :=
    (lE l_0.Bans player_1 week_2).bind fun r2 =>
    (bif !r2 then ((iZ l_0 player_1 week_2).bind fun r3 =>
    some (decide (0 < (r3.length : Int)))) else (some false)).bind fun b4 =>
    some b4

def oM (again2 : Int → (List aC) → Option ((List aC))) (allv_103 : List aC) (must_103 : Int) (i_103 : Int) (l_103 : aM) (out_103 : List aC) : Option ((List aC)) :=
    again2 (w64 (i_103 + 1)) out_103

def oN (again2 : Int → (List aC) → Option ((List aC))) (allv_104 : List aC) (must_104 : Int) (i_104 : Int) (better_104 : Int) (l_104 : aM) (out_104 : List aC) : Option ((List aC)) :=
    (idx allv_104 i_104).bind fun x13 =>
    (bif x13.Must then (some true) else (some (decide (better_104 < (w64 (l_104.Counts - must_104)))))).bind fun b14 =>
    bif b14 then ((idx allv_104 i_104).bind fun x15 =>
    (app 40 out_104 ([x15])).bind fun x16 =>
    oM again2 allv_104 must_104 i_104 l_104 x16)
    else (oM again2 allv_104 must_104 i_104 l_104 out_104)

def jA (again2 : Int → (List aC) → Option ((List aC))) (allv_4 : List aC) (must_4 : Int) (i_4 : Int) (l_4 : aM) (out_4 : List aC) : Nat → Int → Int → Option ((List aC))
  | 0, _, _ => none
  | k4 + 1, better_4, k_4 =>
    bif decide (k_4 < (allv_4.length : Int)) then ((idx allv_4 k_4).bind fun x5 =>
    (bif !x5.Must then ((idx allv_4 k_4).bind fun x6 =>
    (idx allv_4 i_4).bind fun x7 =>
    (bif decide (x7.Points < x6.Points) then (some true) else ((idx allv_4 k_4).bind fun x8 =>
    (idx allv_4 i_4).bind fun x9 =>
    (bif decide (x8.Points = x9.Points) then (some (decide (k_4 < i_4))) else (some false)).bind fun b10 =>
    some b10)).bind fun b11 =>
    some b11) else (some false)).bind fun b12 =>
    bif b12 then ((jA again2 allv_4 must_4 i_4 l_4 out_4 k4) (w64 (better_4 + 1)) (w64 (k_4 + 1)))
    else ((jA again2 allv_4 must_4 i_4 l_4 out_4 k4) better_4 (w64 (k_4 + 1))))
    else (oN again2 allv_4 must_4 i_4 better_4 l_4 out_4)

def rW (out_102 : List aC) : Option ((List aC)) :=
    some out_102

def hG (allv_2 : List aC) (must_2 : Int) (l_2 : aM) : Nat → Int → (List aC) → Option ((List aC))
  | 0, _, _ => none
  | k2 + 1, i_2, out_2 =>
    bif decide (i_2 < (allv_2.length : Int)) then (jA (hG allv_2 must_2 l_2 k2) allv_2 must_2 i_2 l_2 out_2 BIG 0 0)
    else (rW out_2)

def oL (allv_100 : List aC) (must_100 : Int) (l_100 : aM) : Option ((List aC)) :=
    hG allv_100 must_100 l_100 BIG 0 ([] : List aC)

def gZ (allv_0 : List aC) (l_0 : aM) : Nat → Int → Int → Option ((List aC))
  | 0, _, _ => none
  | k0 + 1, must_0, i_0 =>
    bif decide (i_0 < (allv_0.length : Int)) then ((idx allv_0 i_0).bind fun x3 =>
    bif x3.Must then ((gZ allv_0 l_0 k0) (w64 (must_0 + 1)) (w64 (i_0 + 1)))
    else ((gZ allv_0 l_0 k0) must_0 (w64 (i_0 + 1))))
    else (oL allv_0 must_0 l_0)

def qK (l_0 : aM) (player_1 : Int) (week_2 : Int) : Option ((List aC)) :=
    (iZ l_0 player_1 week_2).bind fun r2 =>
    gZ r2 l_0 BIG 0 0

def rC (sum_100 : Int) (must_100 : Int) : Option (Int × Int) :=
    some (sum_100, must_100)

def iR (allv_0 : List aC) : Nat → Int → Int → Int → Option (Int × Int)
  | 0, _, _, _ => none
  | k0 + 1, sum_0, must_0, i_0 =>
    bif decide (i_0 < (allv_0.length : Int)) then ((idx allv_0 i_0).bind fun x3 =>
    (idx allv_0 i_0).bind fun x4 =>
    bif x4.Must then ((idx allv_0 i_0).bind fun x5 =>
    (iR allv_0 k0) (w64 (sum_0 + x3.Points)) (w64 (must_0 + x5.Points)) (w64 (i_0 + 1)))
    else ((iR allv_0 k0) (w64 (sum_0 + x3.Points)) must_0 (w64 (i_0 + 1))))
    else (rC sum_0 must_0)

def nJ (l_0 : aM) (player_1 : Int) (week_2 : Int) : Option (Int × Int) :=
    (qK l_0 player_1 week_2).bind fun r2 =>
    iR r2 BIG 0 0 0

def pQ (l_0 : aM) (a_1 : Int) (b_2 : Int) (week_3 : Int) : Option Bool :=
    (nJ l_0 a_1 week_3).bind fun r2 =>
    (nJ l_0 b_2 week_3).bind fun r3 =>
    bif !decide (r2.1 = r3.1) then (some (decide (r3.1 < r2.1)))
    else (bif !decide (r2.2 = r3.2) then (some (decide (r3.2 < r2.2)))
    else ((iZ l_0 a_1 week_3).bind fun r4 =>
    (iZ l_0 b_2 week_3).bind fun r5 =>
    bif !decide ((r4.length : Int) = (r5.length : Int)) then (some (decide ((r4.length : Int) < (r5.length : Int))))
    else (some (decide (a_1 < b_2)))))

def kU (again0 : (List Int) → Int → Option ((List Int))) (week_101 : Int) (out_101 : List Int) (p_101 : Int) (l_101 : aM) : Option ((List Int)) :=
    again0 out_101 (w64 (p_101 + 1))

def oW (again0 : (List Int) → Int → Option ((List Int))) (week_102 : Int) (out_102 : List Int) (p_102 : Int) (atv_102 : Int) (l_102 : aM) : Option ((List Int)) :=
    (sub out_102 atv_102 (out_102.length : Int)).bind fun x6 =>
    (app 8 ([p_102]) x6).bind fun x7 =>
    (sub out_102 0 atv_102).bind fun x9 =>
    (app 8 ([] : List Int) x9).bind fun x10 =>
    (app 8 x10 x7).bind fun x12 =>
    kU again0 week_102 x12 p_102 l_102

def jN (again0 : (List Int) → Int → Option ((List Int))) (week_2 : Int) (out_2 : List Int) (p_2 : Int) (l_2 : aM) : Nat → Int → Option ((List Int))
  | 0, _ => none
  | k2 + 1, atv_2 =>
    (bif decide (atv_2 < (out_2.length : Int)) then ((idx out_2 atv_2).bind fun x3 =>
    (pQ l_2 x3 p_2 week_2).bind fun r4 =>
    some r4) else (some false)).bind fun b5 =>
    bif b5 then ((jN again0 week_2 out_2 p_2 l_2 k2) (w64 (atv_2 + 1)))
    else (oW again0 week_2 out_2 p_2 atv_2 l_2)

def sT (out_100 : List Int) : Option ((List Int)) :=
    some out_100

def iH (week_0 : Int) (l_0 : aM) : Nat → (List Int) → Int → Option ((List Int))
  | 0, _, _ => none
  | k0 + 1, out_0, p_0 =>
    bif decide (p_0 < l_0.Players) then ((pP l_0 p_0 week_0).bind fun r2 =>
    bif !r2 then (kU (iH week_0 l_0 k0) week_0 out_0 p_0 l_0)
    else (jN (iH week_0 l_0 k0) week_0 out_0 p_0 l_0 BIG 0))
    else (sT out_0)

def oQ (l_0 : aM) (week_1 : Int) : Option ((List Int)) :=
    iH week_1 l_0 BIG ([] : List Int) 0

def rV : Option Int :=
    some 0

def gY (player_0 : Int) (allv_0 : List Int) : Nat → Int → Option Int
  | 0, _ => none
  | k0 + 1, i_0 =>
    bif decide (i_0 < (allv_0.length : Int)) then ((idx allv_0 i_0).bind fun x3 =>
    bif decide (x3 = player_0) then (some (w64 (i_0 + 1)))
    else ((gY player_0 allv_0 k0) (w64 (i_0 + 1))))
    else (rV)

def uA (l_0 : aM) (player_1 : Int) (week_2 : Int) : Option Int :=
    (oQ l_0 week_2).bind fun r2 =>
    gY player_1 r2 BIG 0

def jF (n_1 : Int) : Option ((List aC)) :=
    bif decide (n_1 < 0) then (none)
    else (bif decide (0 < (w64 (n_1 - (w64 (0 - 0))))) then ((chk (decide (0 ≤ 0))).bind fun u2 =>
    (chk (decide (0 < (w64 (n_1 - (w64 (0 - 0))))) && decide ((w64 (n_1 - (w64 (0 - 0)))) * ((40 : Nat) : Int) ≤ 140737488355328))).bind fun u3 =>
    (chk (decide (0 ≤ 0))).bind fun u5 =>
    some ([] : List aC))
    else (some ([] : List aC)))

def nR (o24_102 : List aC) : Option ((List aC)) :=
    some o24_102

def eG (t25_2 : List (List aC)) (t26_2 : Int) : Nat → Int → (List aC) → Option ((List aC))
  | 0, _, _ => none
  | k2 + 1, t27_2, o24_2 =>
    bif decide (t27_2 < t26_2) then ((idx t25_2 t27_2).bind fun x4 =>
    (app 40 o24_2 x4).bind fun x5 =>
    (eG t25_2 t26_2 k2) (w64 (t27_2 + 1)) x5)
    else (nR o24_2)

def kZ (slices_100 : List (List aC)) (size_100 : Int) : Option ((List aC)) :=
    (jF size_100).bind fun r2 =>
    eG slices_100 (slices_100.length : Int) BIG 0 r2

def eS (slices_0 : List (List aC)) (t9_0 : List (List aC)) (t10_0 : Int) : Nat → Int → Int → Option ((List aC))
  | 0, _, _ => none
  | k0 + 1, size_0, t11_0 =>
    bif decide (t11_0 < t10_0) then ((idx t9_0 t11_0).bind fun x1 =>
    bif decide ((w64 (size_0 + (x1.length : Int))) < 0) then (none)
    else ((eS slices_0 t9_0 t10_0 k0) (w64 (size_0 + (x1.length : Int))) (w64 (t11_0 + 1))))
    else (kZ slices_0 size_0)

def gH (slices_0 : List (List aC)) : Option ((List aC)) :=
    eS slices_0 slices_0 (slices_0.length : Int) BIG 0 0

def eR (s_0 : List aL) : Option ((List aL)) :=
    (app 24 ([] : List aL) s_0).bind fun x5 =>
    some x5

def qI (more_100 : List aC) (l_100 : aM) (o4_100 : aM) (o29_100 : List (aC × Int)) : Option (aM × Int) :=
    bif decide (40 < (o29_100.length : Int)) then (some ((aM.mk 0 0 ([] : List aC) ([] : List aL) ([] : List aL)), 40))
    else ((gH ([l_100.Reports, more_100])).bind fun r10 =>
    (lU r10).bind fun r11 =>
    bif !r11.2 then (some ((aM.mk 0 0 ([] : List aC) ([] : List aL) ([] : List aL)), 41))
    else ((eR l_100.Bans).bind fun r13 =>
    (eR l_100.Frozen).bind fun r15 =>
    some ((aM.mk l_100.Players l_100.Counts r11.1 r13 r15), 0)))

def lL (more_0 : List aC) (t34_0 : List aC) (t35_0 : Int) (l_0 : aM) (o4_0 : aM) : Nat → Int → (List (aC × Int)) → Option (aM × Int)
  | 0, _, _ => none
  | k0 + 1, t36_0, o29_0 =>
    bif decide (t36_0 < t35_0) then ((idx t34_0 t36_0).bind fun x8 =>
    (lL more_0 t34_0 t35_0 l_0 o4_0 k0) (w64 (t36_0 + 1)) (mC x8 (w64 ((lP x8 0 o29_0) + 1)) o29_0))
    else (qI more_0 l_0 o4_0 o29_0)

def rH (l_0 : aM) (more_1 : List aC) : Option (aM × Int) :=
    (mQ l_0).bind fun r3 =>
    bif !decide (r3 = 0) then (some ((aM.mk 0 0 ([] : List aC) ([] : List aL) ([] : List aL)), r3))
    else ((mQ (aM.mk l_0.Players l_0.Counts more_1 l_0.Bans l_0.Frozen)).bind fun r5 =>
    bif !decide (r5 = 0) then (some ((aM.mk 0 0 ([] : List aC) ([] : List aL) ([] : List aL)), r5))
    else ((gH ([l_0.Reports, more_1])).bind fun r7 =>
    lL more_1 r7 (r7.length : Int) l_0 (aM.mk 0 0 ([] : List aC) ([] : List aL) ([] : List aL)) BIG 0 ([] : List (aC × Int))))

def lY (l_0 : aM) (more_1 : List aC) : Option (aM × Int) :=
    (iG l_0).bind fun r3 =>
    bif !decide (r3 = 0) then (some ((aM.mk 0 0 ([] : List aC) ([] : List aL) ([] : List aL)), r3))
    else ((lF l_0).bind fun r4 =>
    (iG (aM.mk r4.Players r4.Counts more_1 r4.Bans r4.Frozen)).bind fun r6 =>
    bif !decide (r6 = 0) then (some ((aM.mk 0 0 ([] : List aC) ([] : List aL) ([] : List aL)), r6))
    else ((app 40 ([] : List aC) l_0.Reports).bind fun x8 =>
    (app 40 x8 more_1).bind fun x10 =>
    (dP x10).bind fun r12 =>
    bif decide (40 < (r12.length : Int)) then (some ((aM.mk 0 0 ([] : List aC) ([] : List aL) ([] : List aL)), 40))
    else ((kJ r12).bind fun r13 =>
    bif r13 then (some ((aM.mk 0 0 ([] : List aC) ([] : List aL) ([] : List aL)), 41))
    else (some ((aM.mk r4.Players r4.Counts r12 r4.Bans r4.Frozen), 0)))))

def oU : Option Bool :=
    some true

def iF (a_4 : aM) (b_4 : aM) : Nat → Int → Option Bool
  | 0, _ => none
  | k4 + 1, i_4 =>
    bif decide (i_4 < (a_4.Frozen.length : Int)) then ((idx a_4.Frozen i_4).bind fun x11 =>
    (idx b_4.Frozen i_4).bind fun x12 =>
    bif !decide (x11 = x12) then (some false)
    else ((iF a_4 b_4 k4) (w64 (i_4 + 1))))
    else (oU)

def mO (a_102 : aM) (b_102 : aM) : Option Bool :=
    iF a_102 b_102 BIG 0

def iE (a_2 : aM) (b_2 : aM) : Nat → Int → Option Bool
  | 0, _ => none
  | k2 + 1, i_2 =>
    bif decide (i_2 < (a_2.Bans.length : Int)) then ((idx a_2.Bans i_2).bind fun x9 =>
    (idx b_2.Bans i_2).bind fun x10 =>
    bif !decide (x9 = x10) then (some false)
    else ((iE a_2 b_2 k2) (w64 (i_2 + 1))))
    else (mO a_2 b_2)

def mN (a_100 : aM) (b_100 : aM) : Option Bool :=
    iE a_100 b_100 BIG 0

def iD (a_0 : aM) (b_0 : aM) : Nat → Int → Option Bool
  | 0, _ => none
  | k0 + 1, i_0 =>
    bif decide (i_0 < (a_0.Reports.length : Int)) then ((idx a_0.Reports i_0).bind fun x7 =>
    (idx b_0.Reports i_0).bind fun x8 =>
    bif !decide (x7 = x8) then (some false)
    else ((iD a_0 b_0 k0) (w64 (i_0 + 1))))
    else (mN a_0 b_0)

def mM (a_0 : aM) (b_1 : aM) : Option Bool :=
    (bif !decide (a_0.Players = b_1.Players) then (some true) else (some (!decide (a_0.Counts = b_1.Counts)))).bind fun b3 =>
    (bif b3 then (some true) else (some (!decide ((a_0.Reports.length : Int) = (b_1.Reports.length : Int))))).bind fun b4 =>
    (bif b4 then (some true) else (some (!decide ((a_0.Bans.length : Int) = (b_1.Bans.length : Int))))).bind fun b5 =>
    (bif b5 then (some true) else (some (!decide ((a_0.Frozen.length : Int) = (b_1.Frozen.length : Int))))).bind fun b6 =>
    bif b6 then (some false)
    else (iD a_0 b_1 BIG 0)

def lD (l_0 : aM) (more_1 : List aC) : Option Bool :=
    (gE l_0).bind fun r2 =>
    (bif r2 then (some true) else (some (decide (60 < (more_1.length : Int))))).bind fun b3 =>
    bif b3 then ((kI).bind fun r4 =>
    some r4)
    else ((lF l_0).bind fun r5 =>
    (app 40 ([] : List aC) more_1).bind fun x6 =>
    (rH r5 x6).bind fun r7 =>
    (lY l_0 more_1).bind fun r9 =>
    (mM r7.1 r9.1).bind fun r11 =>
    (bif r11 then (some (decide (r7.2 = r9.2))) else (some false)).bind fun b12 =>
    (bif b12 then ((kI).bind fun r13 =>
    some r13) else (some false)).bind fun b14 =>
    some b14)

end Go.Am
