/- Shallow functions, printed by program. -/
import Derived.Test.YtaocljlhapoieaaAmFull
import Derived.Test.YtaocljlhapoieaaAmPrim
import Derived.Test.YtaocljlhapoieaaAmSort
namespace Go.Am

structure bD where
  Player : Int
  From : Int
  To : Int
  deriving DecidableEq, Inhabited
def aK (x : bD) : List D := [.lit (.int .i64 x.Player), .lit (.int .i64 x.From), .lit (.int .i64 x.To)]

def yO (x : List bD) : List D := [.sl 3 (x.map aK)]

structure aD where
  Id : Int
  Player : Int
  Week : Int
  Points : Int
  Must : Bool
  deriving DecidableEq, Inhabited
def aB (x : aD) : List D := [.lit (.int .i64 x.Id), .lit (.int .i64 x.Player), .lit (.int .i64 x.Week), .lit (.int .i64 x.Points), .lit (.bool x.Must)]

def zB (x : List aD) : List D := [.sl 5 (x.map aB)]

structure aR where
  Players : Int
  Counts : Int
  Reports : List aD
  Bans : List bD
  Frozen : List bD
  deriving DecidableEq, Inhabited
def aZ (x : aR) : List D := [.lit (.int .i64 x.Players), .lit (.int .i64 x.Counts), .sl 5 (x.Reports.map aB), .sl 3 (x.Bans.map aK), .sl 3 (x.Frozen.map aK)]

structure cB where
  Ledger : aR
  deriving DecidableEq, Inhabited
def cH (x : cB) : List D := [.lit (.int .i64 x.Ledger.Players), .lit (.int .i64 x.Ledger.Counts), .sl 5 (x.Ledger.Reports.map aB), .sl 3 (x.Ledger.Bans.map aK), .sl 3 (x.Ledger.Frozen.map aK)]

def qP (x : List Int) : List D := [.sl 1 (x.map cE)]

structure bC where
  player : Int
  points : Int
  musts : Int
  many : Int
  deriving DecidableEq, Inhabited
def bW (x : bC) : List D := [.lit (.int .i64 x.player), .lit (.int .i64 x.points), .lit (.int .i64 x.musts), .lit (.int .i64 x.many)]

structure nP where
  Player : Int
  Week : Int
  Id : Int
  deriving DecidableEq, Inhabited
def qG (x : nP) : List D := [.lit (.int .i64 x.Player), .lit (.int .i64 x.Week), .lit (.int .i64 x.Id)]

def uN (x : aD) : Prop := okI x.Id ∧ okI x.Player ∧ okI x.Week ∧ okI x.Points ∧ okB x.Must

def qU (x : bD) : Prop := okI x.Player ∧ okI x.From ∧ okI x.To

def yC (x : aR) : Prop := okI x.Players ∧ okI x.Counts ∧ (okL uN) x.Reports ∧ (okL qU) x.Bans ∧ (okL qU) x.Frozen

def uG (x : nP) : Prop := okI x.Player ∧ okI x.Week ∧ okI x.Id

def eK (n_0 : Int) (low_1 : Int) (high_2 : Int) : Option Bool :=
    (bif decide (low_1 ≤ n_0) then (some (decide (n_0 ≤ high_2))) else (some false)).bind fun b1 =>
    some b1

def mC (l_100 : List bD) : Option Bool :=
    some (decide ((l_100.length : Int) ≤ 8))

def fT (players_0 : Int) (l_0 : List bD) : Nat → Int → Option Bool
  | 0, _ => none
  | k0 + 1, i_0 =>
    bif decide (i_0 < (l_0.length : Int)) then ((idx l_0 i_0).bind fun x1 =>
    (eK x1.Player 0 (w64 (players_0 - 1))).bind fun r2 =>
    (bif !r2 then (some true) else ((idx l_0 i_0).bind fun x3 =>
    some (decide (x3.From < 0)))).bind fun b4 =>
    (bif b4 then (some true) else ((idx l_0 i_0).bind fun x5 =>
    (idx l_0 i_0).bind fun x6 =>
    some (decide (x6.To < x5.From)))).bind fun b7 =>
    (bif b7 then (some true) else ((idx l_0 i_0).bind fun x8 =>
    some (decide (400 < x8.To)))).bind fun b9 =>
    bif b9 then (some false)
    else ((fT players_0 l_0 k0) (w64 (i_0 + 1))))
    else (mC l_0)

def iO (players_0 : Int) (l_1 : List bD) : Option Bool :=
    fT players_0 l_1 BIG 0

def kE (players_0 : Int) (r_1 : aD) : Option Bool :=
    (eK r_1.Id 0 99).bind fun r2 =>
    (bif r2 then ((eK r_1.Player 0 (w64 (players_0 - 1))).bind fun r3 =>
    some r3) else (some false)).bind fun b4 =>
    (bif b4 then ((eK r_1.Week 0 400).bind fun r5 =>
    some r5) else (some false)).bind fun b6 =>
    (bif b6 then ((eK r_1.Points 0 2000).bind fun r7 =>
    some r7) else (some false)).bind fun b8 =>
    some b8

def mW (again2 : Int → Option Bool) (i_103 : Int) (l_103 : aR) : Option Bool :=
    again2 (w64 (i_103 + 1))

def mX (again2 : Int → Option Bool) (i_104 : Int) (l_104 : aR) : Option Bool :=
    mW again2 i_104 l_104

def fZ (again2 : Int → Option Bool) (i_4 : Int) (l_4 : aR) : Nat → Int → Option Bool
  | 0, _ => none
  | k4 + 1, k_4 =>
    bif decide (k_4 < i_4) then ((idx l_4.Frozen i_4).bind fun x12 =>
    (idx l_4.Frozen k_4).bind fun x13 =>
    (bif decide (x12.Player = x13.Player) then (some (decide (x12.From ≤ x13.To))) else (some false)).bind fun b16 =>
    (bif b16 then (some (decide (x13.From ≤ x12.To))) else (some false)).bind fun b17 =>
    bif b17 then (some false)
    else ((fZ again2 i_4 l_4 k4) (w64 (k_4 + 1))))
    else (mX again2 i_4 l_4)

def mV : Option Bool :=
    some true

def eB (l_2 : aR) : Nat → Int → Option Bool
  | 0, _ => none
  | k2 + 1, i_2 =>
    bif decide (i_2 < (l_2.Frozen.length : Int)) then (fZ (eB l_2 k2) i_2 l_2 BIG 0)
    else (mV)

def mU (l_100 : aR) : Option Bool :=
    eB l_100 BIG 0

def fI (l_0 : aR) : Nat → Int → Option Bool
  | 0, _ => none
  | k0 + 1, i_0 =>
    bif decide (i_0 < (l_0.Reports.length : Int)) then ((idx l_0.Reports i_0).bind fun x10 =>
    (kE l_0.Players x10).bind fun r11 =>
    bif !r11 then (some false)
    else ((fI l_0 k0) (w64 (i_0 + 1))))
    else (mU l_0)

def kD (l_0 : aR) : Option Bool :=
    (eK l_0.Players 1 16).bind fun r2 =>
    (bif !r2 then (some true) else ((eK l_0.Counts 1 20).bind fun r3 =>
    some (!r3))).bind fun b4 =>
    (bif b4 then (some true) else (some (decide (40 < (l_0.Reports.length : Int))))).bind fun b5 =>
    (bif b5 then (some true) else ((iO l_0.Players l_0.Bans).bind fun r6 =>
    some (!r6))).bind fun b7 =>
    (bif b7 then (some true) else ((iO l_0.Players l_0.Frozen).bind fun r8 =>
    some (!r8))).bind fun b9 =>
    bif b9 then (some false)
    else (fI l_0 BIG 0)

def nZ (again0 : Int → Option Bool) (l_101 : List aD) (i_101 : Int) : Option Bool :=
    again0 (w64 (i_101 + 1))

def oA (again0 : Int → Option Bool) (l_102 : List aD) (i_102 : Int) : Option Bool :=
    nZ again0 l_102 i_102

def gV (again0 : Int → Option Bool) (l_2 : List aD) (i_2 : Int) : Nat → Int → Option Bool
  | 0, _ => none
  | k2 + 1, k_2 =>
    bif decide (k_2 < i_2) then ((idx l_2 i_2).bind fun x1 =>
    (idx l_2 k_2).bind fun x2 =>
    (bif decide (x1.Id = x2.Id) then ((idx l_2 i_2).bind fun x3 =>
    (idx l_2 k_2).bind fun x4 =>
    some (!decide (x3 = x4))) else (some false)).bind fun b5 =>
    bif b5 then (some true)
    else ((gV again0 l_2 i_2 k2) (w64 (k_2 + 1))))
    else (oA again0 l_2 i_2)

def nY : Option Bool :=
    some false

def eW (l_0 : List aD) : Nat → Int → Option Bool
  | 0, _ => none
  | k0 + 1, i_0 =>
    bif decide (i_0 < (l_0.length : Int)) then (gV (eW l_0 k0) l_0 i_0 BIG 0)
    else (nY)

def lV (l_0 : List aD) : Option Bool :=
    eW l_0 BIG 0

def kI (l_0 : aR) : Option Int :=
    (kD l_0).bind fun r2 =>
    bif !r2 then (some 40)
    else ((lV l_0.Reports).bind fun r3 =>
    bif r3 then (some 41)
    else (some 0))

def jV (l_100 : aR) : Option Bool :=
    (bif decide (5 < l_100.Players) then (some true) else (some (decide (10 < (l_100.Reports.length : Int))))).bind fun b6 =>
    some b6

def fQ (l_0 : aR) : Nat → Int → Option Bool
  | 0, _ => none
  | k0 + 1, i_0 =>
    bif decide (i_0 < (l_0.Reports.length : Int)) then ((idx l_0.Reports i_0).bind fun x5 =>
    bif decide (150 < x5.Week) then (some true)
    else ((fQ l_0 k0) (w64 (i_0 + 1))))
    else (jV l_0)

def iN (l_0 : aR) : Option Bool :=
    (bif decide (60 < (l_0.Reports.length : Int)) then (some true) else (some (decide (20 < (l_0.Bans.length : Int))))).bind fun b2 =>
    (bif b2 then (some true) else (some (decide (20 < (l_0.Frozen.length : Int))))).bind fun b3 =>
    bif b3 then (some true)
    else ((kI l_0).bind fun r4 =>
    bif !decide (r4 = 0) then (some false)
    else (fQ l_0 BIG 0))

def oL : Option aR :=
    some (aR.mk 3 2 ([(aD.mk 1 0 10 500 false), (aD.mk 2 0 20 300 false), (aD.mk 3 0 30 100 true), (aD.mk 4 1 12 400 false), (aD.mk 5 1 40 200 false), (aD.mk 6 2 15 600 false)]) ([(bD.mk 1 50 55)]) ([(bD.mk 2 20 29)]))

def eO (n_0 : Int) (low_1 : Int) (high_2 : Int) : Option Bool :=
    (bif decide (low_1 ≤ n_0) then (some (decide (n_0 ≤ high_2))) else (some false)).bind fun b1 =>
    some b1

def jO : Option Int :=
    some (-1)

def eG (s_0 : List bD) (f_0 : bD → Option Bool) (t7_0 : Int) : Nat → Int → Option Int
  | 0, _ => none
  | k0 + 1, t8_0 =>
    bif decide (t8_0 < t7_0) then ((idx s_0 t8_0).bind fun x1 =>
    (f_0 x1).bind fun r2 =>
    bif r2 then (some t8_0)
    else ((eG s_0 f_0 t7_0 k0) (w64 (t8_0 + 1))))
    else (jO)

def gH (s_0 : List bD) (f_1 : bD → Option Bool) : Option Int :=
    eG s_0 f_1 (s_0.length : Int) BIG 0

def eF (s_0 : List bD) (f_1 : bD → Option Bool) : Option Bool :=
    (gH s_0 f_1).bind fun r1 =>
    some (decide (0 ≤ r1))

def lY (a_0 : bD) (c_1 : aR) : Option Bool :=
    (eO a_0.Player 0 (w64 (c_1.Players - 1))).bind fun r2 =>
    (bif !r2 then (some true) else (some (decide (a_0.To < a_0.From)))).bind fun b3 =>
    (bif b3 then (some true) else ((eO a_0.From 0 400).bind fun r4 =>
    some (!r4))).bind fun b5 =>
    (bif b5 then (some true) else ((eO a_0.To 0 400).bind fun r6 =>
    some (!r6))).bind fun b7 =>
    some b7

def lT (l_0 : aR) (all_1 : List bD) : Option Bool :=
    (bif decide ((all_1.length : Int) ≤ 8) then ((eF all_1 (fun y2 => lY y2 l_0)).bind fun r3 =>
    some (!r3)) else (some false)).bind fun b4 =>
    some b4

def mL (b_0 : bD) (c_1 : bD) : Option Bool :=
    (bif decide (c_1.Player = b_0.Player) then (some (decide (c_1.From ≤ b_0.To))) else (some false)).bind fun b2 =>
    (bif b2 then (some (decide (b_0.From ≤ c_1.To))) else (some false)).bind fun b3 =>
    some b3

def qM : Option Bool :=
    some true

def iH (t69_2 : List bD) (t70_2 : Int) (l_2 : aR) : Nat → Int → Option Bool
  | 0, _ => none
  | k2 + 1, t71_2 =>
    bif decide (t71_2 < t70_2) then ((idx t69_2 t71_2).bind fun x18 =>
    (sub l_2.Frozen 0 t71_2).bind fun x20 =>
    (eF x20 (fun y21 => mL y21 x18)).bind fun r22 =>
    bif r22 then (some false)
    else ((iH t69_2 t70_2 l_2 k2) (w64 (t71_2 + 1))))
    else (qM)

def qL (l_100 : aR) : Option Bool :=
    (lT l_100 l_100.Bans).bind fun r15 =>
    (bif !r15 then (some true) else ((lT l_100 l_100.Frozen).bind fun r16 =>
    some (!r16))).bind fun b17 =>
    bif b17 then (some false)
    else (iH l_100.Frozen (l_100.Frozen.length : Int) l_100 BIG 0)

def iG (t24_0 : List aD) (t25_0 : Int) (l_0 : aR) : Nat → Int → Option Bool
  | 0, _ => none
  | k0 + 1, t26_0 =>
    bif decide (t26_0 < t25_0) then ((idx t24_0 t26_0).bind fun x6 =>
    (eO x6.Id 0 99).bind fun r8 =>
    (bif !r8 then (some true) else ((eO x6.Player 0 (w64 (l_0.Players - 1))).bind fun r9 =>
    some (!r9))).bind fun b10 =>
    (bif b10 then (some true) else ((eO x6.Week 0 400).bind fun r11 =>
    some (!r11))).bind fun b12 =>
    (bif b12 then (some true) else ((eO x6.Points 0 2000).bind fun r13 =>
    some (!r13))).bind fun b14 =>
    bif b14 then (some false)
    else ((iG t24_0 t25_0 l_0 k0) (w64 (t26_0 + 1))))
    else (qL l_0)

def nR (l_0 : aR) : Option Bool :=
    (eO l_0.Players 1 16).bind fun r2 =>
    (bif !r2 then (some true) else ((eO l_0.Counts 1 20).bind fun r3 =>
    some (!r3))).bind fun b4 =>
    (bif b4 then (some true) else (some (decide (40 < (l_0.Reports.length : Int))))).bind fun b5 =>
    bif b5 then (some false)
    else (iG l_0.Reports (l_0.Reports.length : Int) l_0 BIG 0)

def eZ (s_0 : List aD) : Option ((List aD)) :=
    (app 40 ([] : List aD) s_0).bind fun x5 =>
    some x5

def fB (again0 : Int → (List aD) → Option ((List aD))) (a_101 : Int) (b_101 : Int) (cmp_101 : aD → aD → Option Int) (i_101 : Int) (data_101 : List aD) : Option ((List aD)) :=
    again0 (w64 (i_101 + 1)) data_101

def fC (again0 : Int → (List aD) → Option ((List aD))) (a_102 : Int) (b_102 : Int) (cmp_102 : aD → aD → Option Int) (i_102 : Int) (data_102 : List aD) : Option ((List aD)) :=
    fB again0 a_102 b_102 cmp_102 i_102 data_102

def cU (again0 : Int → (List aD) → Option ((List aD))) (a_2 : Int) (b_2 : Int) (cmp_2 : aD → aD → Option Int) (i_2 : Int) : Nat → Int → (List aD) → Option ((List aD))
  | 0, _, _ => none
  | k2 + 1, j_2, data_2 =>
    (bif decide (a_2 < j_2) then ((idx data_2 j_2).bind fun x1 =>
    (idx data_2 (w64 (j_2 - 1))).bind fun x2 =>
    (cmp_2 x1 x2).bind fun r3 =>
    some (decide (r3 < 0))) else (some false)).bind fun b4 =>
    bif b4 then ((idx data_2 (w64 (j_2 - 1))).bind fun x5 =>
    (idx data_2 j_2).bind fun x6 =>
    (idx data_2 j_2).bind fun x7 =>
    (idx (data_2.set j_2.toNat x5) (w64 (j_2 - 1))).bind fun x8 =>
    (cU again0 a_2 b_2 cmp_2 i_2 k2) (w64 (j_2 - 1)) ((data_2.set j_2.toNat x5).set (w64 (j_2 - 1)).toNat x6))
    else (fC again0 a_2 b_2 cmp_2 i_2 data_2)

def fA (data_100 : List aD) : Option ((List aD)) :=
    some data_100

def cK (a_0 : Int) (b_0 : Int) (cmp_0 : aD → aD → Option Int) : Nat → Int → (List aD) → Option ((List aD))
  | 0, _, _ => none
  | k0 + 1, i_0, data_0 =>
    bif decide (i_0 < b_0) then (cU (cK a_0 b_0 cmp_0 k0) a_0 b_0 cmp_0 i_0 BIG i_0 data_0)
    else (fA data_0)

def dJ (data_0 : List aD) (a_1 : Int) (b_2 : Int) (cmp_3 : aD → aD → Option Int) : Option ((List aD)) :=
    cK a_1 b_2 cmp_3 BIG (w64 (a_1 + 1)) data_0

def hZ (data_100 : List aD) : Option ((List aD)) :=
    some data_100

def dO (a_0 : Int) (b_0 : Int) (n_0 : Int) : Nat → Int → (List aD) → Option ((List aD))
  | 0, _, _ => none
  | k0 + 1, i_0, data_0 =>
    bif decide (i_0 < n_0) then ((idx data_0 (w64 (b_0 + i_0))).bind fun x1 =>
    (idx data_0 (w64 (a_0 + i_0))).bind fun x2 =>
    (idx data_0 (w64 (a_0 + i_0))).bind fun x3 =>
    (idx (data_0.set (w64 (a_0 + i_0)).toNat x1) (w64 (b_0 + i_0))).bind fun x4 =>
    (dO a_0 b_0 n_0 k0) (w64 (i_0 + 1)) ((data_0.set (w64 (a_0 + i_0)).toNat x1).set (w64 (b_0 + i_0)).toNat x2))
    else (hZ data_0)

def dZ (data_0 : List aD) (a_1 : Int) (b_2 : Int) (n_3 : Int) (cmp_4 : aD → aD → Option Int) : Option ((List aD)) :=
    dO a_1 b_2 n_3 BIG 0 data_0

def iX (m_100 : Int) (cmp_100 : aD → aD → Option Int) (i_100 : Int) (data_100 : List aD) : Option ((List aD)) :=
    (dZ data_100 (w64 (m_100 - i_100)) m_100 i_100 cmp_100).bind fun r3 =>
    some r3

def cY (m_0 : Int) (cmp_0 : aD → aD → Option Int) : Nat → Int → Int → (List aD) → Option ((List aD))
  | 0, _, _, _ => none
  | k0 + 1, i_0, j_0, data_0 =>
    bif !decide (i_0 = j_0) then (bif decide (j_0 < i_0) then ((dZ data_0 (w64 (m_0 - i_0)) m_0 j_0 cmp_0).bind fun r1 =>
    (cY m_0 cmp_0 k0) (w64 (i_0 - j_0)) j_0 r1)
    else ((dZ data_0 (w64 (m_0 - i_0)) (w64 ((w64 (m_0 + j_0)) - i_0)) i_0 cmp_0).bind fun r2 =>
    (cY m_0 cmp_0 k0) i_0 (w64 (j_0 - i_0)) r2))
    else (iX m_0 cmp_0 i_0 data_0)

def eQ (data_0 : List aD) (a_1 : Int) (m_2 : Int) (b_3 : Int) (cmp_4 : aD → aD → Option Int) : Option ((List aD)) :=
    cY m_2 cmp_4 BIG (w64 (m_2 - a_1)) (w64 (b_3 - m_2)) data_0

def iK (againR : (List aD) → Int → Int → Int → Option ((List aD))) (data_102 : List aD) : Option ((List aD)) :=
    some data_102

def dS (againR : (List aD) → Int → Int → Int → Option ((List aD))) (i_2 : Int) : Nat → Int → (List aD) → Option ((List aD))
  | 0, _, _ => none
  | k2 + 1, k_2, data_2 =>
    bif decide (k_2 < (w64 (i_2 - 1))) then ((idx data_2 (w64 (k_2 + 1))).bind fun x4 =>
    (idx data_2 k_2).bind fun x5 =>
    (idx data_2 k_2).bind fun x6 =>
    (idx (data_2.set k_2.toNat x4) (w64 (k_2 + 1))).bind fun x7 =>
    (dS againR i_2 k2) (w64 (k_2 + 1)) ((data_2.set k_2.toNat x4).set (w64 (k_2 + 1)).toNat x5))
    else (iK againR data_2)

def fX (againR : (List aD) → Int → Int → Int → Option ((List aD))) (a_100 : Int) (i_100 : Int) (data_100 : List aD) : Option ((List aD)) :=
    dS againR i_100 BIG a_100 data_100

def cQ (againR : (List aD) → Int → Int → Int → Option ((List aD))) (a_0 : Int) (cmp_0 : aD → aD → Option Int) (data_0 : List aD) : Nat → Int → Int → Option ((List aD))
  | 0, _, _ => none
  | k0 + 1, i_0, j_0 =>
    bif decide (i_0 < j_0) then ((idx data_0 (w64 ((IntKind.u64.wrap (w64 (i_0 + j_0))).fdiv (2 ^ (min (1 : Int).toNat 64))))).bind fun x1 =>
    (idx data_0 a_0).bind fun x2 =>
    (cmp_0 x1 x2).bind fun r3 =>
    bif decide (r3 < 0) then ((cQ againR a_0 cmp_0 data_0 k0) (w64 ((w64 ((IntKind.u64.wrap (w64 (i_0 + j_0))).fdiv (2 ^ (min (1 : Int).toNat 64)))) + 1)) j_0)
    else ((cQ againR a_0 cmp_0 data_0 k0) i_0 (w64 ((IntKind.u64.wrap (w64 (i_0 + j_0))).fdiv (2 ^ (min (1 : Int).toNat 64))))))
    else (fX againR a_0 i_0 data_0)

def iL (againR : (List aD) → Int → Int → Int → Option ((List aD))) (data_106 : List aD) : Option ((List aD)) :=
    some data_106

def dT (againR : (List aD) → Int → Int → Int → Option ((List aD))) (i_6 : Int) : Nat → Int → (List aD) → Option ((List aD))
  | 0, _, _ => none
  | k6 + 1, k_6, data_6 =>
    bif decide (i_6 < k_6) then ((idx data_6 (w64 (k_6 - 1))).bind fun x11 =>
    (idx data_6 k_6).bind fun x12 =>
    (idx data_6 k_6).bind fun x13 =>
    (idx (data_6.set k_6.toNat x11) (w64 (k_6 - 1))).bind fun x14 =>
    (dT againR i_6 k6) (w64 (k_6 - 1)) ((data_6.set k_6.toNat x11).set (w64 (k_6 - 1)).toNat x12))
    else (iL againR data_6)

def fY (againR : (List aD) → Int → Int → Int → Option ((List aD))) (m_104 : Int) (i_104 : Int) (data_104 : List aD) : Option ((List aD)) :=
    dT againR i_104 BIG m_104 data_104

def cR (againR : (List aD) → Int → Int → Int → Option ((List aD))) (m_4 : Int) (cmp_4 : aD → aD → Option Int) (data_4 : List aD) : Nat → Int → Int → Option ((List aD))
  | 0, _, _ => none
  | k4 + 1, i_4, j_4 =>
    bif decide (i_4 < j_4) then ((idx data_4 m_4).bind fun x8 =>
    (idx data_4 (w64 ((IntKind.u64.wrap (w64 (i_4 + j_4))).fdiv (2 ^ (min (1 : Int).toNat 64))))).bind fun x9 =>
    (cmp_4 x8 x9).bind fun r10 =>
    bif !(decide (r10 < 0)) then ((cR againR m_4 cmp_4 data_4 k4) (w64 ((w64 ((IntKind.u64.wrap (w64 (i_4 + j_4))).fdiv (2 ^ (min (1 : Int).toNat 64)))) + 1)) j_4)
    else ((cR againR m_4 cmp_4 data_4 k4) i_4 (w64 ((IntKind.u64.wrap (w64 (i_4 + j_4))).fdiv (2 ^ (min (1 : Int).toNat 64))))))
    else (fY againR m_4 i_4 data_4)

def dC (againR : (List aD) → Int → Int → Int → Option ((List aD))) (a_108 : Int) (m_108 : Int) (b_108 : Int) (cmp_108 : aD → aD → Option Int) (mid_108 : Int) (n_108 : Int) (start_108 : Int) (data_108 : List aD) : Option ((List aD)) :=
    (bif decide (start_108 < m_108) then (some (decide (m_108 < (w64 (n_108 - start_108))))) else (some false)).bind fun b18 =>
    bif b18 then ((eQ data_108 start_108 m_108 (w64 (n_108 - start_108)) cmp_108).bind fun r19 =>
    (bif decide (a_108 < start_108) then (some (decide (start_108 < mid_108))) else (some false)).bind fun b20 =>
    bif b20 then ((againR r19 a_108 start_108 mid_108).bind fun r21 =>
    (bif decide (mid_108 < (w64 (n_108 - start_108))) then (some (decide ((w64 (n_108 - start_108)) < b_108))) else (some false)).bind fun b22 =>
    bif b22 then ((againR r21 mid_108 (w64 (n_108 - start_108)) b_108).bind fun r23 =>
    some r23)
    else (some r21))
    else ((bif decide (mid_108 < (w64 (n_108 - start_108))) then (some (decide ((w64 (n_108 - start_108)) < b_108))) else (some false)).bind fun b24 =>
    bif b24 then ((againR r19 mid_108 (w64 (n_108 - start_108)) b_108).bind fun r25 =>
    some r25)
    else (some r19)))
    else ((bif decide (a_108 < start_108) then (some (decide (start_108 < mid_108))) else (some false)).bind fun b26 =>
    bif b26 then ((againR data_108 a_108 start_108 mid_108).bind fun r27 =>
    (bif decide (mid_108 < (w64 (n_108 - start_108))) then (some (decide ((w64 (n_108 - start_108)) < b_108))) else (some false)).bind fun b28 =>
    bif b28 then ((againR r27 mid_108 (w64 (n_108 - start_108)) b_108).bind fun r29 =>
    some r29)
    else (some r27))
    else ((bif decide (mid_108 < (w64 (n_108 - start_108))) then (some (decide ((w64 (n_108 - start_108)) < b_108))) else (some false)).bind fun b30 =>
    bif b30 then ((againR data_108 mid_108 (w64 (n_108 - start_108)) b_108).bind fun r31 =>
    some r31)
    else (some data_108)))

def cC (againR : (List aD) → Int → Int → Int → Option ((List aD))) (a_8 : Int) (m_8 : Int) (b_8 : Int) (cmp_8 : aD → aD → Option Int) (mid_8 : Int) (n_8 : Int) (p_8 : Int) (data_8 : List aD) : Nat → Int → Int → Option ((List aD))
  | 0, _, _ => none
  | k8 + 1, start_8, r_8 =>
    bif decide (start_8 < r_8) then ((idx data_8 (w64 (p_8 - (w64 ((IntKind.u64.wrap (w64 (start_8 + r_8))).fdiv (2 ^ (min (1 : Int).toNat 64))))))).bind fun x15 =>
    (idx data_8 (w64 ((IntKind.u64.wrap (w64 (start_8 + r_8))).fdiv (2 ^ (min (1 : Int).toNat 64))))).bind fun x16 =>
    (cmp_8 x15 x16).bind fun r17 =>
    bif !(decide (r17 < 0)) then ((cC againR a_8 m_8 b_8 cmp_8 mid_8 n_8 p_8 data_8 k8) (w64 ((w64 ((IntKind.u64.wrap (w64 (start_8 + r_8))).fdiv (2 ^ (min (1 : Int).toNat 64)))) + 1)) r_8)
    else ((cC againR a_8 m_8 b_8 cmp_8 mid_8 n_8 p_8 data_8 k8) start_8 (w64 ((IntKind.u64.wrap (w64 (start_8 + r_8))).fdiv (2 ^ (min (1 : Int).toNat 64))))))
    else (dC againR a_8 m_8 b_8 cmp_8 mid_8 n_8 start_8 data_8)

def bM (cmp_4 : aD → aD → Option Int) : Nat → (List aD) → Int → Int → Int → Option ((List aD))
  | 0, _, _, _, _ => none
  | kr + 1, data_0, a_1, m_2, b_3 =>
    bif decide ((w64 (m_2 - a_1)) = 1) then (cQ (bM cmp_4 kr) a_1 cmp_4 data_0 BIG m_2 b_3)
    else (bif decide ((w64 (b_3 - m_2)) = 1) then (cR (bM cmp_4 kr) m_2 cmp_4 data_0 BIG a_1 m_2)
    else (bif decide ((w64 ((IntKind.u64.wrap (w64 (a_1 + b_3))).fdiv (2 ^ (min (1 : Int).toNat 64)))) < m_2) then (cC (bM cmp_4 kr) a_1 m_2 b_3 cmp_4 (w64 ((IntKind.u64.wrap (w64 (a_1 + b_3))).fdiv (2 ^ (min (1 : Int).toNat 64)))) (w64 ((w64 ((IntKind.u64.wrap (w64 (a_1 + b_3))).fdiv (2 ^ (min (1 : Int).toNat 64)))) + m_2)) (w64 ((w64 ((w64 ((IntKind.u64.wrap (w64 (a_1 + b_3))).fdiv (2 ^ (min (1 : Int).toNat 64)))) + m_2)) - 1)) data_0 BIG (w64 ((w64 ((w64 ((IntKind.u64.wrap (w64 (a_1 + b_3))).fdiv (2 ^ (min (1 : Int).toNat 64)))) + m_2)) - b_3)) (w64 ((IntKind.u64.wrap (w64 (a_1 + b_3))).fdiv (2 ^ (min (1 : Int).toNat 64)))))
    else (cC (bM cmp_4 kr) a_1 m_2 b_3 cmp_4 (w64 ((IntKind.u64.wrap (w64 (a_1 + b_3))).fdiv (2 ^ (min (1 : Int).toNat 64)))) (w64 ((w64 ((IntKind.u64.wrap (w64 (a_1 + b_3))).fdiv (2 ^ (min (1 : Int).toNat 64)))) + m_2)) (w64 ((w64 ((w64 ((IntKind.u64.wrap (w64 (a_1 + b_3))).fdiv (2 ^ (min (1 : Int).toNat 64)))) + m_2)) - 1)) data_0 BIG a_1 m_2)))

def gJ (data_0 : List aD) (a_1 : Int) (m_2 : Int) (b_3 : Int) (cmp_4 : aD → aD → Option Int) : Option ((List aD)) := bM cmp_4 BIG data_0 a_1 m_2 b_3

def fE (again2 : Int → (List aD) → Option ((List aD))) (n_103 : Int) (cmp_103 : aD → aD → Option Int) (blockSize_103 : Int) (data_103 : List aD) : Option ((List aD)) :=
    again2 blockSize_103 data_103

def jA (again2 : Int → (List aD) → Option ((List aD))) (n_104 : Int) (cmp_104 : aD → aD → Option Int) (blockSize_104 : Int) (a_104 : Int) (data_104 : List aD) : Option ((List aD)) :=
    bif decide ((w64 (a_104 + blockSize_104)) < n_104) then ((gJ data_104 a_104 (w64 (a_104 + blockSize_104)) n_104 cmp_104).bind fun r4 =>
    fE again2 n_104 cmp_104 (w64 (blockSize_104 * 2)) r4)
    else (fE again2 n_104 cmp_104 (w64 (blockSize_104 * 2)) data_104)

def dY (again2 : Int → (List aD) → Option ((List aD))) (n_4 : Int) (cmp_4 : aD → aD → Option Int) (blockSize_4 : Int) : Nat → Int → Int → (List aD) → Option ((List aD))
  | 0, _, _, _ => none
  | k4 + 1, a_4, b_4, data_4 =>
    bif decide (b_4 ≤ n_4) then ((gJ data_4 a_4 (w64 (a_4 + blockSize_4)) b_4 cmp_4).bind fun r3 =>
    (dY again2 n_4 cmp_4 blockSize_4 k4) b_4 (w64 (b_4 + (w64 (2 * blockSize_4)))) r3)
    else (jA again2 n_4 cmp_4 blockSize_4 a_4 data_4)

def iZ (data_102 : List aD) : Option ((List aD)) :=
    some data_102

def cZ (n_2 : Int) (cmp_2 : aD → aD → Option Int) : Nat → Int → (List aD) → Option ((List aD))
  | 0, _, _ => none
  | k2 + 1, blockSize_2, data_2 =>
    bif decide (blockSize_2 < n_2) then (dY (cZ n_2 cmp_2 k2) n_2 cmp_2 blockSize_2 BIG 0 (w64 (2 * blockSize_2)) data_2)
    else (iZ data_2)

def iY (n_100 : Int) (cmp_100 : aD → aD → Option Int) (blockSize_100 : Int) (a_100 : Int) (data_100 : List aD) : Option ((List aD)) :=
    (dJ data_100 a_100 n_100 cmp_100).bind fun r2 =>
    cZ n_100 cmp_100 BIG blockSize_100 r2

def dX (n_0 : Int) (cmp_0 : aD → aD → Option Int) (blockSize_0 : Int) : Nat → Int → Int → (List aD) → Option ((List aD))
  | 0, _, _, _ => none
  | k0 + 1, a_0, b_0, data_0 =>
    bif decide (b_0 ≤ n_0) then ((dJ data_0 a_0 b_0 cmp_0).bind fun r1 =>
    (dX n_0 cmp_0 blockSize_0 k0) b_0 (w64 (b_0 + blockSize_0)) r1)
    else (iY n_0 cmp_0 blockSize_0 a_0 data_0)

def gP (data_0 : List aD) (n_1 : Int) (cmp_2 : aD → aD → Option Int) : Option ((List aD)) :=
    dX n_1 cmp_2 20 BIG 0 20 data_0

def eJ (x_0 : List aD) (cmp_1 : aD → aD → Option Int) : Option ((List aD)) :=
    (gP x_0 (x_0.length : Int) cmp_1).bind fun r1 =>
    some r1

def nW (a_0 : aD) (b_1 : aD) : Option Int :=
    some (w64 (a_0.Id - b_1.Id))

def kO (again0 : Int → (List aD) → Option ((List aD))) (k_102 : Int) (s_102 : List aD) : Option ((List aD)) :=
    (chk (decide (0 ≤ k_102) && decide (k_102 ≤ (s_102.length : Int)))).bind fun u9 =>
    (chk (decide (k_102.toNat ≤ s_102.length))).bind fun u10 =>
    (chk (decide (0 ≤ k_102))).bind fun u11 =>
    some (s_102.take k_102.toNat)

def eE (again0 : Int → (List aD) → Option ((List aD))) (s2_2 : Int) : Nat → Int → Int → (List aD) → Option ((List aD))
  | 0, _, _, _ => none
  | k2 + 1, k_2, k2_2, s_2 =>
    bif decide (k2_2 < ((s_2.drop s2_2.toNat).length : Int)) then ((idx (s_2.drop s2_2.toNat) k2_2).bind fun x5 =>
    (idx (s_2.drop s2_2.toNat) (w64 (k2_2 - 1))).bind fun x6 =>
    bif !decide (x5 = x6) then ((idx (s_2.drop s2_2.toNat) k2_2).bind fun x7 =>
    (idx s_2 k_2).bind fun x8 =>
    (eE again0 s2_2 k2) (w64 (k_2 + 1)) (w64 (k2_2 + 1)) (s_2.set k_2.toNat x7))
    else ((eE again0 s2_2 k2) k_2 (w64 (k2_2 + 1)) s_2))
    else (kO again0 k_2 s_2)

def kN (again0 : Int → (List aD) → Option ((List aD))) (k_101 : Int) (s_101 : List aD) : Option ((List aD)) :=
    again0 (w64 (k_101 + 1)) s_101

def kM (s_100 : List aD) : Option ((List aD)) :=
    some s_100

def dI : Nat → Int → (List aD) → Option ((List aD))
  | 0, _, _ => none
  | k0 + 1, k_0, s_0 =>
    bif decide (k_0 < (s_0.length : Int)) then ((idx s_0 k_0).bind fun x2 =>
    (idx s_0 (w64 (k_0 - 1))).bind fun x3 =>
    bif decide (x2 = x3) then ((chk (decide (0 ≤ k_0) && decide (k_0 ≤ (s_0.length : Int)))).bind fun u4 =>
    eE (dI k0) k_0 BIG k_0 1 s_0)
    else (kN (dI k0) k_0 s_0))
    else (kM s_0)

def hG (s_0 : List aD) : Option ((List aD)) :=
    bif decide ((s_0.length : Int) < 2) then (some s_0)
    else (dI BIG 1 s_0)

def tT (o7_100 : List aD) : Option ((List aD) × Bool) :=
    some (o7_100, true)

def gN (o7_0 : List aD) : Nat → Int → Option ((List aD) × Bool)
  | 0, _ => none
  | k0 + 1, i_0 =>
    bif decide (i_0 < (o7_0.length : Int)) then ((idx o7_0 i_0).bind fun x9 =>
    (idx o7_0 (w64 (i_0 - 1))).bind fun x10 =>
    bif decide (x9.Id = x10.Id) then (some (([] : List aD), false))
    else ((gN o7_0 k0) (w64 (i_0 + 1))))
    else (tT o7_0)

def mM (all_0 : List aD) : Option ((List aD) × Bool) :=
    (eZ all_0).bind fun r2 =>
    (eJ r2 (fun y4 y5 => nW y4 y5)).bind fun r6 =>
    (hG r6).bind fun r7 =>
    gN r7 BIG 1

def qX (l_0 : aR) : Option Int :=
    (nR l_0).bind fun r2 =>
    bif !r2 then (some 40)
    else ((mM l_0.Reports).bind fun r3 =>
    bif !r3.2 then (some 41)
    else (some 0))

def sJ (l_0 : aR) : Option ((Option cB) × Int) :=
    (qX l_0).bind fun r2 =>
    bif !decide (r2 = 0) then (some (none, r2))
    else ((mM l_0.Reports).bind fun r3 =>
    some (some (cB.mk (aR.mk l_0.Players l_0.Counts r3.1 l_0.Bans l_0.Frozen)), 0))

def nM (l_0 : aR) (player_1 : Int) (week_2 : Int) : Option ((Option cB) × Int) :=
    (sJ l_0).bind fun r2 =>
    tO r2.1 (bif !decide (r2.2 = 0) then (some (none, r2.2))
    else ((eO player_1 0 (w64 (l_0.Players - 1))).bind fun r6 =>
    (bif !r6 then (some true) else ((eO week_2 0 400).bind fun r7 =>
    some (!r7))).bind fun b8 =>
    bif b8 then (some (none, 1))
    else (some (none, 0)))) fun y3 =>
    bif !decide (r2.2 = 0) then (some (none, r2.2))
    else ((eO player_1 0 (w64 (l_0.Players - 1))).bind fun r9 =>
    (bif !r9 then (some true) else ((eO week_2 0 400).bind fun r10 =>
    some (!r10))).bind fun b11 =>
    bif b11 then (some (none, 1))
    else (some (some y3, 0)))

def qK (n_100 : Int) : Option Int :=
    some n_100

def iF (week_0 : Int) (t18_0 : List bD) (t19_0 : Int) (r_0 : aD) : Nat → Int → Int → Option Int
  | 0, _, _ => none
  | k0 + 1, n_0, t20_0 =>
    bif decide (t20_0 < t19_0) then ((idx t18_0 t20_0).bind fun x2 =>
    bif decide (x2.Player = r_0.Player) then ((iF week_0 t18_0 t19_0 r_0 k0) (w64 (n_0 - (max 0 (w64 ((w64 ((min x2.To week_0) - (max x2.From (w64 (r_0.Week + 1))))) + 1))))) (w64 (t20_0 + 1)))
    else ((iF week_0 t18_0 t19_0 r_0 k0) n_0 (w64 (t20_0 + 1))))
    else (qK n_0)

def mD (b_0 : cB) (r_1 : aD) (week_2 : Int) : Option Int :=
    iF week_2 b_0.Ledger.Frozen (b_0.Ledger.Frozen.length : Int) r_1 BIG (w64 (week_2 - r_1.Week)) 0

def pS (a_0 : bD) (c_1 : Int) (c_2 : Int) : Option Bool :=
    (bif decide (a_0.Player = c_1) then ((eO c_2 a_0.From a_0.To).bind fun r2 =>
    some r2) else (some false)).bind fun b3 =>
    some b3

def mK (all_0 : List bD) (player_1 : Int) (week_2 : Int) : Option Bool :=
    (eF all_0 (fun y3 => pS y3 player_1 week_2)).bind fun r4 =>
    some r4

def oP (out_100 : List aD) : Option ((List aD)) :=
    some out_100

def gK (b_0 : cB) (player_0 : Int) (week_0 : Int) (t14_0 : List aD) (t15_0 : Int) : Nat → Int → (List aD) → Option ((List aD))
  | 0, _, _ => none
  | k0 + 1, t16_0, out_0 =>
    bif decide (t16_0 < t15_0) then ((idx t14_0 t16_0).bind fun x2 =>
    (bif decide (x2.Player = player_0) then (some (decide (x2.Week ≤ week_0))) else (some false)).bind fun b4 =>
    (bif b4 then ((mD b_0 x2 week_0).bind fun r5 =>
    some (decide (r5 < 52))) else (some false)).bind fun b6 =>
    (bif b6 then ((mK b_0.Ledger.Bans player_0 x2.Week).bind fun r7 =>
    some (!r7)) else (some false)).bind fun b8 =>
    bif b8 then ((app 40 out_0 ([x2])).bind fun x9 =>
    (gK b_0 player_0 week_0 t14_0 t15_0 k0) (w64 (t16_0 + 1)) x9)
    else ((gK b_0 player_0 week_0 t14_0 t15_0 k0) (w64 (t16_0 + 1)) out_0))
    else (oP out_0)

def jS (b_0 : cB) (player_1 : Int) (week_2 : Int) : Option ((List aD)) :=
    gK b_0 player_1 week_2 b_0.Ledger.Reports (b_0.Ledger.Reports.length : Int) BIG 0 ([] : List aD)

def sQ (zero_100 : Int) : Option Int :=
    some zero_100

def lF (zero_0 : Int) (t6_0 : List Int) (t7_0 : Int) : Nat → Int → Option Int
  | 0, _ => none
  | k0 + 1, t8_0 =>
    bif decide (t8_0 < t7_0) then ((idx t6_0 t8_0).bind fun x1 =>
    bif !decide (x1 = zero_0) then (some x1)
    else ((lF zero_0 t6_0 t7_0 k0) (w64 (t8_0 + 1))))
    else (sQ zero_0)

def oV (vals_0 : List Int) : Option Int :=
    lF 0 vals_0 (vals_0.length : Int) BIG 0

def jX (x_0 : aD) (y_1 : aD) : Option Int :=
    (bif !decide (x_0.Must = y_1.Must) then (some x_0.Must) else (some false)).bind fun b3 =>
    bif b3 then (some (-1))
    else (bif !decide (x_0.Must = y_1.Must) then (some 1)
    else ((oV ([w64 (y_1.Points - x_0.Points), w64 (x_0.Id - y_1.Id)])).bind fun r4 =>
    some r4))

def kY (b_100 : cB) (musts_100 : Int) (o10_100 : List aD) : Option ((List aD)) :=
    (sub o10_100 0 (min (o10_100.length : Int) (max musts_100 b_100.Ledger.Counts))).bind fun x8 =>
    some x8

def fW (b_0 : cB) (t14_0 : Int) (o10_0 : List aD) : Nat → Int → Int → Option ((List aD))
  | 0, _, _ => none
  | k0 + 1, musts_0, t15_0 =>
    bif decide (t15_0 < t14_0) then ((idx o10_0 t15_0).bind fun x6 =>
    bif x6.Must then ((fW b_0 t14_0 o10_0 k0) (w64 (musts_0 + 1)) (w64 (t15_0 + 1)))
    else ((fW b_0 t14_0 o10_0 k0) musts_0 (w64 (t15_0 + 1))))
    else (kY b_0 musts_0 o10_0)

def jT (b_0 : cB) (all_1 : List aD) : Option ((List aD)) :=
    (eZ all_1).bind fun r1 =>
    (eJ r1 (fun y3 y4 => jX y3 y4)).bind fun r5 =>
    fW b_0 (r5.length : Int) r5 BIG 0 0

def uQ (n_100 : Int) : Option Int :=
    some n_100

def nC (t5_0 : List aD) (t6_0 : Int) : Nat → Int → Int → Option Int
  | 0, _, _ => none
  | k0 + 1, n_0, t7_0 =>
    bif decide (t7_0 < t6_0) then ((idx t5_0 t7_0).bind fun x1 =>
    (nC t5_0 t6_0 k0) (w64 (n_0 + x1.Points)) (w64 (t7_0 + 1)))
    else (uQ n_0)

def rW (l_0 : List aD) : Option Int :=
    nC l_0 (l_0.length : Int) BIG 0 0

def pY (x : Int) : Option Int := xP x

def fG (again0 : Int → (List bC) → Option ((List bC))) (a_101 : Int) (b_101 : Int) (cmp_101 : bC → bC → Option Int) (i_101 : Int) (data_101 : List bC) : Option ((List bC)) :=
    again0 (w64 (i_101 + 1)) data_101

def fH (again0 : Int → (List bC) → Option ((List bC))) (a_102 : Int) (b_102 : Int) (cmp_102 : bC → bC → Option Int) (i_102 : Int) (data_102 : List bC) : Option ((List bC)) :=
    fG again0 a_102 b_102 cmp_102 i_102 data_102

def cX (again0 : Int → (List bC) → Option ((List bC))) (a_2 : Int) (b_2 : Int) (cmp_2 : bC → bC → Option Int) (i_2 : Int) : Nat → Int → (List bC) → Option ((List bC))
  | 0, _, _ => none
  | k2 + 1, j_2, data_2 =>
    (bif decide (a_2 < j_2) then ((idx data_2 j_2).bind fun x1 =>
    (idx data_2 (w64 (j_2 - 1))).bind fun x2 =>
    (cmp_2 x1 x2).bind fun r3 =>
    some (decide (r3 < 0))) else (some false)).bind fun b4 =>
    bif b4 then ((idx data_2 (w64 (j_2 - 1))).bind fun x5 =>
    (idx data_2 j_2).bind fun x6 =>
    (idx data_2 j_2).bind fun x7 =>
    (idx (data_2.set j_2.toNat x5) (w64 (j_2 - 1))).bind fun x8 =>
    (cX again0 a_2 b_2 cmp_2 i_2 k2) (w64 (j_2 - 1)) ((data_2.set j_2.toNat x5).set (w64 (j_2 - 1)).toNat x6))
    else (fH again0 a_2 b_2 cmp_2 i_2 data_2)

def fF (data_100 : List bC) : Option ((List bC)) :=
    some data_100

def cL (a_0 : Int) (b_0 : Int) (cmp_0 : bC → bC → Option Int) : Nat → Int → (List bC) → Option ((List bC))
  | 0, _, _ => none
  | k0 + 1, i_0, data_0 =>
    bif decide (i_0 < b_0) then (cX (cL a_0 b_0 cmp_0 k0) a_0 b_0 cmp_0 i_0 BIG i_0 data_0)
    else (fF data_0)

def dN (data_0 : List bC) (a_1 : Int) (b_2 : Int) (cmp_3 : bC → bC → Option Int) : Option ((List bC)) :=
    cL a_1 b_2 cmp_3 BIG (w64 (a_1 + 1)) data_0

def gE (cmp_0 : bC → bC → Option Int) : Nat → Int → Int → Int → Bool → Bool → (List bC) → Option ((List bC))
  | 0, _, _, _, _, _, _ => none
  | k0 + 1, a_0, b_0, limit_0, wasBalanced_0, wasPartitioned_0, data_0 =>
    bif decide ((w64 (b_0 - a_0)) ≤ 12) then ((dN data_0 a_0 b_0 cmp_0).bind fun r1 =>
    some r1)
    else (none)

def gO (data_0 : List bC) (a_1 : Int) (b_2 : Int) (limit_3 : Int) (cmp_4 : bC → bC → Option Int) : Option ((List bC)) :=
    gE cmp_4 BIG a_1 b_2 limit_3 true true data_0

def hO (x_0 : List bC) (cmp_1 : bC → bC → Option Int) : Option ((List bC)) :=
    (pY (IntKind.u64.wrap (x_0.length : Int))).bind fun r1 =>
    (gO x_0 0 (x_0.length : Int) r1 cmp_1).bind fun r2 =>
    some r2

def jY (x_0 : bC) (y_1 : bC) : Option Int :=
    (oV ([w64 (y_1.points - x_0.points), w64 (y_1.musts - x_0.musts), w64 (x_0.many - y_1.many), w64 (x_0.player - y_1.player)])).bind fun r3 =>
    some r3

def jW (again0 : Int → (List bC) → Option ((List Int))) (b_101 : cB) (week_101 : Int) (t18_101 : Int) (t19_101 : Int) (lines_101 : List bC) : Option ((List Int)) :=
    again0 (w64 (t19_101 + 1)) lines_101

def nF (again0 : Int → (List bC) → Option ((List Int))) (b_102 : cB) (week_102 : Int) (t18_102 : Int) (t19_102 : Int) (lines_102 : List bC) (x_102 : bC) : Option ((List Int)) :=
    (app 32 lines_102 ([x_102])).bind fun x10 =>
    jW again0 b_102 week_102 t18_102 t19_102 x10

def gU (again0 : Int → (List bC) → Option ((List Int))) (b_2 : cB) (week_2 : Int) (t18_2 : Int) (t19_2 : Int) (t47_2 : List aD) (t48_2 : Int) (lines_2 : List bC) : Nat → Int → bC → Option ((List Int))
  | 0, _, _ => none
  | k2 + 1, t49_2, x_2 =>
    bif decide (t49_2 < t48_2) then ((idx t47_2 t49_2).bind fun x8 =>
    bif x8.Must then ((gU again0 b_2 week_2 t18_2 t19_2 t47_2 t48_2 lines_2 k2) (w64 (t49_2 + 1)) (bC.mk x_2.player x_2.points (w64 (x_2.musts + x8.Points)) x_2.many))
    else ((gU again0 b_2 week_2 t18_2 t19_2 t47_2 t48_2 lines_2 k2) (w64 (t49_2 + 1)) x_2))
    else (nF again0 b_2 week_2 t18_2 t19_2 lines_2 x_2)

def pK (out_104 : List Int) : Option ((List Int)) :=
    some out_104

def iW (t70_4 : Int) (lines_4 : List bC) : Nat → Int → (List Int) → Option ((List Int))
  | 0, _, _ => none
  | k4 + 1, t71_4, out_4 =>
    bif decide (t71_4 < t70_4) then ((idx lines_4 t71_4).bind fun x16 =>
    (app 8 out_4 ([x16.player])).bind fun x18 =>
    (iW t70_4 lines_4 k4) (w64 (t71_4 + 1)) x18)
    else (pK out_4)

def lI (lines_100 : List bC) : Option ((List Int)) :=
    (hO lines_100 (fun y12 y13 => jY y12 y13)).bind fun r14 =>
    iW (r14.length : Int) r14 BIG 0 ([] : List Int)

def fD (b_0 : cB) (week_0 : Int) (t18_0 : Int) : Nat → Int → (List bC) → Option ((List Int))
  | 0, _, _ => none
  | k0 + 1, t19_0, lines_0 =>
    bif decide (t19_0 < t18_0) then ((jS b_0 t19_0 week_0).bind fun r2 =>
    (mK b_0.Ledger.Bans t19_0 week_0).bind fun r3 =>
    (bif r3 then (some true) else (some (decide ((r2.length : Int) = 0)))).bind fun b4 =>
    bif b4 then (jW (fD b_0 week_0 t18_0 k0) b_0 week_0 t18_0 t19_0 lines_0)
    else ((jT b_0 r2).bind fun r5 =>
    (rW r5).bind fun r6 =>
    gU (fD b_0 week_0 t18_0 k0) b_0 week_0 t18_0 t19_0 r2 (r2.length : Int) lines_0 BIG 0 (bC.mk t19_0 r6 0 (r2.length : Int))))
    else (lI lines_0)

def gG (b_0 : cB) (week_1 : Int) : Option ((List Int)) :=
    fD b_0 week_1 b_0.Ledger.Players BIG 0 ([] : List bC)

def xE (l_0 : aR) (week_1 : Int) : Option ((List Int) × Int) :=
    (nM l_0 0 week_1).bind fun r2 =>
    tO r2.1 (bif !decide (r2.2 = 0) then (some (([] : List Int), r2.2))
    else (none)) fun y3 =>
    bif !decide (r2.2 = 0) then (some (([] : List Int), r2.2))
    else ((gG y3 week_1).bind fun r6 =>
    some (r6, 0))

def pE : Option Int :=
    some (-1)

def kC (s_0 : List Int) (f_0 : Int → Option Bool) (t7_0 : Int) : Nat → Int → Option Int
  | 0, _ => none
  | k0 + 1, t8_0 =>
    bif decide (t8_0 < t7_0) then ((idx s_0 t8_0).bind fun x1 =>
    (f_0 x1).bind fun r2 =>
    bif r2 then (some t8_0)
    else ((kC s_0 f_0 t7_0 k0) (w64 (t8_0 + 1))))
    else (pE)

def nN (s_0 : List Int) (f_1 : Int → Option Bool) : Option Int :=
    kC s_0 f_1 (s_0.length : Int) BIG 0

def kB (s_0 : List Int) (f_1 : Int → Option Bool) : Option Bool :=
    (nN s_0 f_1).bind fun r1 =>
    some (decide (0 ≤ r1))

def qY (n_0 : Int) : Option Bool :=
    (eO n_0 0 2000).bind fun r1 =>
    some (!r1)

def rO : Option Int :=
    some (-1)

def mA (s_0 : List Int) (v_0 : Int) (t7_0 : Int) : Nat → Int → Option Int
  | 0, _ => none
  | k0 + 1, t8_0 =>
    bif decide (t8_0 < t7_0) then ((idx s_0 t8_0).bind fun x1 =>
    bif decide (v_0 = x1) then (some t8_0)
    else ((mA s_0 v_0 t7_0 k0) (w64 (t8_0 + 1))))
    else (rO)

def qN (s_0 : List Int) (v_1 : Int) : Option Int :=
    mA s_0 v_1 (s_0.length : Int) BIG 0

def rC (b_0 : cB) (player_1 : Int) (week_2 : Int) : Option Int :=
    (gG b_0 week_2).bind fun r1 =>
    (qN r1 player_1).bind fun r2 =>
    some (w64 (r2 + 1))

def tQ (book : cB) (pl : Int) (wk : Int) (ms : Bool) (be : Int) (wo : Int) : Option (Bool × Int × Int) :=
    (rC book pl wk).bind fun r1 =>
    (bif ms then (some true) else (some (decide (r1 = 0)))).bind fun b2 =>
    some (b2, min be r1, max wo r1)

def rI (n_1 : Int) : Option ((List Int)) :=
    bif decide (n_1 < 0) then (none)
    else (bif decide (0 < (w64 (n_1 - (w64 (0 - 0))))) then ((chk (decide (0 ≤ 0))).bind fun u2 =>
    (chk (decide (0 < (w64 (n_1 - (w64 (0 - 0))))) && decide ((w64 (n_1 - (w64 (0 - 0)))) * ((8 : Nat) : Int) ≤ 140737488355328))).bind fun u3 =>
    (chk (decide (0 ≤ 0))).bind fun u5 =>
    some ([] : List Int))
    else (some ([] : List Int)))

def rG (o24_102 : List Int) : Option ((List Int)) :=
    some o24_102

def lO (t25_2 : List (List Int)) (t26_2 : Int) : Nat → Int → (List Int) → Option ((List Int))
  | 0, _, _ => none
  | k2 + 1, t27_2, o24_2 =>
    bif decide (t27_2 < t26_2) then ((idx t25_2 t27_2).bind fun x4 =>
    (app 8 o24_2 x4).bind fun x5 =>
    (lO t25_2 t26_2 k2) (w64 (t27_2 + 1)) x5)
    else (rG o24_2)

def rF (slices_100 : List (List Int)) (size_100 : Int) : Option ((List Int)) :=
    (rI size_100).bind fun r2 =>
    lO slices_100 (slices_100.length : Int) BIG 0 r2

def lN (slices_0 : List (List Int)) (t9_0 : List (List Int)) (t10_0 : Int) : Nat → Int → Int → Option ((List Int))
  | 0, _, _ => none
  | k0 + 1, size_0, t11_0 =>
    bif decide (t11_0 < t10_0) then ((idx t9_0 t11_0).bind fun x1 =>
    bif decide ((w64 (size_0 + (x1.length : Int))) < 0) then (none)
    else ((lN slices_0 t9_0 t10_0 k0) (w64 (size_0 + (x1.length : Int))) (w64 (t11_0 + 1))))
    else (rF slices_0 size_0)

def pM (slices_0 : List (List Int)) : Option ((List Int)) :=
    lN slices_0 slices_0 (slices_0.length : Int) BIG 0 0

def rB (againR : cB → Int → Int → Bool → Int → Int → Int → (List Int) → (List Int) → Option (cB × Bool × Int × Int)) (many_100 : Int) (b_100 : cB) (b_100_2 : Int) (b_100_3 : Int) (b_100_4 : Bool) (b_100_5 : Int) (b_100_6 : Int) : Option (cB × Bool × Int × Int) :=
    (sub b_100.Ledger.Reports 0 many_100).bind fun x12 =>
    some ((cB.mk (aR.mk b_100.Ledger.Players b_100.Ledger.Counts x12 b_100.Ledger.Bans b_100.Ledger.Frozen)), b_100_4, b_100_5, b_100_6)

def lL (againR : cB → Int → Int → Bool → Int → Int → Int → (List Int) → (List Int) → Option (cB × Bool × Int × Int)) (week_0 : Int) (prizes_0 : List Int) (free_0 : List Int) (many_0 : Int) (t29_0 : List Int) (t30_0 : Int) (b_0_2 : Int) (b_0_3 : Int) : Nat → Int → cB → Bool → Int → Int → Option (cB × Bool × Int × Int)
  | 0, _, _, _, _, _ => none
  | k0 + 1, t31_0, b_0, b_0_4, b_0_5, b_0_6 =>
    bif decide (t31_0 < t30_0) then ((idx t29_0 t31_0).bind fun x3 =>
    (sub b_0.Ledger.Reports 0 many_0).bind fun x4 =>
    (idx prizes_0 0).bind fun x5 =>
    (app 40 x4 ([(aD.mk (w64 (100 + many_0)) x3 week_0 x5 false)])).bind fun x6 =>
    (sub prizes_0 1 (prizes_0.length : Int)).bind fun x7 =>
    (sub free_0 0 t31_0).bind fun x8 =>
    (sub free_0 (w64 (t31_0 + 1)) (free_0.length : Int)).bind fun x9 =>
    (pM ([x8, x9])).bind fun r10 =>
    (againR (cB.mk (aR.mk b_0.Ledger.Players b_0.Ledger.Counts x6 b_0.Ledger.Bans b_0.Ledger.Frozen)) b_0_2 b_0_3 b_0_4 b_0_5 b_0_6 week_0 x7 r10).bind fun r11 =>
    (lL againR week_0 prizes_0 free_0 many_0 t29_0 t30_0 b_0_2 b_0_3 k0) (w64 (t31_0 + 1)) r11.1 r11.2.1 r11.2.2.1 r11.2.2.2)
    else (rB againR many_0 b_0 b_0_2 b_0_3 b_0_4 b_0_5 b_0_6)

def kG : Nat → cB → Int → Int → Bool → Int → Int → Int → (List Int) → (List Int) → Option (cB × Bool × Int × Int)
  | 0, _, _, _, _, _, _, _, _, _ => none
  | kr + 1, book, pl, wk, ms, be, wo, week_1, prizes_2, free_3 =>
    (bif decide ((prizes_2.length : Int) = 0) then (some true) else (some (decide ((free_3.length : Int) = 0)))).bind fun b1 =>
    bif b1 then ((tQ book pl wk ms be wo).bind fun r2 =>
    some (book, r2.1, r2.2.1, r2.2.2))
    else (lL (kG kr) week_1 prizes_2 free_3 (book.Ledger.Reports.length : Int) free_3 (free_3.length : Int) pl wk BIG 0 book ms be wo)

def sV : cB → Int → Int → Bool → Int → Int → Int → (List Int) → (List Int) → Option (cB × Bool × Int × Int) := kG BIG

def wE (prizes_100 : List Int) (player_100 : Int) (week_100 : Int) (best_100 : Int) (worst_100 : Int) (free_100 : List Int) (o19_100 : List aD) (o19_100_2 : Int) (o19_100_3 : Int) (o19_100_4 : List bD) (o19_100_5 : List bD) : Option (Int × Int × Int) :=
    (sV (cB.mk (aR.mk o19_100_2 o19_100_3 o19_100 o19_100_4 o19_100_5)) player_100 week_100 false (w64 (o19_100_2 + 1)) 0 week_100 prizes_100 free_100).bind fun r24 =>
    bif r24.2.1 then (some (0, 0, 3))
    else (some (r24.2.2.1, r24.2.2.2, 0))

def nQ (prizes_0 : List Int) (t36_0 : Int) (player_0 : Int) (week_0 : Int) (best_0 : Int) (worst_0 : Int) (o19_0 : List aD) (o19_0_2 : Int) (o19_0_3 : Int) (o19_0_4 : List bD) (o19_0_5 : List bD) : Nat → Int → (List Int) → Option (Int × Int × Int)
  | 0, _, _ => none
  | k0 + 1, t37_0, free_0 =>
    bif decide (t37_0 < t36_0) then ((mK o19_0_4 t37_0 week_0).bind fun r20 =>
    bif !r20 then ((app 8 free_0 ([t37_0])).bind fun x21 =>
    (nQ prizes_0 t36_0 player_0 week_0 best_0 worst_0 o19_0 o19_0_2 o19_0_3 o19_0_4 o19_0_5 k0) (w64 (t37_0 + 1)) x21)
    else ((nQ prizes_0 t36_0 player_0 week_0 best_0 worst_0 o19_0 o19_0_2 o19_0_3 o19_0_4 o19_0_5 k0) (w64 (t37_0 + 1)) free_0))
    else (wE prizes_0 player_0 week_0 best_0 worst_0 free_0 o19_0 o19_0_2 o19_0_3 o19_0_4 o19_0_5)

def vT (l_0 : aR) (player_1 : Int) (week_2 : Int) (prizes_3 : List Int) : Option (Int × Int × Int) :=
    (nM l_0 player_1 week_2).bind fun r6 =>
    tO r6.1 (bif !decide (r6.2 = 0) then (some (0, 0, r6.2))
    else ((bif decide (4 < (prizes_3.length : Int)) then (some true) else ((kB prizes_3 (fun y11 => qY y11)).bind fun r12 =>
    some r12)).bind fun b13 =>
    bif b13 then (some (0, 0, 42))
    else (none))) fun y7 =>
    bif !decide (r6.2 = 0) then (some (0, 0, r6.2))
    else ((bif decide (4 < (prizes_3.length : Int)) then (some true) else ((kB prizes_3 (fun y16 => qY y16)).bind fun r17 =>
    some r17)).bind fun b18 =>
    bif b18 then (some (0, 0, 42))
    else (nQ prizes_3 y7.Ledger.Players player_1 week_2 0 0 y7.Ledger.Reports y7.Ledger.Players y7.Ledger.Counts y7.Ledger.Bans y7.Ledger.Frozen BIG 0 ([] : List Int)))

def jK (b_0 : cB) (player_1 : Int) (week_2 : Int) : Option Int :=
    (jS b_0 player_1 week_2).bind fun r1 =>
    (jT b_0 r1).bind fun r2 =>
    (rW r2).bind fun r3 =>
    some r3

def mP : Option Int :=
    some (-1)

def hJ (s_0 : List aD) (f_0 : aD → Option Bool) (t7_0 : Int) : Nat → Int → Option Int
  | 0, _ => none
  | k0 + 1, t8_0 =>
    bif decide (t8_0 < t7_0) then ((idx s_0 t8_0).bind fun x1 =>
    (f_0 x1).bind fun r2 =>
    bif r2 then (some t8_0)
    else ((hJ s_0 f_0 t7_0 k0) (w64 (t8_0 + 1))))
    else (mP)

def kZ (s_0 : List aD) (f_1 : aD → Option Bool) : Option Int :=
    hJ s_0 f_1 (s_0.length : Int) BIG 0

def mB (i_100 : Int) (s_100 : List aD) : Option ((List aD)) :=
    (chk (decide (0 ≤ i_100) && decide (i_100 ≤ (s_100.length : Int)))).bind fun u7 =>
    (chk (decide (i_100.toNat ≤ s_100.length))).bind fun u8 =>
    (chk (decide (0 ≤ i_100))).bind fun u9 =>
    some (s_100.take i_100.toNat)

def fS (del_0 : aD → Option Bool) : Nat → Int → Int → (List aD) → Option ((List aD))
  | 0, _, _, _ => none
  | k0 + 1, i_0, j_0, s_0 =>
    bif decide (j_0 < (s_0.length : Int)) then ((idx s_0 j_0).bind fun x3 =>
    (del_0 x3).bind fun r5 =>
    bif !r5 then ((idx s_0 i_0).bind fun x6 =>
    (fS del_0 k0) (w64 (i_0 + 1)) (w64 (j_0 + 1)) (s_0.set i_0.toNat x3))
    else ((fS del_0 k0) i_0 (w64 (j_0 + 1)) s_0))
    else (mB i_0 s_0)

def kP (s_0 : List aD) (del_1 : aD → Option Bool) : Option ((List aD)) :=
    (kZ s_0 del_1).bind fun r2 =>
    bif decide (r2 = (-1)) then (some s_0)
    else (fS del_1 BIG r2 (w64 (r2 + 1)) s_0)

def oY (r_0 : aD) (c_1 : Int) : Option Bool :=
    some (decide (c_1 < r_0.Week))

def tP (l_0 : aR) (player_1 : Int) (week_2 : Int) : Option (Int × Int) :=
    (nM l_0 player_1 week_2).bind fun r3 =>
    tO r3.1 (bif !decide (r3.2 = 0) then (some (0, r3.2))
    else (bif decide (400 ≤ week_2) then (some (0, 1))
    else (none))) fun y4 =>
    bif !decide (r3.2 = 0) then (some (0, r3.2))
    else (bif decide (400 ≤ week_2) then (some (0, 1))
    else ((jK y4 player_1 week_2).bind fun r7 =>
    (kP y4.Ledger.Reports (fun y8 => oY y8 week_2)).bind fun r9 =>
    (jK (cB.mk (aR.mk y4.Ledger.Players y4.Ledger.Counts r9 y4.Ledger.Bans y4.Ledger.Frozen)) player_1 (w64 (week_2 + 1))).bind fun r11 =>
    some (w64 (r7 - r11), 0)))

def pO : Option Bool :=
    some true

def kQ (a_0 : List Int) (b_0 : List Int) : Nat → Int → Option Bool
  | 0, _ => none
  | k0 + 1, i_0 =>
    bif decide (i_0 < (a_0.length : Int)) then ((idx a_0 i_0).bind fun x1 =>
    (idx b_0 i_0).bind fun x2 =>
    bif !decide (x1 = x2) then (some false)
    else ((kQ a_0 b_0 k0) (w64 (i_0 + 1))))
    else (pO)

def nX (a_0 : List Int) (b_1 : List Int) : Option Bool :=
    bif !decide ((a_0.length : Int) = (b_1.length : Int)) then (some false)
    else (kQ a_0 b_1 BIG 0)

def lU : Option Bool :=
    (oL).bind fun r1 =>
    (xE r1 40).bind fun r3 =>
    (vT r1 1 40 ([300])).bind fun r4 =>
    (tP r1 0 61).bind fun r5 =>
    (bif decide (r3.2 = 0) then (some (decide (r4.2.2 = 0))) else (some false)).bind fun b6 =>
    (bif b6 then (some (decide (r5.2 = 0))) else (some false)).bind fun b7 =>
    (bif b7 then ((nX r3.1 ([0, 2, 1])).bind fun r8 =>
    some r8) else (some false)).bind fun b9 =>
    (bif b9 then (some (decide (r4.1 = 1))) else (some false)).bind fun b10 =>
    (bif b10 then (some (decide (r4.2.1 = 3))) else (some false)).bind fun b11 =>
    (bif b11 then (some (decide (r5.1 = 200))) else (some false)).bind fun b12 =>
    some b12

def oM : Option Bool :=
    some false

def iC (l_0 : List bD) (player_0 : Int) (week_0 : Int) : Nat → Int → Option Bool
  | 0, _ => none
  | k0 + 1, i_0 =>
    bif decide (i_0 < (l_0.length : Int)) then ((idx l_0 i_0).bind fun x1 =>
    (bif decide (x1.Player = player_0) then ((idx l_0 i_0).bind fun x2 =>
    (idx l_0 i_0).bind fun x3 =>
    (eK week_0 x2.From x3.To).bind fun r4 =>
    some r4) else (some false)).bind fun b5 =>
    bif b5 then (some true)
    else ((iC l_0 player_0 week_0 k0) (w64 (i_0 + 1))))
    else (oM)

def jB (l_0 : List bD) (player_1 : Int) (week_2 : Int) : Option Bool :=
    iC l_0 player_1 week_2 BIG 0

def gQ (again0 : (List aD) → Int → Option ((List aD))) (l_101 : List aD) (out_101 : List aD) (i_101 : Int) : Option ((List aD)) :=
    again0 out_101 (w64 (i_101 + 1))

def jG (again0 : (List aD) → Int → Option ((List aD))) (l_102 : List aD) (out_102 : List aD) (i_102 : Int) (atv_102 : Int) (known_102 : Bool) : Option ((List aD)) :=
    bif !known_102 then ((idx l_102 i_102).bind fun x6 =>
    (sub out_102 atv_102 (out_102.length : Int)).bind fun x7 =>
    (app 40 ([x6]) x7).bind fun x8 =>
    (sub out_102 0 atv_102).bind fun x10 =>
    (app 40 ([] : List aD) x10).bind fun x11 =>
    (app 40 x11 x8).bind fun x13 =>
    gQ again0 l_102 x13 i_102)
    else (gQ again0 l_102 out_102 i_102)

def eN (again0 : (List aD) → Int → Option ((List aD))) (l_2 : List aD) (out_2 : List aD) (i_2 : Int) : Nat → Int → Bool → Int → Option ((List aD))
  | 0, _, _, _ => none
  | k2 + 1, atv_2, known_2, k_2 =>
    bif decide (k_2 < (out_2.length : Int)) then ((bif known_2 then (some true) else ((idx out_2 k_2).bind fun x1 =>
    (idx l_2 i_2).bind fun x2 =>
    some (decide (x1 = x2)))).bind fun b3 =>
    (idx out_2 k_2).bind fun x4 =>
    (idx l_2 i_2).bind fun x5 =>
    bif decide (x4.Id ≤ x5.Id) then ((eN again0 l_2 out_2 i_2 k2) (w64 (k_2 + 1)) b3 (w64 (k_2 + 1)))
    else ((eN again0 l_2 out_2 i_2 k2) atv_2 b3 (w64 (k_2 + 1))))
    else (jG again0 l_2 out_2 i_2 atv_2 known_2)

def mT (out_100 : List aD) : Option ((List aD)) :=
    some out_100

def eM (l_0 : List aD) : Nat → (List aD) → Int → Option ((List aD))
  | 0, _, _ => none
  | k0 + 1, out_0, i_0 =>
    bif decide (i_0 < (l_0.length : Int)) then (eN (eM l_0 k0) l_0 out_0 i_0 BIG 0 false 0)
    else (mT out_0)

def jC (l_0 : List aD) : Option ((List aD)) :=
    eM l_0 BIG ([] : List aD) 0

def pG (n_100 : Int) : Option Int :=
    some n_100

def gS (week_0 : Int) (l_0 : aR) (r_0 : aD) : Nat → Int → Int → Option Int
  | 0, _, _ => none
  | k0 + 1, n_0, w_0 =>
    bif decide (w_0 ≤ week_0) then ((jB l_0.Frozen r_0.Player w_0).bind fun r3 =>
    bif !r3 then ((gS week_0 l_0 r_0 k0) (w64 (n_0 + 1)) (w64 (w_0 + 1)))
    else ((gS week_0 l_0 r_0 k0) n_0 (w64 (w_0 + 1))))
    else (pG n_0)

def lR (l_0 : aR) (r_1 : aD) (week_2 : Int) : Option Int :=
    gS week_2 l_0 r_1 BIG 0 (w64 (r_1.Week + 1))

def mS (out_100 : List aD) : Option ((List aD)) :=
    some out_100

def eL (player_0 : Int) (week_0 : Int) (allv_0 : List aD) (l_0 : aR) : Nat → Int → (List aD) → Option ((List aD))
  | 0, _, _ => none
  | k0 + 1, i_0, out_0 =>
    bif decide (i_0 < (allv_0.length : Int)) then ((idx allv_0 i_0).bind fun x4 =>
    (bif decide (x4.Player = player_0) then (some (decide (x4.Week ≤ week_0))) else (some false)).bind fun b6 =>
    (bif b6 then ((lR l_0 x4 week_0).bind fun r7 =>
    some (decide (r7 < 52))) else (some false)).bind fun b8 =>
    (bif b8 then ((jB l_0.Bans player_0 x4.Week).bind fun r9 =>
    some (!r9)) else (some false)).bind fun b10 =>
    bif b10 then ((app 40 out_0 ([x4])).bind fun x11 =>
    (eL player_0 week_0 allv_0 l_0 k0) (w64 (i_0 + 1)) x11)
    else ((eL player_0 week_0 allv_0 l_0 k0) (w64 (i_0 + 1)) out_0))
    else (mS out_0)

def eT (l_0 : aR) (player_1 : Int) (week_2 : Int) : Option ((List aD)) :=
    (jC l_0.Reports).bind fun r3 =>
    eL player_1 week_2 r3 l_0 BIG 0 ([] : List aD)

def pF (l_0 : aR) (player_1 : Int) (week_2 : Int) : Option Bool :=
    (jB l_0.Bans player_1 week_2).bind fun r2 =>
    (bif !r2 then ((eT l_0 player_1 week_2).bind fun r3 =>
    some (decide (0 < (r3.length : Int)))) else (some false)).bind fun b4 =>
    some b4

def oC (again2 : Int → (List aD) → Option ((List aD))) (allv_103 : List aD) (must_103 : Int) (i_103 : Int) (l_103 : aR) (out_103 : List aD) : Option ((List aD)) :=
    again2 (w64 (i_103 + 1)) out_103

def oD (again2 : Int → (List aD) → Option ((List aD))) (allv_104 : List aD) (must_104 : Int) (i_104 : Int) (better_104 : Int) (l_104 : aR) (out_104 : List aD) : Option ((List aD)) :=
    (idx allv_104 i_104).bind fun x13 =>
    (bif x13.Must then (some true) else (some (decide (better_104 < (w64 (l_104.Counts - must_104)))))).bind fun b14 =>
    bif b14 then ((idx allv_104 i_104).bind fun x15 =>
    (app 40 out_104 ([x15])).bind fun x16 =>
    oC again2 allv_104 must_104 i_104 l_104 x16)
    else (oC again2 allv_104 must_104 i_104 l_104 out_104)

def jD (again2 : Int → (List aD) → Option ((List aD))) (allv_4 : List aD) (must_4 : Int) (i_4 : Int) (l_4 : aR) (out_4 : List aD) : Nat → Int → Int → Option ((List aD))
  | 0, _, _ => none
  | k4 + 1, better_4, k_4 =>
    bif decide (k_4 < (allv_4.length : Int)) then ((idx allv_4 k_4).bind fun x5 =>
    (bif !x5.Must then ((idx allv_4 k_4).bind fun x6 =>
    (idx allv_4 i_4).bind fun x7 =>
    (bif decide (x7.Points < x6.Points) then (some true) else ((idx allv_4 k_4).bind fun x8 =>
    (idx allv_4 i_4).bind fun x9 =>
    (bif decide (x8.Points = x9.Points) then (some (decide (k_4 < i_4))) else (some false)).bind fun b10 =>
    some b10)).bind fun b11 =>
    some b11) else (some false)).bind fun b12 =>
    bif b12 then ((jD again2 allv_4 must_4 i_4 l_4 out_4 k4) (w64 (better_4 + 1)) (w64 (k_4 + 1)))
    else ((jD again2 allv_4 must_4 i_4 l_4 out_4 k4) better_4 (w64 (k_4 + 1))))
    else (oD again2 allv_4 must_4 i_4 better_4 l_4 out_4)

def rN (out_102 : List aD) : Option ((List aD)) :=
    some out_102

def gY (allv_2 : List aD) (must_2 : Int) (l_2 : aR) : Nat → Int → (List aD) → Option ((List aD))
  | 0, _, _ => none
  | k2 + 1, i_2, out_2 =>
    bif decide (i_2 < (allv_2.length : Int)) then (jD (gY allv_2 must_2 l_2 k2) allv_2 must_2 i_2 l_2 out_2 BIG 0 0)
    else (rN out_2)

def oB (allv_100 : List aD) (must_100 : Int) (l_100 : aR) : Option ((List aD)) :=
    gY allv_100 must_100 l_100 BIG 0 ([] : List aD)

def gX (allv_0 : List aD) (l_0 : aR) : Nat → Int → Int → Option ((List aD))
  | 0, _, _ => none
  | k0 + 1, must_0, i_0 =>
    bif decide (i_0 < (allv_0.length : Int)) then ((idx allv_0 i_0).bind fun x3 =>
    bif x3.Must then ((gX allv_0 l_0 k0) (w64 (must_0 + 1)) (w64 (i_0 + 1)))
    else ((gX allv_0 l_0 k0) must_0 (w64 (i_0 + 1))))
    else (oB allv_0 must_0 l_0)

def qF (l_0 : aR) (player_1 : Int) (week_2 : Int) : Option ((List aD)) :=
    (eT l_0 player_1 week_2).bind fun r2 =>
    gX r2 l_0 BIG 0 0

def qS (sum_100 : Int) (must_100 : Int) : Option (Int × Int) :=
    some (sum_100, must_100)

def iP (allv_0 : List aD) : Nat → Int → Int → Int → Option (Int × Int)
  | 0, _, _, _ => none
  | k0 + 1, sum_0, must_0, i_0 =>
    bif decide (i_0 < (allv_0.length : Int)) then ((idx allv_0 i_0).bind fun x3 =>
    (idx allv_0 i_0).bind fun x4 =>
    bif x4.Must then ((idx allv_0 i_0).bind fun x5 =>
    (iP allv_0 k0) (w64 (sum_0 + x3.Points)) (w64 (must_0 + x5.Points)) (w64 (i_0 + 1)))
    else ((iP allv_0 k0) (w64 (sum_0 + x3.Points)) must_0 (w64 (i_0 + 1))))
    else (qS sum_0 must_0)

def nE (l_0 : aR) (player_1 : Int) (week_2 : Int) : Option (Int × Int) :=
    (qF l_0 player_1 week_2).bind fun r2 =>
    iP r2 BIG 0 0 0

def pH (l_0 : aR) (a_1 : Int) (b_2 : Int) (week_3 : Int) : Option Bool :=
    (nE l_0 a_1 week_3).bind fun r2 =>
    (nE l_0 b_2 week_3).bind fun r3 =>
    bif !decide (r2.1 = r3.1) then (some (decide (r3.1 < r2.1)))
    else (bif !decide (r2.2 = r3.2) then (some (decide (r3.2 < r2.2)))
    else ((eT l_0 a_1 week_3).bind fun r4 =>
    (eT l_0 b_2 week_3).bind fun r5 =>
    bif !decide ((r4.length : Int) = (r5.length : Int)) then (some (decide ((r4.length : Int) < (r5.length : Int))))
    else (some (decide (a_1 < b_2)))))

def kU (again0 : (List Int) → Int → Option ((List Int))) (week_101 : Int) (out_101 : List Int) (p_101 : Int) (l_101 : aR) : Option ((List Int)) :=
    again0 out_101 (w64 (p_101 + 1))

def oN (again0 : (List Int) → Int → Option ((List Int))) (week_102 : Int) (out_102 : List Int) (p_102 : Int) (atv_102 : Int) (l_102 : aR) : Option ((List Int)) :=
    (sub out_102 atv_102 (out_102.length : Int)).bind fun x6 =>
    (app 8 ([p_102]) x6).bind fun x7 =>
    (sub out_102 0 atv_102).bind fun x9 =>
    (app 8 ([] : List Int) x9).bind fun x10 =>
    (app 8 x10 x7).bind fun x12 =>
    kU again0 week_102 x12 p_102 l_102

def jM (again0 : (List Int) → Int → Option ((List Int))) (week_2 : Int) (out_2 : List Int) (p_2 : Int) (l_2 : aR) : Nat → Int → Option ((List Int))
  | 0, _ => none
  | k2 + 1, atv_2 =>
    (bif decide (atv_2 < (out_2.length : Int)) then ((idx out_2 atv_2).bind fun x3 =>
    (pH l_2 x3 p_2 week_2).bind fun r4 =>
    some r4) else (some false)).bind fun b5 =>
    bif b5 then ((jM again0 week_2 out_2 p_2 l_2 k2) (w64 (atv_2 + 1)))
    else (oN again0 week_2 out_2 p_2 atv_2 l_2)

def sH (out_100 : List Int) : Option ((List Int)) :=
    some out_100

def iD (week_0 : Int) (l_0 : aR) : Nat → (List Int) → Int → Option ((List Int))
  | 0, _, _ => none
  | k0 + 1, out_0, p_0 =>
    bif decide (p_0 < l_0.Players) then ((pF l_0 p_0 week_0).bind fun r2 =>
    bif !r2 then (kU (iD week_0 l_0 k0) week_0 out_0 p_0 l_0)
    else (jM (iD week_0 l_0 k0) week_0 out_0 p_0 l_0 BIG 0))
    else (sH out_0)

def oG (l_0 : aR) (week_1 : Int) : Option ((List Int)) :=
    iD week_1 l_0 BIG ([] : List Int) 0

def rM : Option Int :=
    some 0

def gW (player_0 : Int) (allv_0 : List Int) : Nat → Int → Option Int
  | 0, _ => none
  | k0 + 1, i_0 =>
    bif decide (i_0 < (allv_0.length : Int)) then ((idx allv_0 i_0).bind fun x3 =>
    bif decide (x3 = player_0) then (some (w64 (i_0 + 1)))
    else ((gW player_0 allv_0 k0) (w64 (i_0 + 1))))
    else (rM)

def tI (l_0 : aR) (player_1 : Int) (week_2 : Int) : Option Int :=
    (oG l_0 week_2).bind fun r2 =>
    gW player_1 r2 BIG 0

def kH (l_0 : aR) (player_1 : Int) (week_2 : Int) : Option Bool :=
    (iN l_0).bind fun r2 =>
    (bif !r2 then ((kI l_0).bind fun r3 =>
    some (decide (r3 = 0))) else (some false)).bind fun b4 =>
    (bif b4 then (some (decide (0 ≤ player_1))) else (some false)).bind fun b5 =>
    (bif b5 then (some (decide (player_1 < l_0.Players))) else (some false)).bind fun b6 =>
    (bif b6 then (some (decide (0 ≤ week_2))) else (some false)).bind fun b7 =>
    (bif b7 then (some (decide (week_2 ≤ 250))) else (some false)).bind fun b8 =>
    some b8

def pR (l_0 : aR) (player_1 : Int) (week_2 : Int) : Option (Int × Int) :=
    (nM l_0 player_1 week_2).bind fun r2 =>
    tO r2.1 (bif !decide (r2.2 = 0) then (some (0, r2.2))
    else (none)) fun y3 =>
    bif !decide (r2.2 = 0) then (some (0, r2.2))
    else ((jK y3 player_1 week_2).bind fun r6 =>
    some (r6, 0))

def slices_Sort_int (x : List Int) : Option (List Int) := if x.length < 4611686018427387904 then some (qC x) else none

def qB (out_100 : List Int) : Option ((List Int) × Int) :=
    (slices_Sort_int out_100).bind fun r14 =>
    some (r14, 0)

def lH (t28_0 : List aD) (t29_0 : Int) : Nat → Int → (List Int) → Option ((List Int) × Int)
  | 0, _, _ => none
  | k0 + 1, t30_0, out_0 =>
    bif decide (t30_0 < t29_0) then ((idx t28_0 t30_0).bind fun x10 =>
    (app 8 out_0 ([x10.Id])).bind fun x12 =>
    (lH t28_0 t29_0 k0) (w64 (t30_0 + 1)) x12)
    else (qB out_0)

def qZ (l_0 : aR) (player_1 : Int) (week_2 : Int) : Option ((List Int) × Int) :=
    (nM l_0 player_1 week_2).bind fun r2 =>
    tO r2.1 (bif !decide (r2.2 = 0) then (some (([] : List Int), r2.2))
    else (none)) fun y3 =>
    bif !decide (r2.2 = 0) then (some (([] : List Int), r2.2))
    else ((jS y3 player_1 week_2).bind fun r8 =>
    (jT y3 r8).bind fun r9 =>
    lH r9 (r9.length : Int) BIG 0 ([] : List Int))

def bX (again0 : Int → Int → Int → Int → Int → Int → Option Bool) (n_101 : Int) (ids_101 : List Int) (allv_101 : List aD) (sum_101 : Int) (must_101 : Int) (least_101 : Int) (most_101 : Int) (found_101 : Int) (i_101 : Int) (l_101 : aR) : Option Bool :=
    again0 sum_101 must_101 least_101 most_101 found_101 (w64 (i_101 + 1))

def iA (again0 : Int → Int → Int → Int → Int → Int → Option Bool) (n_102 : Int) (ids_102 : List Int) (allv_102 : List aD) (sum_102 : Int) (must_102 : Int) (least_102 : Int) (most_102 : Int) (found_102 : Int) (i_102 : Int) (isv_102 : Bool) (l_102 : aR) : Option Bool :=
    bif isv_102 then ((idx allv_102 i_102).bind fun x12 =>
    (idx allv_102 i_102).bind fun x13 =>
    bif x13.Must then ((idx allv_102 i_102).bind fun x14 =>
    (bif x14.Must then (some (!isv_102)) else (some false)).bind fun b15 =>
    bif b15 then (some false)
    else ((idx allv_102 i_102).bind fun x16 =>
    (bif !x16.Must then (some isv_102) else (some false)).bind fun b17 =>
    (bif b17 then ((bif decide (least_102 < 0) then (some true) else ((idx allv_102 i_102).bind fun x18 =>
    some (decide (x18.Points < least_102)))).bind fun b19 =>
    some b19) else (some false)).bind fun b20 =>
    bif b20 then ((idx allv_102 i_102).bind fun x21 =>
    (idx allv_102 i_102).bind fun x22 =>
    (bif !x22.Must then (some (!isv_102)) else (some false)).bind fun b23 =>
    bif b23 then ((idx allv_102 i_102).bind fun x24 =>
    bX again0 n_102 ids_102 allv_102 (w64 (sum_102 + x12.Points)) (w64 (must_102 + 1)) x21.Points (max most_102 x24.Points) (w64 (found_102 + 1)) i_102 l_102)
    else (bX again0 n_102 ids_102 allv_102 (w64 (sum_102 + x12.Points)) (w64 (must_102 + 1)) x21.Points most_102 (w64 (found_102 + 1)) i_102 l_102))
    else ((idx allv_102 i_102).bind fun x25 =>
    (bif !x25.Must then (some (!isv_102)) else (some false)).bind fun b26 =>
    bif b26 then ((idx allv_102 i_102).bind fun x27 =>
    bX again0 n_102 ids_102 allv_102 (w64 (sum_102 + x12.Points)) (w64 (must_102 + 1)) least_102 (max most_102 x27.Points) (w64 (found_102 + 1)) i_102 l_102)
    else (bX again0 n_102 ids_102 allv_102 (w64 (sum_102 + x12.Points)) (w64 (must_102 + 1)) least_102 most_102 (w64 (found_102 + 1)) i_102 l_102))))
    else ((idx allv_102 i_102).bind fun x28 =>
    (bif x28.Must then (some (!isv_102)) else (some false)).bind fun b29 =>
    bif b29 then (some false)
    else ((idx allv_102 i_102).bind fun x30 =>
    (bif !x30.Must then (some isv_102) else (some false)).bind fun b31 =>
    (bif b31 then ((bif decide (least_102 < 0) then (some true) else ((idx allv_102 i_102).bind fun x32 =>
    some (decide (x32.Points < least_102)))).bind fun b33 =>
    some b33) else (some false)).bind fun b34 =>
    bif b34 then ((idx allv_102 i_102).bind fun x35 =>
    (idx allv_102 i_102).bind fun x36 =>
    (bif !x36.Must then (some (!isv_102)) else (some false)).bind fun b37 =>
    bif b37 then ((idx allv_102 i_102).bind fun x38 =>
    bX again0 n_102 ids_102 allv_102 (w64 (sum_102 + x12.Points)) must_102 x35.Points (max most_102 x38.Points) (w64 (found_102 + 1)) i_102 l_102)
    else (bX again0 n_102 ids_102 allv_102 (w64 (sum_102 + x12.Points)) must_102 x35.Points most_102 (w64 (found_102 + 1)) i_102 l_102))
    else ((idx allv_102 i_102).bind fun x39 =>
    (bif !x39.Must then (some (!isv_102)) else (some false)).bind fun b40 =>
    bif b40 then ((idx allv_102 i_102).bind fun x41 =>
    bX again0 n_102 ids_102 allv_102 (w64 (sum_102 + x12.Points)) must_102 least_102 (max most_102 x41.Points) (w64 (found_102 + 1)) i_102 l_102)
    else (bX again0 n_102 ids_102 allv_102 (w64 (sum_102 + x12.Points)) must_102 least_102 most_102 (w64 (found_102 + 1)) i_102 l_102)))))
    else ((idx allv_102 i_102).bind fun x42 =>
    bif x42.Must then ((idx allv_102 i_102).bind fun x43 =>
    (bif x43.Must then (some (!isv_102)) else (some false)).bind fun b44 =>
    bif b44 then (some false)
    else ((idx allv_102 i_102).bind fun x45 =>
    (bif !x45.Must then (some isv_102) else (some false)).bind fun b46 =>
    (bif b46 then ((bif decide (least_102 < 0) then (some true) else ((idx allv_102 i_102).bind fun x47 =>
    some (decide (x47.Points < least_102)))).bind fun b48 =>
    some b48) else (some false)).bind fun b49 =>
    bif b49 then ((idx allv_102 i_102).bind fun x50 =>
    (idx allv_102 i_102).bind fun x51 =>
    (bif !x51.Must then (some (!isv_102)) else (some false)).bind fun b52 =>
    bif b52 then ((idx allv_102 i_102).bind fun x53 =>
    bX again0 n_102 ids_102 allv_102 sum_102 (w64 (must_102 + 1)) x50.Points (max most_102 x53.Points) found_102 i_102 l_102)
    else (bX again0 n_102 ids_102 allv_102 sum_102 (w64 (must_102 + 1)) x50.Points most_102 found_102 i_102 l_102))
    else ((idx allv_102 i_102).bind fun x54 =>
    (bif !x54.Must then (some (!isv_102)) else (some false)).bind fun b55 =>
    bif b55 then ((idx allv_102 i_102).bind fun x56 =>
    bX again0 n_102 ids_102 allv_102 sum_102 (w64 (must_102 + 1)) least_102 (max most_102 x56.Points) found_102 i_102 l_102)
    else (bX again0 n_102 ids_102 allv_102 sum_102 (w64 (must_102 + 1)) least_102 most_102 found_102 i_102 l_102))))
    else ((idx allv_102 i_102).bind fun x57 =>
    (bif x57.Must then (some (!isv_102)) else (some false)).bind fun b58 =>
    bif b58 then (some false)
    else ((idx allv_102 i_102).bind fun x59 =>
    (bif !x59.Must then (some isv_102) else (some false)).bind fun b60 =>
    (bif b60 then ((bif decide (least_102 < 0) then (some true) else ((idx allv_102 i_102).bind fun x61 =>
    some (decide (x61.Points < least_102)))).bind fun b62 =>
    some b62) else (some false)).bind fun b63 =>
    bif b63 then ((idx allv_102 i_102).bind fun x64 =>
    (idx allv_102 i_102).bind fun x65 =>
    (bif !x65.Must then (some (!isv_102)) else (some false)).bind fun b66 =>
    bif b66 then ((idx allv_102 i_102).bind fun x67 =>
    bX again0 n_102 ids_102 allv_102 sum_102 must_102 x64.Points (max most_102 x67.Points) found_102 i_102 l_102)
    else (bX again0 n_102 ids_102 allv_102 sum_102 must_102 x64.Points most_102 found_102 i_102 l_102))
    else ((idx allv_102 i_102).bind fun x68 =>
    (bif !x68.Must then (some (!isv_102)) else (some false)).bind fun b69 =>
    bif b69 then ((idx allv_102 i_102).bind fun x70 =>
    bX again0 n_102 ids_102 allv_102 sum_102 must_102 least_102 (max most_102 x70.Points) found_102 i_102 l_102)
    else (bX again0 n_102 ids_102 allv_102 sum_102 must_102 least_102 most_102 found_102 i_102 l_102)))))

def fO (again0 : Int → Int → Int → Int → Int → Int → Option Bool) (n_2 : Int) (ids_2 : List Int) (allv_2 : List aD) (sum_2 : Int) (must_2 : Int) (least_2 : Int) (most_2 : Int) (found_2 : Int) (i_2 : Int) (l_2 : aR) : Nat → Bool → Int → Option Bool
  | 0, _, _ => none
  | k2 + 1, isv_2, k_2 =>
    bif decide (k_2 < (ids_2.length : Int)) then ((bif isv_2 then (some true) else ((idx ids_2 k_2).bind fun x9 =>
    (idx allv_2 i_2).bind fun x10 =>
    some (decide (x9 = x10.Id)))).bind fun b11 =>
    (fO again0 n_2 ids_2 allv_2 sum_2 must_2 least_2 most_2 found_2 i_2 l_2 k2) b11 (w64 (k_2 + 1)))
    else (iA again0 n_2 ids_2 allv_2 sum_2 must_2 least_2 most_2 found_2 i_2 isv_2 l_2)

def lC (n_100 : Int) (ids_100 : List Int) (allv_100 : List aD) (sum_100 : Int) (must_100 : Int) (least_100 : Int) (most_100 : Int) (found_100 : Int) (l_100 : aR) : Option Bool :=
    (bif !decide (n_100 = sum_100) then (some true) else (some (!decide (found_100 = (ids_100.length : Int))))).bind fun b71 =>
    (bif b71 then (some true) else (some (!decide (found_100 = (max must_100 (min (allv_100.length : Int) l_100.Counts)))))).bind fun b72 =>
    bif b72 then (some false)
    else ((bif decide (least_100 < 0) then (some true) else (some (decide (most_100 ≤ least_100)))).bind fun b73 =>
    (bif b73 then ((lU).bind fun r74 =>
    some r74) else (some false)).bind fun b75 =>
    some b75)

def eR (n_0 : Int) (ids_0 : List Int) (allv_0 : List aD) (l_0 : aR) : Nat → Int → Int → Int → Int → Int → Int → Option Bool
  | 0, _, _, _, _, _, _ => none
  | k0 + 1, sum_0, must_0, least_0, most_0, found_0, i_0 =>
    bif decide (i_0 < (allv_0.length : Int)) then (fO (eR n_0 ids_0 allv_0 l_0 k0) n_0 ids_0 allv_0 sum_0 must_0 least_0 most_0 found_0 i_0 l_0 BIG false 0)
    else (lC n_0 ids_0 allv_0 sum_0 must_0 least_0 most_0 found_0 l_0)

def mI (l_0 : aR) (x_1 : nP) : Option Bool :=
    (kH l_0 x_1.Player x_1.Week).bind fun r3 =>
    bif !r3 then ((lU).bind fun r4 =>
    some r4)
    else ((pR l_0 x_1.Player x_1.Week).bind fun r5 =>
    (qZ l_0 x_1.Player x_1.Week).bind fun r6 =>
    (bif !decide (r5.2 = 0) then (some true) else (some (!decide (r6.2 = 0)))).bind fun b7 =>
    bif b7 then (some false)
    else ((eT l_0 x_1.Player x_1.Week).bind fun r8 =>
    eR r5.1 r6.1 r8 l_0 BIG 0 0 (-1) (-1) 0 0))

end Go.Am
