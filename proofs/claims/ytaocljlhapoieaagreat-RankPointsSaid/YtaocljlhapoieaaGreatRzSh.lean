/- Shallow functions, printed by program. -/
import Derived.Test.YtaocljlhapoieaaGreatAmFull
import Derived.Test.YtaocljlhapoieaaGreatAmPrim
import Derived.Test.YtaocljlhapoieaaGreatAmSort
namespace Go.Am

structure bC where
  Player : Int
  From : Int
  To : Int
  deriving DecidableEq, Inhabited
def aK (x : bC) : List D := [.lit (.int .i64 x.Player), .lit (.int .i64 x.From), .lit (.int .i64 x.To)]

def yS (x : List bC) : List D := [.sl 3 (x.map aK)]

structure aD where
  Id : Int
  Player : Int
  Week : Int
  Points : Int
  Must : Bool
  deriving DecidableEq, Inhabited
def aB (x : aD) : List D := [.lit (.int .i64 x.Id), .lit (.int .i64 x.Player), .lit (.int .i64 x.Week), .lit (.int .i64 x.Points), .lit (.bool x.Must)]

def zE (x : List aD) : List D := [.sl 5 (x.map aB)]

structure aS where
  Players : Int
  Counts : Int
  Reports : List aD
  Bans : List bC
  Frozen : List bC
  deriving DecidableEq, Inhabited
def aU (x : aS) : List D := [.lit (.int .i64 x.Players), .lit (.int .i64 x.Counts), .sl 5 (x.Reports.map aB), .sl 3 (x.Bans.map aK), .sl 3 (x.Frozen.map aK)]

structure cC where
  Ledger : aS
  deriving DecidableEq, Inhabited
def cN (x : cC) : List D := [.lit (.int .i64 x.Ledger.Players), .lit (.int .i64 x.Ledger.Counts), .sl 5 (x.Ledger.Reports.map aB), .sl 3 (x.Ledger.Bans.map aK), .sl 3 (x.Ledger.Frozen.map aK)]

def qV (x : List Int) : List D := [.sl 1 (x.map cE)]

structure bJ where
  player : Int
  points : Int
  musts : Int
  many : Int
  deriving DecidableEq, Inhabited
def bR (x : bJ) : List D := [.lit (.int .i64 x.player), .lit (.int .i64 x.points), .lit (.int .i64 x.musts), .lit (.int .i64 x.many)]

structure nZ where
  Player : Int
  Week : Int
  Id : Int
  deriving DecidableEq, Inhabited
def qJ (x : nZ) : List D := [.lit (.int .i64 x.Player), .lit (.int .i64 x.Week), .lit (.int .i64 x.Id)]

def uS (x : aD) : Prop := okI x.Id ∧ okI x.Player ∧ okI x.Week ∧ okI x.Points ∧ okB x.Must

def qZ (x : bC) : Prop := okI x.Player ∧ okI x.From ∧ okI x.To

def yG (x : aS) : Prop := okI x.Players ∧ okI x.Counts ∧ (okL uS) x.Reports ∧ (okL qZ) x.Bans ∧ (okL qZ) x.Frozen

def uL (x : nZ) : Prop := okI x.Player ∧ okI x.Week ∧ okI x.Id

def dT (n_0 : Int) (low_1 : Int) (high_2 : Int) : Option Bool :=
    (bif decide (low_1 ≤ n_0) then (some (decide (n_0 ≤ high_2))) else (some false)).bind fun b1 =>
    some b1

def lY (l_100 : List bC) : Option Bool :=
    some (decide ((l_100.length : Int) ≤ 8))

def fP (players_0 : Int) (l_0 : List bC) : Nat → Int → Option Bool
  | 0, _ => none
  | k0 + 1, i_0 =>
    bif decide (i_0 < (l_0.length : Int)) then ((idx l_0 i_0).bind fun x1 =>
    (dT x1.Player 0 (w64 (players_0 - 1))).bind fun r2 =>
    (bif !r2 then (some true) else ((idx l_0 i_0).bind fun x3 =>
    some (decide (x3.From < 0)))).bind fun b4 =>
    (bif b4 then (some true) else ((idx l_0 i_0).bind fun x5 =>
    (idx l_0 i_0).bind fun x6 =>
    some (decide (x6.To < x5.From)))).bind fun b7 =>
    (bif b7 then (some true) else ((idx l_0 i_0).bind fun x8 =>
    some (decide (400 < x8.To)))).bind fun b9 =>
    bif b9 then (some false)
    else ((fP players_0 l_0 k0) (w64 (i_0 + 1))))
    else (lY l_0)

def iM (players_0 : Int) (l_1 : List bC) : Option Bool :=
    fP players_0 l_1 BIG 0

def kH (players_0 : Int) (r_1 : aD) : Option Bool :=
    (dT r_1.Id 0 99).bind fun r2 =>
    (bif r2 then ((dT r_1.Player 0 (w64 (players_0 - 1))).bind fun r3 =>
    some r3) else (some false)).bind fun b4 =>
    (bif b4 then ((dT r_1.Week 0 400).bind fun r5 =>
    some r5) else (some false)).bind fun b6 =>
    (bif b6 then ((dT r_1.Points 0 2000).bind fun r7 =>
    some r7) else (some false)).bind fun b8 =>
    some b8

def mW (again2 : Int → Option Bool) (i_103 : Int) (l_103 : aS) : Option Bool :=
    again2 (w64 (i_103 + 1))

def mX (again2 : Int → Option Bool) (i_104 : Int) (l_104 : aS) : Option Bool :=
    mW again2 i_104 l_104

def fZ (again2 : Int → Option Bool) (i_4 : Int) (l_4 : aS) : Nat → Int → Option Bool
  | 0, _ => none
  | k4 + 1, k_4 =>
    bif decide (k_4 < i_4) then ((idx l_4.Frozen i_4).bind fun x12 =>
    (idx l_4.Frozen k_4).bind fun x13 =>
    (bif decide (x12.Player = x13.Player) then (some (decide (x12.From ≤ x13.To))) else (some false)).bind fun b16 =>
    (bif b16 then (some (decide (x13.From ≤ x12.To))) else (some false)).bind fun b17 =>
    bif b17 then (some false)
    else ((fZ again2 i_4 l_4 k4) (w64 (k_4 + 1))))
    else (mX again2 i_4 l_4)

def mV : Option Bool :=
    some true

def eB (l_2 : aS) : Nat → Int → Option Bool
  | 0, _ => none
  | k2 + 1, i_2 =>
    bif decide (i_2 < (l_2.Frozen.length : Int)) then (fZ (eB l_2 k2) i_2 l_2 BIG 0)
    else (mV)

def mU (l_100 : aS) : Option Bool :=
    eB l_100 BIG 0

def fJ (l_0 : aS) : Nat → Int → Option Bool
  | 0, _ => none
  | k0 + 1, i_0 =>
    bif decide (i_0 < (l_0.Reports.length : Int)) then ((idx l_0.Reports i_0).bind fun x10 =>
    (kH l_0.Players x10).bind fun r11 =>
    bif !r11 then (some false)
    else ((fJ l_0 k0) (w64 (i_0 + 1))))
    else (mU l_0)

def kG (l_0 : aS) : Option Bool :=
    (dT l_0.Players 1 16).bind fun r2 =>
    (bif !r2 then (some true) else ((dT l_0.Counts 1 20).bind fun r3 =>
    some (!r3))).bind fun b4 =>
    (bif b4 then (some true) else (some (decide (40 < (l_0.Reports.length : Int))))).bind fun b5 =>
    (bif b5 then (some true) else ((iM l_0.Players l_0.Bans).bind fun r6 =>
    some (!r6))).bind fun b7 =>
    (bif b7 then (some true) else ((iM l_0.Players l_0.Frozen).bind fun r8 =>
    some (!r8))).bind fun b9 =>
    bif b9 then (some false)
    else (fJ l_0 BIG 0)

def oK (again0 : Int → Option Bool) (l_101 : List aD) (i_101 : Int) : Option Bool :=
    again0 (w64 (i_101 + 1))

def oL (again0 : Int → Option Bool) (l_102 : List aD) (i_102 : Int) : Option Bool :=
    oK again0 l_102 i_102

def gU (again0 : Int → Option Bool) (l_2 : List aD) (i_2 : Int) : Nat → Int → Option Bool
  | 0, _ => none
  | k2 + 1, k_2 =>
    bif decide (k_2 < i_2) then ((idx l_2 i_2).bind fun x1 =>
    (idx l_2 k_2).bind fun x2 =>
    (bif decide (x1.Id = x2.Id) then ((idx l_2 i_2).bind fun x3 =>
    (idx l_2 k_2).bind fun x4 =>
    some (!decide (x3 = x4))) else (some false)).bind fun b5 =>
    bif b5 then (some true)
    else ((gU again0 l_2 i_2 k2) (w64 (k_2 + 1))))
    else (oL again0 l_2 i_2)

def oJ : Option Bool :=
    some false

def eX (l_0 : List aD) : Nat → Int → Option Bool
  | 0, _ => none
  | k0 + 1, i_0 =>
    bif decide (i_0 < (l_0.length : Int)) then (gU (eX l_0 k0) l_0 i_0 BIG 0)
    else (oJ)

def lQ (l_0 : List aD) : Option Bool :=
    eX l_0 BIG 0

def iB (l_0 : aS) : Option Int :=
    (kG l_0).bind fun r2 =>
    bif !r2 then (some 40)
    else ((lQ l_0.Reports).bind fun r3 =>
    bif r3 then (some 41)
    else (some 0))

def jY (l_100 : aS) : Option Bool :=
    (bif decide (5 < l_100.Players) then (some true) else (some (decide (10 < (l_100.Reports.length : Int))))).bind fun b6 =>
    some b6

def fM (l_0 : aS) : Nat → Int → Option Bool
  | 0, _ => none
  | k0 + 1, i_0 =>
    bif decide (i_0 < (l_0.Reports.length : Int)) then ((idx l_0.Reports i_0).bind fun x5 =>
    bif decide (150 < x5.Week) then (some true)
    else ((fM l_0 k0) (w64 (i_0 + 1))))
    else (jY l_0)

def gD (l_0 : aS) : Option Bool :=
    (bif decide (60 < (l_0.Reports.length : Int)) then (some true) else (some (decide (20 < (l_0.Bans.length : Int))))).bind fun b2 =>
    (bif b2 then (some true) else (some (decide (20 < (l_0.Frozen.length : Int))))).bind fun b3 =>
    bif b3 then (some true)
    else ((iB l_0).bind fun r4 =>
    bif !decide (r4 = 0) then (some false)
    else (fM l_0 BIG 0))

def mD (week_0 : Int) : Option Bool :=
    (bif decide (250 < week_0) then (some (decide (week_0 ≤ 400))) else (some false)).bind fun b1 =>
    some b1

def oU : Option aS :=
    some (aS.mk 3 2 ([(aD.mk 1 0 10 500 false), (aD.mk 2 0 20 300 false), (aD.mk 3 0 30 100 true), (aD.mk 4 1 12 400 false), (aD.mk 5 1 40 200 false), (aD.mk 6 2 15 600 false)]) ([(bC.mk 1 50 55)]) ([(bC.mk 2 20 29)]))

def eR (n_0 : Int) (low_1 : Int) (high_2 : Int) : Option Bool :=
    (bif decide (low_1 ≤ n_0) then (some (decide (n_0 ≤ high_2))) else (some false)).bind fun b1 =>
    some b1

def jL : Option Int :=
    some (-1)

def eF (s_0 : List bC) (f_0 : bC → Option Bool) (t7_0 : Int) : Nat → Int → Option Int
  | 0, _ => none
  | k0 + 1, t8_0 =>
    bif decide (t8_0 < t7_0) then ((idx s_0 t8_0).bind fun x1 =>
    (f_0 x1).bind fun r2 =>
    bif r2 then (some t8_0)
    else ((eF s_0 f_0 t7_0 k0) (w64 (t8_0 + 1))))
    else (jL)

def gG (s_0 : List bC) (f_1 : bC → Option Bool) : Option Int :=
    eF s_0 f_1 (s_0.length : Int) BIG 0

def eE (s_0 : List bC) (f_1 : bC → Option Bool) : Option Bool :=
    (gG s_0 f_1).bind fun r1 =>
    some (decide (0 ≤ r1))

def lS (a_0 : bC) (c_1 : aS) : Option Bool :=
    (eR a_0.Player 0 (w64 (c_1.Players - 1))).bind fun r2 =>
    (bif !r2 then (some true) else (some (decide (a_0.To < a_0.From)))).bind fun b3 =>
    (bif b3 then (some true) else ((eR a_0.From 0 400).bind fun r4 =>
    some (!r4))).bind fun b5 =>
    (bif b5 then (some true) else ((eR a_0.To 0 400).bind fun r6 =>
    some (!r6))).bind fun b7 =>
    some b7

def lP (l_0 : aS) (all_1 : List bC) : Option Bool :=
    (bif decide ((all_1.length : Int) ≤ 8) then ((eE all_1 (fun y2 => lS y2 l_0)).bind fun r3 =>
    some (!r3)) else (some false)).bind fun b4 =>
    some b4

def mM (b_0 : bC) (c_1 : bC) : Option Bool :=
    (bif decide (c_1.Player = b_0.Player) then (some (decide (c_1.From ≤ b_0.To))) else (some false)).bind fun b2 =>
    (bif b2 then (some (decide (b_0.From ≤ c_1.To))) else (some false)).bind fun b3 =>
    some b3

def qP : Option Bool :=
    some true

def iG (t69_2 : List bC) (t70_2 : Int) (l_2 : aS) : Nat → Int → Option Bool
  | 0, _ => none
  | k2 + 1, t71_2 =>
    bif decide (t71_2 < t70_2) then ((idx t69_2 t71_2).bind fun x18 =>
    (sub l_2.Frozen 0 t71_2).bind fun x20 =>
    (eE x20 (fun y21 => mM y21 x18)).bind fun r22 =>
    bif r22 then (some false)
    else ((iG t69_2 t70_2 l_2 k2) (w64 (t71_2 + 1))))
    else (qP)

def qO (l_100 : aS) : Option Bool :=
    (lP l_100 l_100.Bans).bind fun r15 =>
    (bif !r15 then (some true) else ((lP l_100 l_100.Frozen).bind fun r16 =>
    some (!r16))).bind fun b17 =>
    bif b17 then (some false)
    else (iG l_100.Frozen (l_100.Frozen.length : Int) l_100 BIG 0)

def iF (t24_0 : List aD) (t25_0 : Int) (l_0 : aS) : Nat → Int → Option Bool
  | 0, _ => none
  | k0 + 1, t26_0 =>
    bif decide (t26_0 < t25_0) then ((idx t24_0 t26_0).bind fun x6 =>
    (eR x6.Id 0 99).bind fun r8 =>
    (bif !r8 then (some true) else ((eR x6.Player 0 (w64 (l_0.Players - 1))).bind fun r9 =>
    some (!r9))).bind fun b10 =>
    (bif b10 then (some true) else ((eR x6.Week 0 400).bind fun r11 =>
    some (!r11))).bind fun b12 =>
    (bif b12 then (some true) else ((eR x6.Points 0 2000).bind fun r13 =>
    some (!r13))).bind fun b14 =>
    bif b14 then (some false)
    else ((iF t24_0 t25_0 l_0 k0) (w64 (t26_0 + 1))))
    else (qO l_0)

def oB (l_0 : aS) : Option Bool :=
    (eR l_0.Players 1 16).bind fun r2 =>
    (bif !r2 then (some true) else ((eR l_0.Counts 1 20).bind fun r3 =>
    some (!r3))).bind fun b4 =>
    (bif b4 then (some true) else (some (decide (40 < (l_0.Reports.length : Int))))).bind fun b5 =>
    bif b5 then (some false)
    else (iF l_0.Reports (l_0.Reports.length : Int) l_0 BIG 0)

def fB (s_0 : List aD) : Option ((List aD)) :=
    (app 40 ([] : List aD) s_0).bind fun x5 =>
    some x5

def fD (again0 : Int → (List aD) → Option ((List aD))) (a_101 : Int) (b_101 : Int) (cmp_101 : aD → aD → Option Int) (i_101 : Int) (data_101 : List aD) : Option ((List aD)) :=
    again0 (w64 (i_101 + 1)) data_101

def fE (again0 : Int → (List aD) → Option ((List aD))) (a_102 : Int) (b_102 : Int) (cmp_102 : aD → aD → Option Int) (i_102 : Int) (data_102 : List aD) : Option ((List aD)) :=
    fD again0 a_102 b_102 cmp_102 i_102 data_102

def cV (again0 : Int → (List aD) → Option ((List aD))) (a_2 : Int) (b_2 : Int) (cmp_2 : aD → aD → Option Int) (i_2 : Int) : Nat → Int → (List aD) → Option ((List aD))
  | 0, _, _ => none
  | k2 + 1, j_2, data_2 =>
    (bif decide (a_2 < j_2) then ((idx data_2 j_2).bind fun x1 =>
    (idx data_2 (w64 (j_2 - 1))).bind fun x2 =>
    (cmp_2 x1 x2).bind fun r3 =>
    some (decide (r3 < 0))) else (some false)).bind fun b4 =>
    bif b4 then ((idx data_2 (w64 (j_2 - 1))).bind fun x5 =>
    (idx data_2 j_2).bind fun x6 =>
    (idx data_2 j_2).bind fun x7 =>
    (idx (data_2.set j_2.toNat x5) (w64 (j_2 - 1))).bind fun x8 =>
    (cV again0 a_2 b_2 cmp_2 i_2 k2) (w64 (j_2 - 1)) ((data_2.set j_2.toNat x5).set (w64 (j_2 - 1)).toNat x6))
    else (fE again0 a_2 b_2 cmp_2 i_2 data_2)

def fC (data_100 : List aD) : Option ((List aD)) :=
    some data_100

def cO (a_0 : Int) (b_0 : Int) (cmp_0 : aD → aD → Option Int) : Nat → Int → (List aD) → Option ((List aD))
  | 0, _, _ => none
  | k0 + 1, i_0, data_0 =>
    bif decide (i_0 < b_0) then (cV (cO a_0 b_0 cmp_0 k0) a_0 b_0 cmp_0 i_0 BIG i_0 data_0)
    else (fC data_0)

def dG (data_0 : List aD) (a_1 : Int) (b_2 : Int) (cmp_3 : aD → aD → Option Int) : Option ((List aD)) :=
    cO a_1 b_2 cmp_3 BIG (w64 (a_1 + 1)) data_0

def hG (data_100 : List aD) : Option ((List aD)) :=
    some data_100

def dM (a_0 : Int) (b_0 : Int) (n_0 : Int) : Nat → Int → (List aD) → Option ((List aD))
  | 0, _, _ => none
  | k0 + 1, i_0, data_0 =>
    bif decide (i_0 < n_0) then ((idx data_0 (w64 (b_0 + i_0))).bind fun x1 =>
    (idx data_0 (w64 (a_0 + i_0))).bind fun x2 =>
    (idx data_0 (w64 (a_0 + i_0))).bind fun x3 =>
    (idx (data_0.set (w64 (a_0 + i_0)).toNat x1) (w64 (b_0 + i_0))).bind fun x4 =>
    (dM a_0 b_0 n_0 k0) (w64 (i_0 + 1)) ((data_0.set (w64 (a_0 + i_0)).toNat x1).set (w64 (b_0 + i_0)).toNat x2))
    else (hG data_0)

def dY (data_0 : List aD) (a_1 : Int) (b_2 : Int) (n_3 : Int) (cmp_4 : aD → aD → Option Int) : Option ((List aD)) :=
    dM a_1 b_2 n_3 BIG 0 data_0

def iS (m_100 : Int) (cmp_100 : aD → aD → Option Int) (i_100 : Int) (data_100 : List aD) : Option ((List aD)) :=
    (dY data_100 (w64 (m_100 - i_100)) m_100 i_100 cmp_100).bind fun r3 =>
    some r3

def cX (m_0 : Int) (cmp_0 : aD → aD → Option Int) : Nat → Int → Int → (List aD) → Option ((List aD))
  | 0, _, _, _ => none
  | k0 + 1, i_0, j_0, data_0 =>
    bif !decide (i_0 = j_0) then (bif decide (j_0 < i_0) then ((dY data_0 (w64 (m_0 - i_0)) m_0 j_0 cmp_0).bind fun r1 =>
    (cX m_0 cmp_0 k0) (w64 (i_0 - j_0)) j_0 r1)
    else ((dY data_0 (w64 (m_0 - i_0)) (w64 ((w64 (m_0 + j_0)) - i_0)) i_0 cmp_0).bind fun r2 =>
    (cX m_0 cmp_0 k0) i_0 (w64 (j_0 - i_0)) r2))
    else (iS m_0 cmp_0 i_0 data_0)

def eS (data_0 : List aD) (a_1 : Int) (m_2 : Int) (b_3 : Int) (cmp_4 : aD → aD → Option Int) : Option ((List aD)) :=
    cX m_2 cmp_4 BIG (w64 (m_2 - a_1)) (w64 (b_3 - m_2)) data_0

def iJ (againR : (List aD) → Int → Int → Int → Option ((List aD))) (data_102 : List aD) : Option ((List aD)) :=
    some data_102

def dP (againR : (List aD) → Int → Int → Int → Option ((List aD))) (i_2 : Int) : Nat → Int → (List aD) → Option ((List aD))
  | 0, _, _ => none
  | k2 + 1, k_2, data_2 =>
    bif decide (k_2 < (w64 (i_2 - 1))) then ((idx data_2 (w64 (k_2 + 1))).bind fun x4 =>
    (idx data_2 k_2).bind fun x5 =>
    (idx data_2 k_2).bind fun x6 =>
    (idx (data_2.set k_2.toNat x4) (w64 (k_2 + 1))).bind fun x7 =>
    (dP againR i_2 k2) (w64 (k_2 + 1)) ((data_2.set k_2.toNat x4).set (w64 (k_2 + 1)).toNat x5))
    else (iJ againR data_2)

def fW (againR : (List aD) → Int → Int → Int → Option ((List aD))) (a_100 : Int) (i_100 : Int) (data_100 : List aD) : Option ((List aD)) :=
    dP againR i_100 BIG a_100 data_100

def cQ (againR : (List aD) → Int → Int → Int → Option ((List aD))) (a_0 : Int) (cmp_0 : aD → aD → Option Int) (data_0 : List aD) : Nat → Int → Int → Option ((List aD))
  | 0, _, _ => none
  | k0 + 1, i_0, j_0 =>
    bif decide (i_0 < j_0) then ((idx data_0 (w64 ((IntKind.u64.wrap (w64 (i_0 + j_0))).fdiv (2 ^ (min (1 : Int).toNat 64))))).bind fun x1 =>
    (idx data_0 a_0).bind fun x2 =>
    (cmp_0 x1 x2).bind fun r3 =>
    bif decide (r3 < 0) then ((cQ againR a_0 cmp_0 data_0 k0) (w64 ((w64 ((IntKind.u64.wrap (w64 (i_0 + j_0))).fdiv (2 ^ (min (1 : Int).toNat 64)))) + 1)) j_0)
    else ((cQ againR a_0 cmp_0 data_0 k0) i_0 (w64 ((IntKind.u64.wrap (w64 (i_0 + j_0))).fdiv (2 ^ (min (1 : Int).toNat 64))))))
    else (fW againR a_0 i_0 data_0)

def iK (againR : (List aD) → Int → Int → Int → Option ((List aD))) (data_106 : List aD) : Option ((List aD)) :=
    some data_106

def dQ (againR : (List aD) → Int → Int → Int → Option ((List aD))) (i_6 : Int) : Nat → Int → (List aD) → Option ((List aD))
  | 0, _, _ => none
  | k6 + 1, k_6, data_6 =>
    bif decide (i_6 < k_6) then ((idx data_6 (w64 (k_6 - 1))).bind fun x11 =>
    (idx data_6 k_6).bind fun x12 =>
    (idx data_6 k_6).bind fun x13 =>
    (idx (data_6.set k_6.toNat x11) (w64 (k_6 - 1))).bind fun x14 =>
    (dQ againR i_6 k6) (w64 (k_6 - 1)) ((data_6.set k_6.toNat x11).set (w64 (k_6 - 1)).toNat x12))
    else (iK againR data_6)

def fX (againR : (List aD) → Int → Int → Int → Option ((List aD))) (m_104 : Int) (i_104 : Int) (data_104 : List aD) : Option ((List aD)) :=
    dQ againR i_104 BIG m_104 data_104

def cR (againR : (List aD) → Int → Int → Int → Option ((List aD))) (m_4 : Int) (cmp_4 : aD → aD → Option Int) (data_4 : List aD) : Nat → Int → Int → Option ((List aD))
  | 0, _, _ => none
  | k4 + 1, i_4, j_4 =>
    bif decide (i_4 < j_4) then ((idx data_4 m_4).bind fun x8 =>
    (idx data_4 (w64 ((IntKind.u64.wrap (w64 (i_4 + j_4))).fdiv (2 ^ (min (1 : Int).toNat 64))))).bind fun x9 =>
    (cmp_4 x8 x9).bind fun r10 =>
    bif !(decide (r10 < 0)) then ((cR againR m_4 cmp_4 data_4 k4) (w64 ((w64 ((IntKind.u64.wrap (w64 (i_4 + j_4))).fdiv (2 ^ (min (1 : Int).toNat 64)))) + 1)) j_4)
    else ((cR againR m_4 cmp_4 data_4 k4) i_4 (w64 ((IntKind.u64.wrap (w64 (i_4 + j_4))).fdiv (2 ^ (min (1 : Int).toNat 64))))))
    else (fX againR m_4 i_4 data_4)

def dA (againR : (List aD) → Int → Int → Int → Option ((List aD))) (a_108 : Int) (m_108 : Int) (b_108 : Int) (cmp_108 : aD → aD → Option Int) (mid_108 : Int) (n_108 : Int) (start_108 : Int) (data_108 : List aD) : Option ((List aD)) :=
    (bif decide (start_108 < m_108) then (some (decide (m_108 < (w64 (n_108 - start_108))))) else (some false)).bind fun b18 =>
    bif b18 then ((eS data_108 start_108 m_108 (w64 (n_108 - start_108)) cmp_108).bind fun r19 =>
    (bif decide (a_108 < start_108) then (some (decide (start_108 < mid_108))) else (some false)).bind fun b20 =>
    bif b20 then ((againR r19 a_108 start_108 mid_108).bind fun r21 =>
    (bif decide (mid_108 < (w64 (n_108 - start_108))) then (some (decide ((w64 (n_108 - start_108)) < b_108))) else (some false)).bind fun b22 =>
    bif b22 then ((againR r21 mid_108 (w64 (n_108 - start_108)) b_108).bind fun r23 =>
    some r23)
    else (some r21))
    else ((bif decide (mid_108 < (w64 (n_108 - start_108))) then (some (decide ((w64 (n_108 - start_108)) < b_108))) else (some false)).bind fun b24 =>
    bif b24 then ((againR r19 mid_108 (w64 (n_108 - start_108)) b_108).bind fun r25 =>
    some r25)
    else (some r19)))
    else ((bif decide (a_108 < start_108) then (some (decide (start_108 < mid_108))) else (some false)).bind fun b26 =>
    bif b26 then ((againR data_108 a_108 start_108 mid_108).bind fun r27 =>
    (bif decide (mid_108 < (w64 (n_108 - start_108))) then (some (decide ((w64 (n_108 - start_108)) < b_108))) else (some false)).bind fun b28 =>
    bif b28 then ((againR r27 mid_108 (w64 (n_108 - start_108)) b_108).bind fun r29 =>
    some r29)
    else (some r27))
    else ((bif decide (mid_108 < (w64 (n_108 - start_108))) then (some (decide ((w64 (n_108 - start_108)) < b_108))) else (some false)).bind fun b30 =>
    bif b30 then ((againR data_108 mid_108 (w64 (n_108 - start_108)) b_108).bind fun r31 =>
    some r31)
    else (some data_108)))

def cH (againR : (List aD) → Int → Int → Int → Option ((List aD))) (a_8 : Int) (m_8 : Int) (b_8 : Int) (cmp_8 : aD → aD → Option Int) (mid_8 : Int) (n_8 : Int) (p_8 : Int) (data_8 : List aD) : Nat → Int → Int → Option ((List aD))
  | 0, _, _ => none
  | k8 + 1, start_8, r_8 =>
    bif decide (start_8 < r_8) then ((idx data_8 (w64 (p_8 - (w64 ((IntKind.u64.wrap (w64 (start_8 + r_8))).fdiv (2 ^ (min (1 : Int).toNat 64))))))).bind fun x15 =>
    (idx data_8 (w64 ((IntKind.u64.wrap (w64 (start_8 + r_8))).fdiv (2 ^ (min (1 : Int).toNat 64))))).bind fun x16 =>
    (cmp_8 x15 x16).bind fun r17 =>
    bif !(decide (r17 < 0)) then ((cH againR a_8 m_8 b_8 cmp_8 mid_8 n_8 p_8 data_8 k8) (w64 ((w64 ((IntKind.u64.wrap (w64 (start_8 + r_8))).fdiv (2 ^ (min (1 : Int).toNat 64)))) + 1)) r_8)
    else ((cH againR a_8 m_8 b_8 cmp_8 mid_8 n_8 p_8 data_8 k8) start_8 (w64 ((IntKind.u64.wrap (w64 (start_8 + r_8))).fdiv (2 ^ (min (1 : Int).toNat 64))))))
    else (dA againR a_8 m_8 b_8 cmp_8 mid_8 n_8 start_8 data_8)

def bK (cmp_4 : aD → aD → Option Int) : Nat → (List aD) → Int → Int → Int → Option ((List aD))
  | 0, _, _, _, _ => none
  | kr + 1, data_0, a_1, m_2, b_3 =>
    bif decide ((w64 (m_2 - a_1)) = 1) then (cQ (bK cmp_4 kr) a_1 cmp_4 data_0 BIG m_2 b_3)
    else (bif decide ((w64 (b_3 - m_2)) = 1) then (cR (bK cmp_4 kr) m_2 cmp_4 data_0 BIG a_1 m_2)
    else (bif decide ((w64 ((IntKind.u64.wrap (w64 (a_1 + b_3))).fdiv (2 ^ (min (1 : Int).toNat 64)))) < m_2) then (cH (bK cmp_4 kr) a_1 m_2 b_3 cmp_4 (w64 ((IntKind.u64.wrap (w64 (a_1 + b_3))).fdiv (2 ^ (min (1 : Int).toNat 64)))) (w64 ((w64 ((IntKind.u64.wrap (w64 (a_1 + b_3))).fdiv (2 ^ (min (1 : Int).toNat 64)))) + m_2)) (w64 ((w64 ((w64 ((IntKind.u64.wrap (w64 (a_1 + b_3))).fdiv (2 ^ (min (1 : Int).toNat 64)))) + m_2)) - 1)) data_0 BIG (w64 ((w64 ((w64 ((IntKind.u64.wrap (w64 (a_1 + b_3))).fdiv (2 ^ (min (1 : Int).toNat 64)))) + m_2)) - b_3)) (w64 ((IntKind.u64.wrap (w64 (a_1 + b_3))).fdiv (2 ^ (min (1 : Int).toNat 64)))))
    else (cH (bK cmp_4 kr) a_1 m_2 b_3 cmp_4 (w64 ((IntKind.u64.wrap (w64 (a_1 + b_3))).fdiv (2 ^ (min (1 : Int).toNat 64)))) (w64 ((w64 ((IntKind.u64.wrap (w64 (a_1 + b_3))).fdiv (2 ^ (min (1 : Int).toNat 64)))) + m_2)) (w64 ((w64 ((w64 ((IntKind.u64.wrap (w64 (a_1 + b_3))).fdiv (2 ^ (min (1 : Int).toNat 64)))) + m_2)) - 1)) data_0 BIG a_1 m_2)))

def gI (data_0 : List aD) (a_1 : Int) (m_2 : Int) (b_3 : Int) (cmp_4 : aD → aD → Option Int) : Option ((List aD)) := bK cmp_4 BIG data_0 a_1 m_2 b_3

def fG (again2 : Int → (List aD) → Option ((List aD))) (n_103 : Int) (cmp_103 : aD → aD → Option Int) (blockSize_103 : Int) (data_103 : List aD) : Option ((List aD)) :=
    again2 blockSize_103 data_103

def iV (again2 : Int → (List aD) → Option ((List aD))) (n_104 : Int) (cmp_104 : aD → aD → Option Int) (blockSize_104 : Int) (a_104 : Int) (data_104 : List aD) : Option ((List aD)) :=
    bif decide ((w64 (a_104 + blockSize_104)) < n_104) then ((gI data_104 a_104 (w64 (a_104 + blockSize_104)) n_104 cmp_104).bind fun r4 =>
    fG again2 n_104 cmp_104 (w64 (blockSize_104 * 2)) r4)
    else (fG again2 n_104 cmp_104 (w64 (blockSize_104 * 2)) data_104)

def dX (again2 : Int → (List aD) → Option ((List aD))) (n_4 : Int) (cmp_4 : aD → aD → Option Int) (blockSize_4 : Int) : Nat → Int → Int → (List aD) → Option ((List aD))
  | 0, _, _, _ => none
  | k4 + 1, a_4, b_4, data_4 =>
    bif decide (b_4 ≤ n_4) then ((gI data_4 a_4 (w64 (a_4 + blockSize_4)) b_4 cmp_4).bind fun r3 =>
    (dX again2 n_4 cmp_4 blockSize_4 k4) b_4 (w64 (b_4 + (w64 (2 * blockSize_4)))) r3)
    else (iV again2 n_4 cmp_4 blockSize_4 a_4 data_4)

def iU (data_102 : List aD) : Option ((List aD)) :=
    some data_102

def cY (n_2 : Int) (cmp_2 : aD → aD → Option Int) : Nat → Int → (List aD) → Option ((List aD))
  | 0, _, _ => none
  | k2 + 1, blockSize_2, data_2 =>
    bif decide (blockSize_2 < n_2) then (dX (cY n_2 cmp_2 k2) n_2 cmp_2 blockSize_2 BIG 0 (w64 (2 * blockSize_2)) data_2)
    else (iU data_2)

def iT (n_100 : Int) (cmp_100 : aD → aD → Option Int) (blockSize_100 : Int) (a_100 : Int) (data_100 : List aD) : Option ((List aD)) :=
    (dG data_100 a_100 n_100 cmp_100).bind fun r2 =>
    cY n_100 cmp_100 BIG blockSize_100 r2

def dW (n_0 : Int) (cmp_0 : aD → aD → Option Int) (blockSize_0 : Int) : Nat → Int → Int → (List aD) → Option ((List aD))
  | 0, _, _, _ => none
  | k0 + 1, a_0, b_0, data_0 =>
    bif decide (b_0 ≤ n_0) then ((dG data_0 a_0 b_0 cmp_0).bind fun r1 =>
    (dW n_0 cmp_0 blockSize_0 k0) b_0 (w64 (b_0 + blockSize_0)) r1)
    else (iT n_0 cmp_0 blockSize_0 a_0 data_0)

def gO (data_0 : List aD) (n_1 : Int) (cmp_2 : aD → aD → Option Int) : Option ((List aD)) :=
    dW n_1 cmp_2 20 BIG 0 20 data_0

def eL (x_0 : List aD) (cmp_1 : aD → aD → Option Int) : Option ((List aD)) :=
    (gO x_0 (x_0.length : Int) cmp_1).bind fun r1 =>
    some r1

def oH (a_0 : aD) (b_1 : aD) : Option Int :=
    some (w64 (a_0.Id - b_1.Id))

def kR (again0 : Int → (List aD) → Option ((List aD))) (k_102 : Int) (s_102 : List aD) : Option ((List aD)) :=
    (chk (decide (0 ≤ k_102) && decide (k_102 ≤ (s_102.length : Int)))).bind fun u9 =>
    (chk (decide (k_102.toNat ≤ s_102.length))).bind fun u10 =>
    (chk (decide (0 ≤ k_102))).bind fun u11 =>
    some (s_102.take k_102.toNat)

def eD (again0 : Int → (List aD) → Option ((List aD))) (s2_2 : Int) : Nat → Int → Int → (List aD) → Option ((List aD))
  | 0, _, _, _ => none
  | k2 + 1, k_2, k2_2, s_2 =>
    bif decide (k2_2 < ((s_2.drop s2_2.toNat).length : Int)) then ((idx (s_2.drop s2_2.toNat) k2_2).bind fun x5 =>
    (idx (s_2.drop s2_2.toNat) (w64 (k2_2 - 1))).bind fun x6 =>
    bif !decide (x5 = x6) then ((idx (s_2.drop s2_2.toNat) k2_2).bind fun x7 =>
    (idx s_2 k_2).bind fun x8 =>
    (eD again0 s2_2 k2) (w64 (k_2 + 1)) (w64 (k2_2 + 1)) (s_2.set k_2.toNat x7))
    else ((eD again0 s2_2 k2) k_2 (w64 (k2_2 + 1)) s_2))
    else (kR again0 k_2 s_2)

def kQ (again0 : Int → (List aD) → Option ((List aD))) (k_101 : Int) (s_101 : List aD) : Option ((List aD)) :=
    again0 (w64 (k_101 + 1)) s_101

def kP (s_100 : List aD) : Option ((List aD)) :=
    some s_100

def dF : Nat → Int → (List aD) → Option ((List aD))
  | 0, _, _ => none
  | k0 + 1, k_0, s_0 =>
    bif decide (k_0 < (s_0.length : Int)) then ((idx s_0 k_0).bind fun x2 =>
    (idx s_0 (w64 (k_0 - 1))).bind fun x3 =>
    bif decide (x2 = x3) then ((chk (decide (0 ≤ k_0) && decide (k_0 ≤ (s_0.length : Int)))).bind fun u4 =>
    eD (dF k0) k_0 BIG k_0 1 s_0)
    else (kQ (dF k0) k_0 s_0))
    else (kP s_0)

def gY (s_0 : List aD) : Option ((List aD)) :=
    bif decide ((s_0.length : Int) < 2) then (some s_0)
    else (dF BIG 1 s_0)

def uB (o7_100 : List aD) : Option ((List aD) × Bool) :=
    some (o7_100, true)

def gN (o7_0 : List aD) : Nat → Int → Option ((List aD) × Bool)
  | 0, _ => none
  | k0 + 1, i_0 =>
    bif decide (i_0 < (o7_0.length : Int)) then ((idx o7_0 i_0).bind fun x9 =>
    (idx o7_0 (w64 (i_0 - 1))).bind fun x10 =>
    bif decide (x9.Id = x10.Id) then (some (([] : List aD), false))
    else ((gN o7_0 k0) (w64 (i_0 + 1))))
    else (uB o7_0)

def mN (all_0 : List aD) : Option ((List aD) × Bool) :=
    (fB all_0).bind fun r2 =>
    (eL r2 (fun y4 y5 => oH y4 y5)).bind fun r6 =>
    (gY r6).bind fun r7 =>
    gN r7 BIG 1

def pG (l_0 : aS) : Option Int :=
    (oB l_0).bind fun r2 =>
    bif !r2 then (some 40)
    else ((mN l_0.Reports).bind fun r3 =>
    bif !r3.2 then (some 41)
    else (some 0))

def oZ (l_0 : aS) : Option ((Option cC) × Int) :=
    (pG l_0).bind fun r2 =>
    bif !decide (r2 = 0) then (some (none, r2))
    else ((mN l_0.Reports).bind fun r3 =>
    some (some (cC.mk (aS.mk l_0.Players l_0.Counts r3.1 l_0.Bans l_0.Frozen)), 0))

def lC (l_0 : aS) (player_1 : Int) (week_2 : Int) : Option ((Option cC) × Int) :=
    (oZ l_0).bind fun r2 =>
    nU r2.1 (bif !decide (r2.2 = 0) then (some (none, r2.2))
    else ((eR player_1 0 (w64 (l_0.Players - 1))).bind fun r6 =>
    (bif !r6 then (some true) else ((eR week_2 0 400).bind fun r7 =>
    some (!r7))).bind fun b8 =>
    bif b8 then (some (none, 1))
    else (some (none, 0)))) fun y3 =>
    bif !decide (r2.2 = 0) then (some (none, r2.2))
    else ((eR player_1 0 (w64 (l_0.Players - 1))).bind fun r9 =>
    (bif !r9 then (some true) else ((eR week_2 0 400).bind fun r10 =>
    some (!r10))).bind fun b11 =>
    bif b11 then (some (none, 1))
    else (some (some y3, 0)))

def qN (n_100 : Int) : Option Int :=
    some n_100

def iE (week_0 : Int) (t18_0 : List bC) (t19_0 : Int) (r_0 : aD) : Nat → Int → Int → Option Int
  | 0, _, _ => none
  | k0 + 1, n_0, t20_0 =>
    bif decide (t20_0 < t19_0) then ((idx t18_0 t20_0).bind fun x2 =>
    bif decide (x2.Player = r_0.Player) then ((iE week_0 t18_0 t19_0 r_0 k0) (w64 (n_0 - (max 0 (w64 ((w64 ((min x2.To week_0) - (max x2.From (w64 (r_0.Week + 1))))) + 1))))) (w64 (t20_0 + 1)))
    else ((iE week_0 t18_0 t19_0 r_0 k0) n_0 (w64 (t20_0 + 1))))
    else (qN n_0)

def jG (b_0 : cC) (r_1 : aD) (week_2 : Int) : Option Int :=
    iE week_2 b_0.Ledger.Frozen (b_0.Ledger.Frozen.length : Int) r_1 BIG (w64 (week_2 - r_1.Week)) 0

def pZ (a_0 : bC) (c_1 : Int) (c_2 : Int) : Option Bool :=
    (bif decide (a_0.Player = c_1) then ((eR c_2 a_0.From a_0.To).bind fun r2 =>
    some r2) else (some false)).bind fun b3 =>
    some b3

def nR (all_0 : List bC) (player_1 : Int) (week_2 : Int) : Option Bool :=
    (eE all_0 (fun y3 => pZ y3 player_1 week_2)).bind fun r4 =>
    some r4

def oX (out_100 : List aD) : Option ((List aD)) :=
    some out_100

def gJ (b_0 : cC) (player_0 : Int) (week_0 : Int) (t14_0 : List aD) (t15_0 : Int) : Nat → Int → (List aD) → Option ((List aD))
  | 0, _, _ => none
  | k0 + 1, t16_0, out_0 =>
    bif decide (t16_0 < t15_0) then ((idx t14_0 t16_0).bind fun x2 =>
    (bif decide (x2.Player = player_0) then (some (decide (x2.Week ≤ week_0))) else (some false)).bind fun b4 =>
    (bif b4 then ((jG b_0 x2 week_0).bind fun r5 =>
    some (decide (r5 < 52))) else (some false)).bind fun b6 =>
    (bif b6 then ((nR b_0.Ledger.Bans player_0 x2.Week).bind fun r7 =>
    some (!r7)) else (some false)).bind fun b8 =>
    bif b8 then ((app 40 out_0 ([x2])).bind fun x9 =>
    (gJ b_0 player_0 week_0 t14_0 t15_0 k0) (w64 (t16_0 + 1)) x9)
    else ((gJ b_0 player_0 week_0 t14_0 t15_0 k0) (w64 (t16_0 + 1)) out_0))
    else (oX out_0)

def jR (b_0 : cC) (player_1 : Int) (week_2 : Int) : Option ((List aD)) :=
    gJ b_0 player_1 week_2 b_0.Ledger.Reports (b_0.Ledger.Reports.length : Int) BIG 0 ([] : List aD)

def sT (zero_100 : Int) : Option Int :=
    some zero_100

def kZ (zero_0 : Int) (t6_0 : List Int) (t7_0 : Int) : Nat → Int → Option Int
  | 0, _ => none
  | k0 + 1, t8_0 =>
    bif decide (t8_0 < t7_0) then ((idx t6_0 t8_0).bind fun x1 =>
    bif !decide (x1 = zero_0) then (some x1)
    else ((kZ zero_0 t6_0 t7_0 k0) (w64 (t8_0 + 1))))
    else (sT zero_0)

def pD (vals_0 : List Int) : Option Int :=
    kZ 0 vals_0 (vals_0.length : Int) BIG 0

def kA (x_0 : aD) (y_1 : aD) : Option Int :=
    (bif !decide (x_0.Must = y_1.Must) then (some x_0.Must) else (some false)).bind fun b3 =>
    bif b3 then (some (-1))
    else (bif !decide (x_0.Must = y_1.Must) then (some 1)
    else ((pD ([w64 (y_1.Points - x_0.Points), w64 (x_0.Id - y_1.Id)])).bind fun r4 =>
    some r4))

def kV (b_100 : cC) (musts_100 : Int) (o10_100 : List aD) : Option ((List aD)) :=
    (sub o10_100 0 (min (o10_100.length : Int) (max musts_100 b_100.Ledger.Counts))).bind fun x8 =>
    some x8

def fV (b_0 : cC) (t14_0 : Int) (o10_0 : List aD) : Nat → Int → Int → Option ((List aD))
  | 0, _, _ => none
  | k0 + 1, musts_0, t15_0 =>
    bif decide (t15_0 < t14_0) then ((idx o10_0 t15_0).bind fun x6 =>
    bif x6.Must then ((fV b_0 t14_0 o10_0 k0) (w64 (musts_0 + 1)) (w64 (t15_0 + 1)))
    else ((fV b_0 t14_0 o10_0 k0) musts_0 (w64 (t15_0 + 1))))
    else (kV b_0 musts_0 o10_0)

def jS (b_0 : cC) (all_1 : List aD) : Option ((List aD)) :=
    (fB all_1).bind fun r1 =>
    (eL r1 (fun y3 y4 => kA y3 y4)).bind fun r5 =>
    fV b_0 (r5.length : Int) r5 BIG 0 0

def uU (n_100 : Int) : Option Int :=
    some n_100

def nC (t5_0 : List aD) (t6_0 : Int) : Nat → Int → Int → Option Int
  | 0, _, _ => none
  | k0 + 1, n_0, t7_0 =>
    bif decide (t7_0 < t6_0) then ((idx t5_0 t7_0).bind fun x1 =>
    (nC t5_0 t6_0 k0) (w64 (n_0 + x1.Points)) (w64 (t7_0 + 1)))
    else (uU n_0)

def sB (l_0 : List aD) : Option Int :=
    nC l_0 (l_0.length : Int) BIG 0 0

def wE (x : Int) : Option Int := zX x

def jW (again0 : Int → (List bJ) → Option ((List bJ))) (a_101 : Int) (b_101 : Int) (cmp_101 : bJ → bJ → Option Int) (i_101 : Int) (data_101 : List bJ) : Option ((List bJ)) :=
    again0 (w64 (i_101 + 1)) data_101

def jX (again0 : Int → (List bJ) → Option ((List bJ))) (a_102 : Int) (b_102 : Int) (cmp_102 : bJ → bJ → Option Int) (i_102 : Int) (data_102 : List bJ) : Option ((List bJ)) :=
    jW again0 a_102 b_102 cmp_102 i_102 data_102

def fI (again0 : Int → (List bJ) → Option ((List bJ))) (a_2 : Int) (b_2 : Int) (cmp_2 : bJ → bJ → Option Int) (i_2 : Int) : Nat → Int → (List bJ) → Option ((List bJ))
  | 0, _, _ => none
  | k2 + 1, j_2, data_2 =>
    (bif decide (a_2 < j_2) then ((idx data_2 j_2).bind fun x1 =>
    (idx data_2 (w64 (j_2 - 1))).bind fun x2 =>
    (cmp_2 x1 x2).bind fun r3 =>
    some (decide (r3 < 0))) else (some false)).bind fun b4 =>
    bif b4 then ((idx data_2 (w64 (j_2 - 1))).bind fun x5 =>
    (idx data_2 j_2).bind fun x6 =>
    (idx data_2 j_2).bind fun x7 =>
    (idx (data_2.set j_2.toNat x5) (w64 (j_2 - 1))).bind fun x8 =>
    (fI again0 a_2 b_2 cmp_2 i_2 k2) (w64 (j_2 - 1)) ((data_2.set j_2.toNat x5).set (w64 (j_2 - 1)).toNat x6))
    else (jX again0 a_2 b_2 cmp_2 i_2 data_2)

def jV (data_100 : List bJ) : Option ((List bJ)) :=
    some data_100

def eJ (a_0 : Int) (b_0 : Int) (cmp_0 : bJ → bJ → Option Int) : Nat → Int → (List bJ) → Option ((List bJ))
  | 0, _, _ => none
  | k0 + 1, i_0, data_0 =>
    bif decide (i_0 < b_0) then (fI (eJ a_0 b_0 cmp_0 k0) a_0 b_0 cmp_0 i_0 BIG i_0 data_0)
    else (jV data_0)

def hB (data_0 : List bJ) (a_1 : Int) (b_2 : Int) (cmp_3 : bJ → bJ → Option Int) : Option ((List bJ)) :=
    eJ a_1 b_2 cmp_3 BIG (w64 (a_1 + 1)) data_0

def iR (cmp_0 : bJ → bJ → Option Int) : Nat → Int → Int → Int → Bool → Bool → (List bJ) → Option ((List bJ))
  | 0, _, _, _, _, _, _ => none
  | k0 + 1, a_0, b_0, limit_0, wasBalanced_0, wasPartitioned_0, data_0 =>
    bif decide ((w64 (b_0 - a_0)) ≤ 12) then ((hB data_0 a_0 b_0 cmp_0).bind fun r1 =>
    some r1)
    else (none)

def jM (data_0 : List bJ) (a_1 : Int) (b_2 : Int) (limit_3 : Int) (cmp_4 : bJ → bJ → Option Int) : Option ((List bJ)) :=
    iR cmp_4 BIG a_1 b_2 limit_3 true true data_0

def lM (x_0 : List bJ) (cmp_1 : bJ → bJ → Option Int) : Option ((List bJ)) :=
    (wE (IntKind.u64.wrap (x_0.length : Int))).bind fun r1 =>
    (jM x_0 0 (x_0.length : Int) r1 cmp_1).bind fun r2 =>
    some r2

def nI (x_0 : bJ) (y_1 : bJ) : Option Int :=
    (pD ([w64 (y_1.points - x_0.points), w64 (y_1.musts - x_0.musts), w64 (x_0.many - y_1.many), w64 (x_0.player - y_1.player)])).bind fun r3 =>
    some r3

def nG (again0 : Int → (List bJ) → Option ((List Int))) (b_101 : cC) (week_101 : Int) (t18_101 : Int) (t19_101 : Int) (lines_101 : List bJ) : Option ((List Int)) :=
    again0 (w64 (t19_101 + 1)) lines_101

def tC (again0 : Int → (List bJ) → Option ((List Int))) (b_102 : cC) (week_102 : Int) (t18_102 : Int) (t19_102 : Int) (lines_102 : List bJ) (x_102 : bJ) : Option ((List Int)) :=
    (app 32 lines_102 ([x_102])).bind fun x10 =>
    nG again0 b_102 week_102 t18_102 t19_102 x10

def lE (again0 : Int → (List bJ) → Option ((List Int))) (b_2 : cC) (week_2 : Int) (t18_2 : Int) (t19_2 : Int) (t47_2 : List aD) (t48_2 : Int) (lines_2 : List bJ) : Nat → Int → bJ → Option ((List Int))
  | 0, _, _ => none
  | k2 + 1, t49_2, x_2 =>
    bif decide (t49_2 < t48_2) then ((idx t47_2 t49_2).bind fun x8 =>
    bif x8.Must then ((lE again0 b_2 week_2 t18_2 t19_2 t47_2 t48_2 lines_2 k2) (w64 (t49_2 + 1)) (bJ.mk x_2.player x_2.points (w64 (x_2.musts + x8.Points)) x_2.many))
    else ((lE again0 b_2 week_2 t18_2 t19_2 t47_2 t48_2 lines_2 k2) (w64 (t49_2 + 1)) x_2))
    else (tC again0 b_2 week_2 t18_2 t19_2 lines_2 x_2)

def tD (out_104 : List Int) : Option ((List Int)) :=
    some out_104

def nH (t70_4 : Int) (lines_4 : List bJ) : Nat → Int → (List Int) → Option ((List Int))
  | 0, _, _ => none
  | k4 + 1, t71_4, out_4 =>
    bif decide (t71_4 < t70_4) then ((idx lines_4 t71_4).bind fun x16 =>
    (app 8 out_4 ([x16.player])).bind fun x18 =>
    (nH t70_4 lines_4 k4) (w64 (t71_4 + 1)) x18)
    else (tD out_4)

def tB (lines_100 : List bJ) : Option ((List Int)) :=
    (lM lines_100 (fun y12 y13 => nI y12 y13)).bind fun r14 =>
    nH (r14.length : Int) r14 BIG 0 ([] : List Int)

def jZ (b_0 : cC) (week_0 : Int) (t18_0 : Int) : Nat → Int → (List bJ) → Option ((List Int))
  | 0, _, _ => none
  | k0 + 1, t19_0, lines_0 =>
    bif decide (t19_0 < t18_0) then ((jR b_0 t19_0 week_0).bind fun r2 =>
    (nR b_0.Ledger.Bans t19_0 week_0).bind fun r3 =>
    (bif r3 then (some true) else (some (decide ((r2.length : Int) = 0)))).bind fun b4 =>
    bif b4 then (nG (jZ b_0 week_0 t18_0 k0) b_0 week_0 t18_0 t19_0 lines_0)
    else ((jS b_0 r2).bind fun r5 =>
    (sB r5).bind fun r6 =>
    lE (jZ b_0 week_0 t18_0 k0) b_0 week_0 t18_0 t19_0 r2 (r2.length : Int) lines_0 BIG 0 (bJ.mk t19_0 r6 0 (r2.length : Int))))
    else (tB lines_0)

def pJ (b_0 : cC) (week_1 : Int) : Option ((List Int)) :=
    jZ b_0 week_1 b_0.Ledger.Players BIG 0 ([] : List bJ)

def xG (l_0 : aS) (week_1 : Int) : Option ((List Int) × Int) :=
    (lC l_0 0 week_1).bind fun r2 =>
    nU r2.1 (bif !decide (r2.2 = 0) then (some (([] : List Int), r2.2))
    else (none)) fun y3 =>
    bif !decide (r2.2 = 0) then (some (([] : List Int), r2.2))
    else ((pJ y3 week_1).bind fun r6 =>
    some (r6, 0))

def pO : Option Int :=
    some (-1)

def kE (s_0 : List Int) (f_0 : Int → Option Bool) (t7_0 : Int) : Nat → Int → Option Int
  | 0, _ => none
  | k0 + 1, t8_0 =>
    bif decide (t8_0 < t7_0) then ((idx s_0 t8_0).bind fun x1 =>
    (f_0 x1).bind fun r2 =>
    bif r2 then (some t8_0)
    else ((kE s_0 f_0 t7_0 k0) (w64 (t8_0 + 1))))
    else (pO)

def nY (s_0 : List Int) (f_1 : Int → Option Bool) : Option Int :=
    kE s_0 f_1 (s_0.length : Int) BIG 0

def kD (s_0 : List Int) (f_1 : Int → Option Bool) : Option Bool :=
    (nY s_0 f_1).bind fun r1 =>
    some (decide (0 ≤ r1))

def rD (n_0 : Int) : Option Bool :=
    (eR n_0 0 2000).bind fun r1 =>
    some (!r1)

def rR : Option Int :=
    some (-1)

def lW (s_0 : List Int) (v_0 : Int) (t7_0 : Int) : Nat → Int → Option Int
  | 0, _ => none
  | k0 + 1, t8_0 =>
    bif decide (t8_0 < t7_0) then ((idx s_0 t8_0).bind fun x1 =>
    bif decide (v_0 = x1) then (some t8_0)
    else ((lW s_0 v_0 t7_0 k0) (w64 (t8_0 + 1))))
    else (rR)

def qQ (s_0 : List Int) (v_1 : Int) : Option Int :=
    lW s_0 v_1 (s_0.length : Int) BIG 0

def rG (b_0 : cC) (player_1 : Int) (week_2 : Int) : Option Int :=
    (pJ b_0 week_2).bind fun r1 =>
    (qQ r1 player_1).bind fun r2 =>
    some (w64 (r2 + 1))

def tY (book : cC) (pl : Int) (wk : Int) (ms : Bool) (be : Int) (wo : Int) : Option (Bool × Int × Int) :=
    (rG book pl wk).bind fun r1 =>
    (bif ms then (some true) else (some (decide (r1 = 0)))).bind fun b2 =>
    some (b2, min be r1, max wo r1)

def rN (n_1 : Int) : Option ((List Int)) :=
    bif decide (n_1 < 0) then (none)
    else (bif decide (0 < (w64 (n_1 - (w64 (0 - 0))))) then ((chk (decide (0 ≤ 0))).bind fun u2 =>
    (chk (decide (0 < (w64 (n_1 - (w64 (0 - 0))))) && decide ((w64 (n_1 - (w64 (0 - 0)))) * ((8 : Nat) : Int) ≤ 140737488355328))).bind fun u3 =>
    (chk (decide (0 ≤ 0))).bind fun u5 =>
    some ([] : List Int))
    else (some ([] : List Int)))

def rL (o24_102 : List Int) : Option ((List Int)) :=
    some o24_102

def lL (t25_2 : List (List Int)) (t26_2 : Int) : Nat → Int → (List Int) → Option ((List Int))
  | 0, _, _ => none
  | k2 + 1, t27_2, o24_2 =>
    bif decide (t27_2 < t26_2) then ((idx t25_2 t27_2).bind fun x4 =>
    (app 8 o24_2 x4).bind fun x5 =>
    (lL t25_2 t26_2 k2) (w64 (t27_2 + 1)) x5)
    else (rL o24_2)

def rK (slices_100 : List (List Int)) (size_100 : Int) : Option ((List Int)) :=
    (rN size_100).bind fun r2 =>
    lL slices_100 (slices_100.length : Int) BIG 0 r2

def lK (slices_0 : List (List Int)) (t9_0 : List (List Int)) (t10_0 : Int) : Nat → Int → Int → Option ((List Int))
  | 0, _, _ => none
  | k0 + 1, size_0, t11_0 =>
    bif decide (t11_0 < t10_0) then ((idx t9_0 t11_0).bind fun x1 =>
    bif decide ((w64 (size_0 + (x1.length : Int))) < 0) then (none)
    else ((lK slices_0 t9_0 t10_0 k0) (w64 (size_0 + (x1.length : Int))) (w64 (t11_0 + 1))))
    else (rK slices_0 size_0)

def pT (slices_0 : List (List Int)) : Option ((List Int)) :=
    lK slices_0 slices_0 (slices_0.length : Int) BIG 0 0

def rF (againR : cC → Int → Int → Bool → Int → Int → Int → (List Int) → (List Int) → Option (cC × Bool × Int × Int)) (many_100 : Int) (b_100 : cC) (b_100_2 : Int) (b_100_3 : Int) (b_100_4 : Bool) (b_100_5 : Int) (b_100_6 : Int) : Option (cC × Bool × Int × Int) :=
    (sub b_100.Ledger.Reports 0 many_100).bind fun x12 =>
    some ((cC.mk (aS.mk b_100.Ledger.Players b_100.Ledger.Counts x12 b_100.Ledger.Bans b_100.Ledger.Frozen)), b_100_4, b_100_5, b_100_6)

def lI (againR : cC → Int → Int → Bool → Int → Int → Int → (List Int) → (List Int) → Option (cC × Bool × Int × Int)) (week_0 : Int) (prizes_0 : List Int) (free_0 : List Int) (many_0 : Int) (t29_0 : List Int) (t30_0 : Int) (b_0_2 : Int) (b_0_3 : Int) : Nat → Int → cC → Bool → Int → Int → Option (cC × Bool × Int × Int)
  | 0, _, _, _, _, _ => none
  | k0 + 1, t31_0, b_0, b_0_4, b_0_5, b_0_6 =>
    bif decide (t31_0 < t30_0) then ((idx t29_0 t31_0).bind fun x3 =>
    (sub b_0.Ledger.Reports 0 many_0).bind fun x4 =>
    (idx prizes_0 0).bind fun x5 =>
    (app 40 x4 ([(aD.mk (w64 (100 + many_0)) x3 week_0 x5 false)])).bind fun x6 =>
    (sub prizes_0 1 (prizes_0.length : Int)).bind fun x7 =>
    (sub free_0 0 t31_0).bind fun x8 =>
    (sub free_0 (w64 (t31_0 + 1)) (free_0.length : Int)).bind fun x9 =>
    (pT ([x8, x9])).bind fun r10 =>
    (againR (cC.mk (aS.mk b_0.Ledger.Players b_0.Ledger.Counts x6 b_0.Ledger.Bans b_0.Ledger.Frozen)) b_0_2 b_0_3 b_0_4 b_0_5 b_0_6 week_0 x7 r10).bind fun r11 =>
    (lI againR week_0 prizes_0 free_0 many_0 t29_0 t30_0 b_0_2 b_0_3 k0) (w64 (t31_0 + 1)) r11.1 r11.2.1 r11.2.2.1 r11.2.2.2)
    else (rF againR many_0 b_0 b_0_2 b_0_3 b_0_4 b_0_5 b_0_6)

def kJ : Nat → cC → Int → Int → Bool → Int → Int → Int → (List Int) → (List Int) → Option (cC × Bool × Int × Int)
  | 0, _, _, _, _, _, _, _, _, _ => none
  | kr + 1, book, pl, wk, ms, be, wo, week_1, prizes_2, free_3 =>
    (bif decide ((prizes_2.length : Int) = 0) then (some true) else (some (decide ((free_3.length : Int) = 0)))).bind fun b1 =>
    bif b1 then ((tY book pl wk ms be wo).bind fun r2 =>
    some (book, r2.1, r2.2.1, r2.2.2))
    else (lI (kJ kr) week_1 prizes_2 free_3 (book.Ledger.Reports.length : Int) free_3 (free_3.length : Int) pl wk BIG 0 book ms be wo)

def tA : cC → Int → Int → Bool → Int → Int → Int → (List Int) → (List Int) → Option (cC × Bool × Int × Int) := kJ BIG

def wF (prizes_100 : List Int) (player_100 : Int) (week_100 : Int) (best_100 : Int) (worst_100 : Int) (free_100 : List Int) (o19_100 : List aD) (o19_100_2 : Int) (o19_100_3 : Int) (o19_100_4 : List bC) (o19_100_5 : List bC) : Option (Int × Int × Int) :=
    (tA (cC.mk (aS.mk o19_100_2 o19_100_3 o19_100 o19_100_4 o19_100_5)) player_100 week_100 false (w64 (o19_100_2 + 1)) 0 week_100 prizes_100 free_100).bind fun r24 =>
    bif r24.2.1 then (some (0, 0, 3))
    else (some (r24.2.2.1, r24.2.2.2, 0))

def oA (prizes_0 : List Int) (t36_0 : Int) (player_0 : Int) (week_0 : Int) (best_0 : Int) (worst_0 : Int) (o19_0 : List aD) (o19_0_2 : Int) (o19_0_3 : Int) (o19_0_4 : List bC) (o19_0_5 : List bC) : Nat → Int → (List Int) → Option (Int × Int × Int)
  | 0, _, _ => none
  | k0 + 1, t37_0, free_0 =>
    bif decide (t37_0 < t36_0) then ((nR o19_0_4 t37_0 week_0).bind fun r20 =>
    bif !r20 then ((app 8 free_0 ([t37_0])).bind fun x21 =>
    (oA prizes_0 t36_0 player_0 week_0 best_0 worst_0 o19_0 o19_0_2 o19_0_3 o19_0_4 o19_0_5 k0) (w64 (t37_0 + 1)) x21)
    else ((oA prizes_0 t36_0 player_0 week_0 best_0 worst_0 o19_0 o19_0_2 o19_0_3 o19_0_4 o19_0_5 k0) (w64 (t37_0 + 1)) free_0))
    else (wF prizes_0 player_0 week_0 best_0 worst_0 free_0 o19_0 o19_0_2 o19_0_3 o19_0_4 o19_0_5)

def vU (l_0 : aS) (player_1 : Int) (week_2 : Int) (prizes_3 : List Int) : Option (Int × Int × Int) :=
    (lC l_0 player_1 week_2).bind fun r6 =>
    nU r6.1 (bif !decide (r6.2 = 0) then (some (0, 0, r6.2))
    else ((bif decide (4 < (prizes_3.length : Int)) then (some true) else ((kD prizes_3 (fun y11 => rD y11)).bind fun r12 =>
    some r12)).bind fun b13 =>
    bif b13 then (some (0, 0, 42))
    else (none))) fun y7 =>
    bif !decide (r6.2 = 0) then (some (0, 0, r6.2))
    else ((bif decide (4 < (prizes_3.length : Int)) then (some true) else ((kD prizes_3 (fun y16 => rD y16)).bind fun r17 =>
    some r17)).bind fun b18 =>
    bif b18 then (some (0, 0, 42))
    else (oA prizes_3 y7.Ledger.Players player_1 week_2 0 0 y7.Ledger.Reports y7.Ledger.Players y7.Ledger.Counts y7.Ledger.Bans y7.Ledger.Frozen BIG 0 ([] : List Int)))

def jK (b_0 : cC) (player_1 : Int) (week_2 : Int) : Option Int :=
    (jR b_0 player_1 week_2).bind fun r1 =>
    (jS b_0 r1).bind fun r2 =>
    (sB r2).bind fun r3 =>
    some r3

def jT : Option Int :=
    some (-1)

def eI (s_0 : List aD) (f_0 : aD → Option Bool) (t7_0 : Int) : Nat → Int → Option Int
  | 0, _ => none
  | k0 + 1, t8_0 =>
    bif decide (t8_0 < t7_0) then ((idx s_0 t8_0).bind fun x1 =>
    (f_0 x1).bind fun r2 =>
    bif r2 then (some t8_0)
    else ((eI s_0 f_0 t7_0 k0) (w64 (t8_0 + 1))))
    else (jT)

def dK (s_0 : List aD) (f_1 : aD → Option Bool) : Option Int :=
    eI s_0 f_1 (s_0.length : Int) BIG 0

def lX (i_100 : Int) (s_100 : List aD) : Option ((List aD)) :=
    (chk (decide (0 ≤ i_100) && decide (i_100 ≤ (s_100.length : Int)))).bind fun u7 =>
    (chk (decide (i_100.toNat ≤ s_100.length))).bind fun u8 =>
    (chk (decide (0 ≤ i_100))).bind fun u9 =>
    some (s_100.take i_100.toNat)

def fO (del_0 : aD → Option Bool) : Nat → Int → Int → (List aD) → Option ((List aD))
  | 0, _, _, _ => none
  | k0 + 1, i_0, j_0, s_0 =>
    bif decide (j_0 < (s_0.length : Int)) then ((idx s_0 j_0).bind fun x3 =>
    (del_0 x3).bind fun r5 =>
    bif !r5 then ((idx s_0 i_0).bind fun x6 =>
    (fO del_0 k0) (w64 (i_0 + 1)) (w64 (j_0 + 1)) (s_0.set i_0.toNat x3))
    else ((fO del_0 k0) i_0 (w64 (j_0 + 1)) s_0))
    else (lX i_0 s_0)

def kS (s_0 : List aD) (del_1 : aD → Option Bool) : Option ((List aD)) :=
    (dK s_0 del_1).bind fun r2 =>
    bif decide (r2 = (-1)) then (some s_0)
    else (fO del_1 BIG r2 (w64 (r2 + 1)) s_0)

def pH (r_0 : aD) (c_1 : Int) : Option Bool :=
    some (decide (c_1 < r_0.Week))

def tX (l_0 : aS) (player_1 : Int) (week_2 : Int) : Option (Int × Int) :=
    (lC l_0 player_1 week_2).bind fun r3 =>
    nU r3.1 (bif !decide (r3.2 = 0) then (some (0, r3.2))
    else (bif decide (400 ≤ week_2) then (some (0, 1))
    else (none))) fun y4 =>
    bif !decide (r3.2 = 0) then (some (0, r3.2))
    else (bif decide (400 ≤ week_2) then (some (0, 1))
    else ((jK y4 player_1 week_2).bind fun r7 =>
    (kS y4.Ledger.Reports (fun y8 => pH y8 week_2)).bind fun r9 =>
    (jK (cC.mk (aS.mk y4.Ledger.Players y4.Ledger.Counts r9 y4.Ledger.Bans y4.Ledger.Frozen)) player_1 (w64 (week_2 + 1))).bind fun r11 =>
    some (w64 (r7 - r11), 0)))

def mR : Option Bool :=
    some true

def fY (a_0 : List Int) (b_0 : List Int) : Nat → Int → Option Bool
  | 0, _ => none
  | k0 + 1, i_0 =>
    bif decide (i_0 < (a_0.length : Int)) then ((idx a_0 i_0).bind fun x1 =>
    (idx b_0 i_0).bind fun x2 =>
    bif !decide (x1 = x2) then (some false)
    else ((fY a_0 b_0 k0) (w64 (i_0 + 1))))
    else (mR)

def iW (a_0 : List Int) (b_1 : List Int) : Option Bool :=
    bif !decide ((a_0.length : Int) = (b_1.length : Int)) then (some false)
    else (fY a_0 b_1 BIG 0)

def kK : Option Bool :=
    (oU).bind fun r1 =>
    (xG r1 40).bind fun r3 =>
    (vU r1 1 40 ([300])).bind fun r4 =>
    (tX r1 0 61).bind fun r5 =>
    (bif decide (r3.2 = 0) then (some (decide (r4.2.2 = 0))) else (some false)).bind fun b6 =>
    (bif b6 then (some (decide (r5.2 = 0))) else (some false)).bind fun b7 =>
    (bif b7 then ((iW r3.1 ([0, 2, 1])).bind fun r8 =>
    some r8) else (some false)).bind fun b9 =>
    (bif b9 then (some (decide (r4.1 = 1))) else (some false)).bind fun b10 =>
    (bif b10 then (some (decide (r4.2.1 = 3))) else (some false)).bind fun b11 =>
    (bif b11 then (some (decide (r5.1 = 200))) else (some false)).bind fun b12 =>
    some b12

def mI (l_0 : aS) : Option aS :=
    (app 40 ([] : List aD) l_0.Reports).bind fun x4 =>
    (app 24 ([] : List bC) l_0.Bans).bind fun x5 =>
    (app 24 ([] : List bC) l_0.Frozen).bind fun x6 =>
    some (aS.mk l_0.Players l_0.Counts x4 x5 x6)

def nX (r_0 : aD) (c_1 : Int) : Option Bool :=
    some (decide (r_0.Id = c_1))

def nB (l_0 : aS) (id_1 : Int) (week_2 : Int) : Option (Int × Int) :=
    (lC l_0 0 week_2).bind fun r3 =>
    nU r3.1 (bif !decide (r3.2 = 0) then (some (0, r3.2))
    else (none)) fun y4 =>
    bif !decide (r3.2 = 0) then (some (0, r3.2))
    else ((dK y4.Ledger.Reports (fun y7 => nX y7 id_1)).bind fun r8 =>
    (bif decide (r8 < 0) then (some true) else ((idx y4.Ledger.Reports r8).bind fun x9 =>
    some (decide (week_2 < x9.Week)))).bind fun b10 =>
    bif b10 then (some (0, 3))
    else ((idx y4.Ledger.Reports r8).bind fun x11 =>
    (jG y4 x11 week_2).bind fun r12 =>
    some (r12, 0)))

def oW : Option Bool :=
    some false

def iA (l_0 : List bC) (player_0 : Int) (week_0 : Int) : Nat → Int → Option Bool
  | 0, _ => none
  | k0 + 1, i_0 =>
    bif decide (i_0 < (l_0.length : Int)) then ((idx l_0 i_0).bind fun x1 =>
    (bif decide (x1.Player = player_0) then ((idx l_0 i_0).bind fun x2 =>
    (idx l_0 i_0).bind fun x3 =>
    (dT week_0 x2.From x3.To).bind fun r4 =>
    some r4) else (some false)).bind fun b5 =>
    bif b5 then (some true)
    else ((iA l_0 player_0 week_0 k0) (w64 (i_0 + 1))))
    else (oW)

def jN (l_0 : List bC) (player_1 : Int) (week_2 : Int) : Option Bool :=
    iA l_0 player_1 week_2 BIG 0

def pP (n_100 : Int) : Option Int :=
    some n_100

def gR (week_0 : Int) (l_0 : aS) (r_0 : aD) : Nat → Int → Int → Option Int
  | 0, _, _ => none
  | k0 + 1, n_0, w_0 =>
    bif decide (w_0 ≤ week_0) then ((jN l_0.Frozen r_0.Player w_0).bind fun r3 =>
    bif !r3 then ((gR week_0 l_0 r_0 k0) (w64 (n_0 + 1)) (w64 (w_0 + 1)))
    else ((gR week_0 l_0 r_0 k0) n_0 (w64 (w_0 + 1))))
    else (pP n_0)

def kM (l_0 : aS) (r_1 : aD) (week_2 : Int) : Option Int :=
    gR week_2 l_0 r_1 BIG 0 (w64 (r_1.Week + 1))

def sY : Option (Int × Int) :=
    some (0, 3)

def fF (id_0 : Int) (week_0 : Int) (l_0 : aS) : Nat → Int → Option (Int × Int)
  | 0, _ => none
  | k0 + 1, i_0 =>
    bif decide (i_0 < (l_0.Reports.length : Int)) then ((idx l_0.Reports i_0).bind fun x4 =>
    (bif decide (x4.Id = id_0) then (some (decide (x4.Week ≤ week_0))) else (some false)).bind fun b6 =>
    bif b6 then ((kM l_0 x4 week_0).bind fun r7 =>
    some (r7, 0))
    else ((fF id_0 week_0 l_0 k0) (w64 (i_0 + 1))))
    else (sY)

def kL (l_0 : aS) (id_1 : Int) (week_2 : Int) : Option (Int × Int) :=
    (iB l_0).bind fun r2 =>
    bif !decide (r2 = 0) then (some (0, r2))
    else ((dT week_2 0 400).bind fun r3 =>
    bif !r3 then (some (0, 1))
    else (fF id_1 week_2 l_0 BIG 0))

def slices_Sort_int (x : List Int) : Option (List Int) := if x.length < 4611686018427387904 then some (qG x) else none

def qF (out_100 : List Int) : Option ((List Int) × Int) :=
    (slices_Sort_int out_100).bind fun r14 =>
    some (r14, 0)

def lB (t28_0 : List aD) (t29_0 : Int) : Nat → Int → (List Int) → Option ((List Int) × Int)
  | 0, _, _ => none
  | k0 + 1, t30_0, out_0 =>
    bif decide (t30_0 < t29_0) then ((idx t28_0 t30_0).bind fun x10 =>
    (app 8 out_0 ([x10.Id])).bind fun x12 =>
    (lB t28_0 t29_0 k0) (w64 (t30_0 + 1)) x12)
    else (qF out_0)

def mL (l_0 : aS) (player_1 : Int) (week_2 : Int) : Option ((List Int) × Int) :=
    (lC l_0 player_1 week_2).bind fun r2 =>
    nU r2.1 (bif !decide (r2.2 = 0) then (some (([] : List Int), r2.2))
    else (none)) fun y3 =>
    bif !decide (r2.2 = 0) then (some (([] : List Int), r2.2))
    else ((jR y3 player_1 week_2).bind fun r8 =>
    (jS y3 r8).bind fun r9 =>
    lB r9 (r9.length : Int) BIG 0 ([] : List Int))

def iX (l_0 : aS) (player_1 : Int) (week_2 : Int) : Option Int :=
    (iB l_0).bind fun r2 =>
    bif !decide (r2 = 0) then (some r2)
    else ((dT player_1 0 (w64 (l_0.Players - 1))).bind fun r3 =>
    (bif !r3 then (some true) else ((dT week_2 0 400).bind fun r4 =>
    some (!r4))).bind fun b5 =>
    bif b5 then (some 1)
    else (some 0))

def gP (again0 : (List aD) → Int → Option ((List aD))) (l_101 : List aD) (out_101 : List aD) (i_101 : Int) : Option ((List aD)) :=
    again0 out_101 (w64 (i_101 + 1))

def jE (again0 : (List aD) → Int → Option ((List aD))) (l_102 : List aD) (out_102 : List aD) (i_102 : Int) (atv_102 : Int) (known_102 : Bool) : Option ((List aD)) :=
    bif !known_102 then ((idx l_102 i_102).bind fun x6 =>
    (sub out_102 atv_102 (out_102.length : Int)).bind fun x7 =>
    (app 40 ([x6]) x7).bind fun x8 =>
    (sub out_102 0 atv_102).bind fun x10 =>
    (app 40 ([] : List aD) x10).bind fun x11 =>
    (app 40 x11 x8).bind fun x13 =>
    gP again0 l_102 x13 i_102)
    else (gP again0 l_102 out_102 i_102)

def eP (again0 : (List aD) → Int → Option ((List aD))) (l_2 : List aD) (out_2 : List aD) (i_2 : Int) : Nat → Int → Bool → Int → Option ((List aD))
  | 0, _, _, _ => none
  | k2 + 1, atv_2, known_2, k_2 =>
    bif decide (k_2 < (out_2.length : Int)) then ((bif known_2 then (some true) else ((idx out_2 k_2).bind fun x1 =>
    (idx l_2 i_2).bind fun x2 =>
    some (decide (x1 = x2)))).bind fun b3 =>
    (idx out_2 k_2).bind fun x4 =>
    (idx l_2 i_2).bind fun x5 =>
    bif decide (x4.Id ≤ x5.Id) then ((eP again0 l_2 out_2 i_2 k2) (w64 (k_2 + 1)) b3 (w64 (k_2 + 1)))
    else ((eP again0 l_2 out_2 i_2 k2) atv_2 b3 (w64 (k_2 + 1))))
    else (jE again0 l_2 out_2 i_2 atv_2 known_2)

def mT (out_100 : List aD) : Option ((List aD)) :=
    some out_100

def eO (l_0 : List aD) : Nat → (List aD) → Int → Option ((List aD))
  | 0, _, _ => none
  | k0 + 1, out_0, i_0 =>
    bif decide (i_0 < (l_0.length : Int)) then (eP (eO l_0 k0) l_0 out_0 i_0 BIG 0 false 0)
    else (mT out_0)

def iY (l_0 : List aD) : Option ((List aD)) :=
    eO l_0 BIG ([] : List aD) 0

def mS (out_100 : List aD) : Option ((List aD)) :=
    some out_100

def eN (player_0 : Int) (week_0 : Int) (allv_0 : List aD) (l_0 : aS) : Nat → Int → (List aD) → Option ((List aD))
  | 0, _, _ => none
  | k0 + 1, i_0, out_0 =>
    bif decide (i_0 < (allv_0.length : Int)) then ((idx allv_0 i_0).bind fun x4 =>
    (bif decide (x4.Player = player_0) then (some (decide (x4.Week ≤ week_0))) else (some false)).bind fun b6 =>
    (bif b6 then ((kM l_0 x4 week_0).bind fun r7 =>
    some (decide (r7 < 52))) else (some false)).bind fun b8 =>
    (bif b8 then ((jN l_0.Bans player_0 x4.Week).bind fun r9 =>
    some (!r9)) else (some false)).bind fun b10 =>
    bif b10 then ((app 40 out_0 ([x4])).bind fun x11 =>
    (eN player_0 week_0 allv_0 l_0 k0) (w64 (i_0 + 1)) x11)
    else ((eN player_0 week_0 allv_0 l_0 k0) (w64 (i_0 + 1)) out_0))
    else (mS out_0)

def kF (l_0 : aS) (player_1 : Int) (week_2 : Int) : Option ((List aD)) :=
    (iY l_0.Reports).bind fun r3 =>
    eN player_1 week_2 r3 l_0 BIG 0 ([] : List aD)

def kI (again2 : Int → (List aD) → Option ((List aD))) (allv_103 : List aD) (must_103 : Int) (i_103 : Int) (l_103 : aS) (out_103 : List aD) : Option ((List aD)) :=
    again2 (w64 (i_103 + 1)) out_103

def lV (again2 : Int → (List aD) → Option ((List aD))) (allv_104 : List aD) (must_104 : Int) (i_104 : Int) (better_104 : Int) (l_104 : aS) (out_104 : List aD) : Option ((List aD)) :=
    (idx allv_104 i_104).bind fun x13 =>
    (bif x13.Must then (some true) else (some (decide (better_104 < (w64 (l_104.Counts - must_104)))))).bind fun b14 =>
    bif b14 then ((idx allv_104 i_104).bind fun x15 =>
    (app 40 out_104 ([x15])).bind fun x16 =>
    kI again2 allv_104 must_104 i_104 l_104 x16)
    else (kI again2 allv_104 must_104 i_104 l_104 out_104)

def gB (again2 : Int → (List aD) → Option ((List aD))) (allv_4 : List aD) (must_4 : Int) (i_4 : Int) (l_4 : aS) (out_4 : List aD) : Nat → Int → Int → Option ((List aD))
  | 0, _, _ => none
  | k4 + 1, better_4, k_4 =>
    bif decide (k_4 < (allv_4.length : Int)) then ((idx allv_4 k_4).bind fun x5 =>
    (bif !x5.Must then ((idx allv_4 k_4).bind fun x6 =>
    (idx allv_4 i_4).bind fun x7 =>
    (bif decide (x7.Points < x6.Points) then (some true) else ((idx allv_4 k_4).bind fun x8 =>
    (idx allv_4 i_4).bind fun x9 =>
    (bif decide (x8.Points = x9.Points) then (some (decide (k_4 < i_4))) else (some false)).bind fun b10 =>
    some b10)).bind fun b11 =>
    some b11) else (some false)).bind fun b12 =>
    bif b12 then ((gB again2 allv_4 must_4 i_4 l_4 out_4 k4) (w64 (better_4 + 1)) (w64 (k_4 + 1)))
    else ((gB again2 allv_4 must_4 i_4 l_4 out_4 k4) better_4 (w64 (k_4 + 1))))
    else (lV again2 allv_4 must_4 i_4 better_4 l_4 out_4)

def oM (out_102 : List aD) : Option ((List aD)) :=
    some out_102

def eY (allv_2 : List aD) (must_2 : Int) (l_2 : aS) : Nat → Int → (List aD) → Option ((List aD))
  | 0, _, _ => none
  | k2 + 1, i_2, out_2 =>
    bif decide (i_2 < (allv_2.length : Int)) then (gB (eY allv_2 must_2 l_2 k2) allv_2 must_2 i_2 l_2 out_2 BIG 0 0)
    else (oM out_2)

def lU (allv_100 : List aD) (must_100 : Int) (l_100 : aS) : Option ((List aD)) :=
    eY allv_100 must_100 l_100 BIG 0 ([] : List aD)

def fK (allv_0 : List aD) (l_0 : aS) : Nat → Int → Int → Option ((List aD))
  | 0, _, _ => none
  | k0 + 1, must_0, i_0 =>
    bif decide (i_0 < (allv_0.length : Int)) then ((idx allv_0 i_0).bind fun x3 =>
    bif x3.Must then ((fK allv_0 l_0 k0) (w64 (must_0 + 1)) (w64 (i_0 + 1)))
    else ((fK allv_0 l_0 k0) must_0 (w64 (i_0 + 1))))
    else (lU allv_0 must_0 l_0)

def jI (l_0 : aS) (player_1 : Int) (week_2 : Int) : Option ((List aD)) :=
    (kF l_0 player_1 week_2).bind fun r2 =>
    fK r2 l_0 BIG 0 0

def rQ (out_100 : List Int) : Option ((List Int) × Int) :=
    some (out_100, 0)

def gT (allv_0 : List aD) : Nat → Int → (List Int) → Option ((List Int) × Int)
  | 0, _, _ => none
  | k0 + 1, i_0, out_0 =>
    bif decide (i_0 < (allv_0.length : Int)) then ((idx allv_0 i_0).bind fun x5 =>
    (app 8 out_0 ([x5.Id])).bind fun x6 =>
    (gT allv_0 k0) (w64 (i_0 + 1)) x6)
    else (rQ out_0)

def iC (l_0 : aS) (player_1 : Int) (week_2 : Int) : Option ((List Int) × Int) :=
    (iX l_0 player_1 week_2).bind fun r2 =>
    bif !decide (r2 = 0) then (some (([] : List Int), r2))
    else ((jI l_0 player_1 week_2).bind fun r4 =>
    gT r4 BIG 0 ([] : List Int))

def lN (l_0 : aS) (player_1 : Int) (week_2 : Int) : Option (Int × Int) :=
    (lC l_0 player_1 week_2).bind fun r2 =>
    nU r2.1 (bif !decide (r2.2 = 0) then (some (0, r2.2))
    else (none)) fun y3 =>
    bif !decide (r2.2 = 0) then (some (0, r2.2))
    else ((jK y3 player_1 week_2).bind fun r6 =>
    some (r6, 0))

def nS (sum_100 : Int) (must_100 : Int) : Option (Int × Int) :=
    some (sum_100, must_100)

def fS (allv_0 : List aD) : Nat → Int → Int → Int → Option (Int × Int)
  | 0, _, _, _ => none
  | k0 + 1, sum_0, must_0, i_0 =>
    bif decide (i_0 < (allv_0.length : Int)) then ((idx allv_0 i_0).bind fun x3 =>
    (idx allv_0 i_0).bind fun x4 =>
    bif x4.Must then ((idx allv_0 i_0).bind fun x5 =>
    (fS allv_0 k0) (w64 (sum_0 + x3.Points)) (w64 (must_0 + x5.Points)) (w64 (i_0 + 1)))
    else ((fS allv_0 k0) (w64 (sum_0 + x3.Points)) must_0 (w64 (i_0 + 1))))
    else (nS sum_0 must_0)

def lD (l_0 : aS) (player_1 : Int) (week_2 : Int) : Option (Int × Int) :=
    (jI l_0 player_1 week_2).bind fun r2 =>
    fS r2 BIG 0 0 0

def gQ (l_0 : aS) (player_1 : Int) (week_2 : Int) : Option (Int × Int) :=
    (iX l_0 player_1 week_2).bind fun r2 =>
    bif !decide (r2 = 0) then (some (0, r2))
    else ((lD l_0 player_1 week_2).bind fun r3 =>
    some (r3.1, 0))

def oV : Option Bool :=
    some true

def hZ (a_4 : aS) (b_4 : aS) : Nat → Int → Option Bool
  | 0, _ => none
  | k4 + 1, i_4 =>
    bif decide (i_4 < (a_4.Frozen.length : Int)) then ((idx a_4.Frozen i_4).bind fun x11 =>
    (idx b_4.Frozen i_4).bind fun x12 =>
    bif !decide (x11 = x12) then (some false)
    else ((hZ a_4 b_4 k4) (w64 (i_4 + 1))))
    else (oV)

def mG (a_102 : aS) (b_102 : aS) : Option Bool :=
    hZ a_102 b_102 BIG 0

def hY (a_2 : aS) (b_2 : aS) : Nat → Int → Option Bool
  | 0, _ => none
  | k2 + 1, i_2 =>
    bif decide (i_2 < (a_2.Bans.length : Int)) then ((idx a_2.Bans i_2).bind fun x9 =>
    (idx b_2.Bans i_2).bind fun x10 =>
    bif !decide (x9 = x10) then (some false)
    else ((hY a_2 b_2 k2) (w64 (i_2 + 1))))
    else (mG a_2 b_2)

def mF (a_100 : aS) (b_100 : aS) : Option Bool :=
    hY a_100 b_100 BIG 0

def hT (a_0 : aS) (b_0 : aS) : Nat → Int → Option Bool
  | 0, _ => none
  | k0 + 1, i_0 =>
    bif decide (i_0 < (a_0.Reports.length : Int)) then ((idx a_0.Reports i_0).bind fun x7 =>
    (idx b_0.Reports i_0).bind fun x8 =>
    bif !decide (x7 = x8) then (some false)
    else ((hT a_0 b_0 k0) (w64 (i_0 + 1))))
    else (mF a_0 b_0)

def mE (a_0 : aS) (b_1 : aS) : Option Bool :=
    (bif !decide (a_0.Players = b_1.Players) then (some true) else (some (!decide (a_0.Counts = b_1.Counts)))).bind fun b3 =>
    (bif b3 then (some true) else (some (!decide ((a_0.Reports.length : Int) = (b_1.Reports.length : Int))))).bind fun b4 =>
    (bif b4 then (some true) else (some (!decide ((a_0.Bans.length : Int) = (b_1.Bans.length : Int))))).bind fun b5 =>
    (bif b5 then (some true) else (some (!decide ((a_0.Frozen.length : Int) = (b_1.Frozen.length : Int))))).bind fun b6 =>
    bif b6 then (some false)
    else (hT a_0 b_1 BIG 0)

def kX (l_0 : aS) (x_1 : nZ) : Option Bool :=
    (gD l_0).bind fun r3 =>
    (bif r3 then (some true) else ((mD x_1.Week).bind fun r4 =>
    some r4)).bind fun b5 =>
    bif b5 then ((kK).bind fun r6 =>
    some r6)
    else ((mI l_0).bind fun r7 =>
    (pG r7).bind fun r9 =>
    (iB l_0).bind fun r10 =>
    bif !decide (r9 = r10) then (some false)
    else ((nB r7 x_1.Id x_1.Week).bind fun r11 =>
    (kL l_0 x_1.Id x_1.Week).bind fun r12 =>
    (mL r7 x_1.Player x_1.Week).bind fun r13 =>
    (iC l_0 x_1.Player x_1.Week).bind fun r14 =>
    (lN r7 x_1.Player x_1.Week).bind fun r15 =>
    (gQ l_0 x_1.Player x_1.Week).bind fun r16 =>
    (bif decide (r11.1 = r12.1) then (some (decide (r11.2 = r12.2))) else (some false)).bind fun b17 =>
    (bif b17 then ((iW r13.1 r14.1).bind fun r18 =>
    some r18) else (some false)).bind fun b19 =>
    (bif b19 then (some (decide (r13.2 = r14.2))) else (some false)).bind fun b20 =>
    (bif b20 then (some (decide (r15.1 = r16.1))) else (some false)).bind fun b21 =>
    (bif b21 then (some (decide (r15.2 = r16.2))) else (some false)).bind fun b22 =>
    (bif b22 then ((mE r7 l_0).bind fun r23 =>
    some r23) else (some false)).bind fun b24 =>
    (bif b24 then ((kK).bind fun r25 =>
    some r25) else (some false)).bind fun b26 =>
    some b26))

end Go.Am
