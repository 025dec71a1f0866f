/- Shallow functions, printed by program. -/
import Derived.Test.YtaocljlhapoieaaAmFull
import Derived.Test.YtaocljlhapoieaaAmPrim
import Derived.Test.YtaocljlhapoieaaAmSort
namespace Go.Am

structure aW where
  Player : Int
  From : Int
  To : Int
  deriving DecidableEq, Inhabited
def aI (x : aW) : List D := [.lit (.int .i64 x.Player), .lit (.int .i64 x.From), .lit (.int .i64 x.To)]

def yT (x : List aW) : List D := [.sl 3 (x.map aI)]

structure aB where
  Id : Int
  Player : Int
  Week : Int
  Points : Int
  Must : Bool
  deriving DecidableEq, Inhabited
def aC (x : aB) : List D := [.lit (.int .i64 x.Id), .lit (.int .i64 x.Player), .lit (.int .i64 x.Week), .lit (.int .i64 x.Points), .lit (.bool x.Must)]

def zH (x : List aB) : List D := [.sl 5 (x.map aC)]

structure aM where
  Players : Int
  Counts : Int
  Reports : List aB
  Bans : List aW
  Frozen : List aW
  deriving DecidableEq, Inhabited
def aX (x : aM) : List D := [.lit (.int .i64 x.Players), .lit (.int .i64 x.Counts), .sl 5 (x.Reports.map aC), .sl 3 (x.Bans.map aI), .sl 3 (x.Frozen.map aI)]

structure bW where
  Ledger : aM
  deriving DecidableEq, Inhabited
def cE (x : bW) : List D := [.lit (.int .i64 x.Ledger.Players), .lit (.int .i64 x.Ledger.Counts), .sl 5 (x.Ledger.Reports.map aC), .sl 3 (x.Ledger.Bans.map aI), .sl 3 (x.Ledger.Frozen.map aI)]

def qO (x : List Int) : List D := [.sl 1 (x.map bR)]

structure bB where
  player : Int
  points : Int
  musts : Int
  many : Int
  deriving DecidableEq, Inhabited
def bK (x : bB) : List D := [.lit (.int .i64 x.player), .lit (.int .i64 x.points), .lit (.int .i64 x.musts), .lit (.int .i64 x.many)]

structure jB where
  Player : Int
  Week : Int
  Id : Int
  deriving DecidableEq, Inhabited
def kI (x : jB) : List D := [.lit (.int .i64 x.Player), .lit (.int .i64 x.Week), .lit (.int .i64 x.Id)]

def uU (x : aB) : Prop := okI x.Id ∧ okI x.Player ∧ okI x.Week ∧ okI x.Points ∧ okB x.Must

def qU (x : aW) : Prop := okI x.Player ∧ okI x.From ∧ okI x.To

def yF (x : aM) : Prop := okI x.Players ∧ okI x.Counts ∧ (okL uU) x.Reports ∧ (okL qU) x.Bans ∧ (okL qU) x.Frozen

def zP (x : jB) : Prop := okI x.Player ∧ okI x.Week ∧ okI x.Id

def eI (n_0 : Int) (low_1 : Int) (high_2 : Int) : Option Bool :=
    (bif decide (low_1 ≤ n_0) then (some (decide (n_0 ≤ high_2))) else (some false)).bind fun b1 =>
    some b1

def mG (l_100 : List aW) : Option Bool :=
    some (decide ((l_100.length : Int) ≤ 8))

def fP (players_0 : Int) (l_0 : List aW) : Nat → Int → Option Bool
  | 0, _ => none
  | k0 + 1, i_0 =>
    bif decide (i_0 < (l_0.length : Int)) then ((idx l_0 i_0).bind fun x1 =>
    (eI x1.Player 0 (w64 (players_0 - 1))).bind fun r2 =>
    (bif !r2 then (some true) else ((idx l_0 i_0).bind fun x3 =>
    some (decide (x3.From < 0)))).bind fun b4 =>
    (bif b4 then (some true) else ((idx l_0 i_0).bind fun x5 =>
    (idx l_0 i_0).bind fun x6 =>
    some (decide (x6.To < x5.From)))).bind fun b7 =>
    (bif b7 then (some true) else ((idx l_0 i_0).bind fun x8 =>
    some (decide (400 < x8.To)))).bind fun b9 =>
    bif b9 then (some false)
    else ((fP players_0 l_0 k0) (w64 (i_0 + 1))))
    else (mG l_0)

def iK (players_0 : Int) (l_1 : List aW) : Option Bool :=
    fP players_0 l_1 BIG 0

def kD (players_0 : Int) (r_1 : aB) : Option Bool :=
    (eI r_1.Id 0 99).bind fun r2 =>
    (bif r2 then ((eI r_1.Player 0 (w64 (players_0 - 1))).bind fun r3 =>
    some r3) else (some false)).bind fun b4 =>
    (bif b4 then ((eI r_1.Week 0 400).bind fun r5 =>
    some r5) else (some false)).bind fun b6 =>
    (bif b6 then ((eI r_1.Points 0 2000).bind fun r7 =>
    some r7) else (some false)).bind fun b8 =>
    some b8

def mX (again2 : Int → Option Bool) (i_103 : Int) (l_103 : aM) : Option Bool :=
    again2 (w64 (i_103 + 1))

def mY (again2 : Int → Option Bool) (i_104 : Int) (l_104 : aM) : Option Bool :=
    mX again2 i_104 l_104

def fZ (again2 : Int → Option Bool) (i_4 : Int) (l_4 : aM) : Nat → Int → Option Bool
  | 0, _ => none
  | k4 + 1, k_4 =>
    bif decide (k_4 < i_4) then ((idx l_4.Frozen i_4).bind fun x12 =>
    (idx l_4.Frozen k_4).bind fun x13 =>
    (bif decide (x12.Player = x13.Player) then (some (decide (x12.From ≤ x13.To))) else (some false)).bind fun b16 =>
    (bif b16 then (some (decide (x13.From ≤ x12.To))) else (some false)).bind fun b17 =>
    bif b17 then (some false)
    else ((fZ again2 i_4 l_4 k4) (w64 (k_4 + 1))))
    else (mY again2 i_4 l_4)

def mW : Option Bool :=
    some true

def dT (l_2 : aM) : Nat → Int → Option Bool
  | 0, _ => none
  | k2 + 1, i_2 =>
    bif decide (i_2 < (l_2.Frozen.length : Int)) then (fZ (dT l_2 k2) i_2 l_2 BIG 0)
    else (mW)

def mV (l_100 : aM) : Option Bool :=
    dT l_100 BIG 0

def fG (l_0 : aM) : Nat → Int → Option Bool
  | 0, _ => none
  | k0 + 1, i_0 =>
    bif decide (i_0 < (l_0.Reports.length : Int)) then ((idx l_0.Reports i_0).bind fun x10 =>
    (kD l_0.Players x10).bind fun r11 =>
    bif !r11 then (some false)
    else ((fG l_0 k0) (w64 (i_0 + 1))))
    else (mV l_0)

def kC (l_0 : aM) : Option Bool :=
    (eI l_0.Players 1 16).bind fun r2 =>
    (bif !r2 then (some true) else ((eI l_0.Counts 1 20).bind fun r3 =>
    some (!r3))).bind fun b4 =>
    (bif b4 then (some true) else (some (decide (40 < (l_0.Reports.length : Int))))).bind fun b5 =>
    (bif b5 then (some true) else ((iK l_0.Players l_0.Bans).bind fun r6 =>
    some (!r6))).bind fun b7 =>
    (bif b7 then (some true) else ((iK l_0.Players l_0.Frozen).bind fun r8 =>
    some (!r8))).bind fun b9 =>
    bif b9 then (some false)
    else (fG l_0 BIG 0)

def oB (again0 : Int → Option Bool) (l_101 : List aB) (i_101 : Int) : Option Bool :=
    again0 (w64 (i_101 + 1))

def oC (again0 : Int → Option Bool) (l_102 : List aB) (i_102 : Int) : Option Bool :=
    oB again0 l_102 i_102

def gW (again0 : Int → Option Bool) (l_2 : List aB) (i_2 : Int) : Nat → Int → Option Bool
  | 0, _ => none
  | k2 + 1, k_2 =>
    bif decide (k_2 < i_2) then ((idx l_2 i_2).bind fun x1 =>
    (idx l_2 k_2).bind fun x2 =>
    (bif decide (x1.Id = x2.Id) then ((idx l_2 i_2).bind fun x3 =>
    (idx l_2 k_2).bind fun x4 =>
    some (!decide (x3 = x4))) else (some false)).bind fun b5 =>
    bif b5 then (some true)
    else ((gW again0 l_2 i_2 k2) (w64 (k_2 + 1))))
    else (oC again0 l_2 i_2)

def oA : Option Bool :=
    some false

def eP (l_0 : List aB) : Nat → Int → Option Bool
  | 0, _ => none
  | k0 + 1, i_0 =>
    bif decide (i_0 < (l_0.length : Int)) then (gW (eP l_0 k0) l_0 i_0 BIG 0)
    else (oA)

def lW (l_0 : List aB) : Option Bool :=
    eP l_0 BIG 0

def kH (l_0 : aM) : Option Int :=
    (kC l_0).bind fun r2 =>
    bif !r2 then (some 40)
    else ((lW l_0.Reports).bind fun r3 =>
    bif r3 then (some 41)
    else (some 0))

def jU (l_100 : aM) : Option Bool :=
    (bif decide (5 < l_100.Players) then (some true) else (some (decide (10 < (l_100.Reports.length : Int))))).bind fun b6 =>
    some b6

def fK (l_0 : aM) : Nat → Int → Option Bool
  | 0, _ => none
  | k0 + 1, i_0 =>
    bif decide (i_0 < (l_0.Reports.length : Int)) then ((idx l_0.Reports i_0).bind fun x5 =>
    bif decide (150 < x5.Week) then (some true)
    else ((fK l_0 k0) (w64 (i_0 + 1))))
    else (jU l_0)

def iJ (l_0 : aM) : Option Bool :=
    (bif decide (60 < (l_0.Reports.length : Int)) then (some true) else (some (decide (20 < (l_0.Bans.length : Int))))).bind fun b2 =>
    (bif b2 then (some true) else (some (decide (20 < (l_0.Frozen.length : Int))))).bind fun b3 =>
    bif b3 then (some true)
    else ((kH l_0).bind fun r4 =>
    bif !decide (r4 = 0) then (some false)
    else (fK l_0 BIG 0))

def oM : Option aM :=
    some (aM.mk 3 2 ([(aB.mk 1 0 10 500 false), (aB.mk 2 0 20 300 false), (aB.mk 3 0 30 100 true), (aB.mk 4 1 12 400 false), (aB.mk 5 1 40 200 false), (aB.mk 6 2 15 600 false)]) ([(aW.mk 1 50 55)]) ([(aW.mk 2 20 29)]))

def eJ (n_0 : Int) (low_1 : Int) (high_2 : Int) : Option Bool :=
    (bif decide (low_1 ≤ n_0) then (some (decide (n_0 ≤ high_2))) else (some false)).bind fun b1 =>
    some b1

def jK : Option Int :=
    some (-1)

def eA (s_0 : List aW) (f_0 : aW → Option Bool) (t7_0 : Int) : Nat → Int → Option Int
  | 0, _ => none
  | k0 + 1, t8_0 =>
    bif decide (t8_0 < t7_0) then ((idx s_0 t8_0).bind fun x1 =>
    (f_0 x1).bind fun r2 =>
    bif r2 then (some t8_0)
    else ((eA s_0 f_0 t7_0 k0) (w64 (t8_0 + 1))))
    else (jK)

def gI (s_0 : List aW) (f_1 : aW → Option Bool) : Option Int :=
    eA s_0 f_1 (s_0.length : Int) BIG 0

def dZ (s_0 : List aW) (f_1 : aW → Option Bool) : Option Bool :=
    (gI s_0 f_1).bind fun r1 =>
    some (decide (0 ≤ r1))

def lZ (a_0 : aW) (c_1 : aM) : Option Bool :=
    (eJ a_0.Player 0 (w64 (c_1.Players - 1))).bind fun r2 =>
    (bif !r2 then (some true) else (some (decide (a_0.To < a_0.From)))).bind fun b3 =>
    (bif b3 then (some true) else ((eJ a_0.From 0 400).bind fun r4 =>
    some (!r4))).bind fun b5 =>
    (bif b5 then (some true) else ((eJ a_0.To 0 400).bind fun r6 =>
    some (!r6))).bind fun b7 =>
    some b7

def lS (l_0 : aM) (all_1 : List aW) : Option Bool :=
    (bif decide ((all_1.length : Int) ≤ 8) then ((dZ all_1 (fun y2 => lZ y2 l_0)).bind fun r3 =>
    some (!r3)) else (some false)).bind fun b4 =>
    some b4

def mO (b_0 : aW) (c_1 : aW) : Option Bool :=
    (bif decide (c_1.Player = b_0.Player) then (some (decide (c_1.From ≤ b_0.To))) else (some false)).bind fun b2 =>
    (bif b2 then (some (decide (b_0.From ≤ c_1.To))) else (some false)).bind fun b3 =>
    some b3

def qK : Option Bool :=
    some true

def iD (t69_2 : List aW) (t70_2 : Int) (l_2 : aM) : Nat → Int → Option Bool
  | 0, _ => none
  | k2 + 1, t71_2 =>
    bif decide (t71_2 < t70_2) then ((idx t69_2 t71_2).bind fun x18 =>
    (sub l_2.Frozen 0 t71_2).bind fun x20 =>
    (dZ x20 (fun y21 => mO y21 x18)).bind fun r22 =>
    bif r22 then (some false)
    else ((iD t69_2 t70_2 l_2 k2) (w64 (t71_2 + 1))))
    else (qK)

def qJ (l_100 : aM) : Option Bool :=
    (lS l_100 l_100.Bans).bind fun r15 =>
    (bif !r15 then (some true) else ((lS l_100 l_100.Frozen).bind fun r16 =>
    some (!r16))).bind fun b17 =>
    bif b17 then (some false)
    else (iD l_100.Frozen (l_100.Frozen.length : Int) l_100 BIG 0)

def iC (t24_0 : List aB) (t25_0 : Int) (l_0 : aM) : Nat → Int → Option Bool
  | 0, _ => none
  | k0 + 1, t26_0 =>
    bif decide (t26_0 < t25_0) then ((idx t24_0 t26_0).bind fun x6 =>
    (eJ x6.Id 0 99).bind fun r8 =>
    (bif !r8 then (some true) else ((eJ x6.Player 0 (w64 (l_0.Players - 1))).bind fun r9 =>
    some (!r9))).bind fun b10 =>
    (bif b10 then (some true) else ((eJ x6.Week 0 400).bind fun r11 =>
    some (!r11))).bind fun b12 =>
    (bif b12 then (some true) else ((eJ x6.Points 0 2000).bind fun r13 =>
    some (!r13))).bind fun b14 =>
    bif b14 then (some false)
    else ((iC t24_0 t25_0 l_0 k0) (w64 (t26_0 + 1))))
    else (qJ l_0)

def nT (l_0 : aM) : Option Bool :=
    (eJ l_0.Players 1 16).bind fun r2 =>
    (bif !r2 then (some true) else ((eJ l_0.Counts 1 20).bind fun r3 =>
    some (!r3))).bind fun b4 =>
    (bif b4 then (some true) else (some (decide (40 < (l_0.Reports.length : Int))))).bind fun b5 =>
    bif b5 then (some false)
    else (iC l_0.Reports (l_0.Reports.length : Int) l_0 BIG 0)

def eT (s_0 : List aB) : Option ((List aB)) :=
    (app 40 ([] : List aB) s_0).bind fun x5 =>
    some x5

def eX (again0 : Int → (List aB) → Option ((List aB))) (a_101 : Int) (b_101 : Int) (cmp_101 : aB → aB → Option Int) (i_101 : Int) (data_101 : List aB) : Option ((List aB)) :=
    again0 (w64 (i_101 + 1)) data_101

def eY (again0 : Int → (List aB) → Option ((List aB))) (a_102 : Int) (b_102 : Int) (cmp_102 : aB → aB → Option Int) (i_102 : Int) (data_102 : List aB) : Option ((List aB)) :=
    eX again0 a_102 b_102 cmp_102 i_102 data_102

def cT (again0 : Int → (List aB) → Option ((List aB))) (a_2 : Int) (b_2 : Int) (cmp_2 : aB → aB → Option Int) (i_2 : Int) : Nat → Int → (List aB) → Option ((List aB))
  | 0, _, _ => none
  | k2 + 1, j_2, data_2 =>
    (bif decide (a_2 < j_2) then ((idx data_2 j_2).bind fun x1 =>
    (idx data_2 (w64 (j_2 - 1))).bind fun x2 =>
    (cmp_2 x1 x2).bind fun r3 =>
    some (decide (r3 < 0))) else (some false)).bind fun b4 =>
    bif b4 then ((idx data_2 (w64 (j_2 - 1))).bind fun x5 =>
    (idx data_2 j_2).bind fun x6 =>
    (idx data_2 j_2).bind fun x7 =>
    (idx (data_2.set j_2.toNat x5) (w64 (j_2 - 1))).bind fun x8 =>
    (cT again0 a_2 b_2 cmp_2 i_2 k2) (w64 (j_2 - 1)) ((data_2.set j_2.toNat x5).set (w64 (j_2 - 1)).toNat x6))
    else (eY again0 a_2 b_2 cmp_2 i_2 data_2)

def eW (data_100 : List aB) : Option ((List aB)) :=
    some data_100

def cI (a_0 : Int) (b_0 : Int) (cmp_0 : aB → aB → Option Int) : Nat → Int → (List aB) → Option ((List aB))
  | 0, _, _ => none
  | k0 + 1, i_0, data_0 =>
    bif decide (i_0 < b_0) then (cT (cI a_0 b_0 cmp_0 k0) a_0 b_0 cmp_0 i_0 BIG i_0 data_0)
    else (eW data_0)

def dH (data_0 : List aB) (a_1 : Int) (b_2 : Int) (cmp_3 : aB → aB → Option Int) : Option ((List aB)) :=
    cI a_1 b_2 cmp_3 BIG (w64 (a_1 + 1)) data_0

def hT (data_100 : List aB) : Option ((List aB)) :=
    some data_100

def dL (a_0 : Int) (b_0 : Int) (n_0 : Int) : Nat → Int → (List aB) → Option ((List aB))
  | 0, _, _ => none
  | k0 + 1, i_0, data_0 =>
    bif decide (i_0 < n_0) then ((idx data_0 (w64 (b_0 + i_0))).bind fun x1 =>
    (idx data_0 (w64 (a_0 + i_0))).bind fun x2 =>
    (idx data_0 (w64 (a_0 + i_0))).bind fun x3 =>
    (idx (data_0.set (w64 (a_0 + i_0)).toNat x1) (w64 (b_0 + i_0))).bind fun x4 =>
    (dL a_0 b_0 n_0 k0) (w64 (i_0 + 1)) ((data_0.set (w64 (a_0 + i_0)).toNat x1).set (w64 (b_0 + i_0)).toNat x2))
    else (hT data_0)

def dR (data_0 : List aB) (a_1 : Int) (b_2 : Int) (n_3 : Int) (cmp_4 : aB → aB → Option Int) : Option ((List aB)) :=
    dL a_1 b_2 n_3 BIG 0 data_0

def iR (m_100 : Int) (cmp_100 : aB → aB → Option Int) (i_100 : Int) (data_100 : List aB) : Option ((List aB)) :=
    (dR data_100 (w64 (m_100 - i_100)) m_100 i_100 cmp_100).bind fun r3 =>
    some r3

def cZ (m_0 : Int) (cmp_0 : aB → aB → Option Int) : Nat → Int → Int → (List aB) → Option ((List aB))
  | 0, _, _, _ => none
  | k0 + 1, i_0, j_0, data_0 =>
    bif !decide (i_0 = j_0) then (bif decide (j_0 < i_0) then ((dR data_0 (w64 (m_0 - i_0)) m_0 j_0 cmp_0).bind fun r1 =>
    (cZ m_0 cmp_0 k0) (w64 (i_0 - j_0)) j_0 r1)
    else ((dR data_0 (w64 (m_0 - i_0)) (w64 ((w64 (m_0 + j_0)) - i_0)) i_0 cmp_0).bind fun r2 =>
    (cZ m_0 cmp_0 k0) i_0 (w64 (j_0 - i_0)) r2))
    else (iR m_0 cmp_0 i_0 data_0)

def eK (data_0 : List aB) (a_1 : Int) (m_2 : Int) (b_3 : Int) (cmp_4 : aB → aB → Option Int) : Option ((List aB)) :=
    cZ m_2 cmp_4 BIG (w64 (m_2 - a_1)) (w64 (b_3 - m_2)) data_0

def iG (againR : (List aB) → Int → Int → Int → Option ((List aB))) (data_102 : List aB) : Option ((List aB)) :=
    some data_102

def dM (againR : (List aB) → Int → Int → Int → Option ((List aB))) (i_2 : Int) : Nat → Int → (List aB) → Option ((List aB))
  | 0, _, _ => none
  | k2 + 1, k_2, data_2 =>
    bif decide (k_2 < (w64 (i_2 - 1))) then ((idx data_2 (w64 (k_2 + 1))).bind fun x4 =>
    (idx data_2 k_2).bind fun x5 =>
    (idx data_2 k_2).bind fun x6 =>
    (idx (data_2.set k_2.toNat x4) (w64 (k_2 + 1))).bind fun x7 =>
    (dM againR i_2 k2) (w64 (k_2 + 1)) ((data_2.set k_2.toNat x4).set (w64 (k_2 + 1)).toNat x5))
    else (iG againR data_2)

def fU (againR : (List aB) → Int → Int → Int → Option ((List aB))) (a_100 : Int) (i_100 : Int) (data_100 : List aB) : Option ((List aB)) :=
    dM againR i_100 BIG a_100 data_100

def cP (againR : (List aB) → Int → Int → Int → Option ((List aB))) (a_0 : Int) (cmp_0 : aB → aB → Option Int) (data_0 : List aB) : Nat → Int → Int → Option ((List aB))
  | 0, _, _ => none
  | k0 + 1, i_0, j_0 =>
    bif decide (i_0 < j_0) then ((idx data_0 (w64 ((IntKind.u64.wrap (w64 (i_0 + j_0))).fdiv (2 ^ (min (1 : Int).toNat 64))))).bind fun x1 =>
    (idx data_0 a_0).bind fun x2 =>
    (cmp_0 x1 x2).bind fun r3 =>
    bif decide (r3 < 0) then ((cP againR a_0 cmp_0 data_0 k0) (w64 ((w64 ((IntKind.u64.wrap (w64 (i_0 + j_0))).fdiv (2 ^ (min (1 : Int).toNat 64)))) + 1)) j_0)
    else ((cP againR a_0 cmp_0 data_0 k0) i_0 (w64 ((IntKind.u64.wrap (w64 (i_0 + j_0))).fdiv (2 ^ (min (1 : Int).toNat 64))))))
    else (fU againR a_0 i_0 data_0)

def iH (againR : (List aB) → Int → Int → Int → Option ((List aB))) (data_106 : List aB) : Option ((List aB)) :=
    some data_106

def dN (againR : (List aB) → Int → Int → Int → Option ((List aB))) (i_6 : Int) : Nat → Int → (List aB) → Option ((List aB))
  | 0, _, _ => none
  | k6 + 1, k_6, data_6 =>
    bif decide (i_6 < k_6) then ((idx data_6 (w64 (k_6 - 1))).bind fun x11 =>
    (idx data_6 k_6).bind fun x12 =>
    (idx data_6 k_6).bind fun x13 =>
    (idx (data_6.set k_6.toNat x11) (w64 (k_6 - 1))).bind fun x14 =>
    (dN againR i_6 k6) (w64 (k_6 - 1)) ((data_6.set k_6.toNat x11).set (w64 (k_6 - 1)).toNat x12))
    else (iH againR data_6)

def fV (againR : (List aB) → Int → Int → Int → Option ((List aB))) (m_104 : Int) (i_104 : Int) (data_104 : List aB) : Option ((List aB)) :=
    dN againR i_104 BIG m_104 data_104

def cQ (againR : (List aB) → Int → Int → Int → Option ((List aB))) (m_4 : Int) (cmp_4 : aB → aB → Option Int) (data_4 : List aB) : Nat → Int → Int → Option ((List aB))
  | 0, _, _ => none
  | k4 + 1, i_4, j_4 =>
    bif decide (i_4 < j_4) then ((idx data_4 m_4).bind fun x8 =>
    (idx data_4 (w64 ((IntKind.u64.wrap (w64 (i_4 + j_4))).fdiv (2 ^ (min (1 : Int).toNat 64))))).bind fun x9 =>
    (cmp_4 x8 x9).bind fun r10 =>
    bif !(decide (r10 < 0)) then ((cQ againR m_4 cmp_4 data_4 k4) (w64 ((w64 ((IntKind.u64.wrap (w64 (i_4 + j_4))).fdiv (2 ^ (min (1 : Int).toNat 64)))) + 1)) j_4)
    else ((cQ againR m_4 cmp_4 data_4 k4) i_4 (w64 ((IntKind.u64.wrap (w64 (i_4 + j_4))).fdiv (2 ^ (min (1 : Int).toNat 64))))))
    else (fV againR m_4 i_4 data_4)

def dC (againR : (List aB) → Int → Int → Int → Option ((List aB))) (a_108 : Int) (m_108 : Int) (b_108 : Int) (cmp_108 : aB → aB → Option Int) (mid_108 : Int) (n_108 : Int) (start_108 : Int) (data_108 : List aB) : Option ((List aB)) :=
    (bif decide (start_108 < m_108) then (some (decide (m_108 < (w64 (n_108 - start_108))))) else (some false)).bind fun b18 =>
    bif b18 then ((eK data_108 start_108 m_108 (w64 (n_108 - start_108)) cmp_108).bind fun r19 =>
    (bif decide (a_108 < start_108) then (some (decide (start_108 < mid_108))) else (some false)).bind fun b20 =>
    bif b20 then ((againR r19 a_108 start_108 mid_108).bind fun r21 =>
    (bif decide (mid_108 < (w64 (n_108 - start_108))) then (some (decide ((w64 (n_108 - start_108)) < b_108))) else (some false)).bind fun b22 =>
    bif b22 then ((againR r21 mid_108 (w64 (n_108 - start_108)) b_108).bind fun r23 =>
    some r23)
    else (some r21))
    else ((bif decide (mid_108 < (w64 (n_108 - start_108))) then (some (decide ((w64 (n_108 - start_108)) < b_108))) else (some false)).bind fun b24 =>
    bif b24 then ((againR r19 mid_108 (w64 (n_108 - start_108)) b_108).bind fun r25 =>
    some r25)
    else (some r19)))
    else ((bif decide (a_108 < start_108) then (some (decide (start_108 < mid_108))) else (some false)).bind fun b26 =>
    bif b26 then ((againR data_108 a_108 start_108 mid_108).bind fun r27 =>
    (bif decide (mid_108 < (w64 (n_108 - start_108))) then (some (decide ((w64 (n_108 - start_108)) < b_108))) else (some false)).bind fun b28 =>
    bif b28 then ((againR r27 mid_108 (w64 (n_108 - start_108)) b_108).bind fun r29 =>
    some r29)
    else (some r27))
    else ((bif decide (mid_108 < (w64 (n_108 - start_108))) then (some (decide ((w64 (n_108 - start_108)) < b_108))) else (some false)).bind fun b30 =>
    bif b30 then ((againR data_108 mid_108 (w64 (n_108 - start_108)) b_108).bind fun r31 =>
    some r31)
    else (some data_108)))

def bZ (againR : (List aB) → Int → Int → Int → Option ((List aB))) (a_8 : Int) (m_8 : Int) (b_8 : Int) (cmp_8 : aB → aB → Option Int) (mid_8 : Int) (n_8 : Int) (p_8 : Int) (data_8 : List aB) : Nat → Int → Int → Option ((List aB))
  | 0, _, _ => none
  | k8 + 1, start_8, r_8 =>
    bif decide (start_8 < r_8) then ((idx data_8 (w64 (p_8 - (w64 ((IntKind.u64.wrap (w64 (start_8 + r_8))).fdiv (2 ^ (min (1 : Int).toNat 64))))))).bind fun x15 =>
    (idx data_8 (w64 ((IntKind.u64.wrap (w64 (start_8 + r_8))).fdiv (2 ^ (min (1 : Int).toNat 64))))).bind fun x16 =>
    (cmp_8 x15 x16).bind fun r17 =>
    bif !(decide (r17 < 0)) then ((bZ againR a_8 m_8 b_8 cmp_8 mid_8 n_8 p_8 data_8 k8) (w64 ((w64 ((IntKind.u64.wrap (w64 (start_8 + r_8))).fdiv (2 ^ (min (1 : Int).toNat 64)))) + 1)) r_8)
    else ((bZ againR a_8 m_8 b_8 cmp_8 mid_8 n_8 p_8 data_8 k8) start_8 (w64 ((IntKind.u64.wrap (w64 (start_8 + r_8))).fdiv (2 ^ (min (1 : Int).toNat 64))))))
    else (dC againR a_8 m_8 b_8 cmp_8 mid_8 n_8 start_8 data_8)

def bE (cmp_4 : aB → aB → Option Int) : Nat → (List aB) → Int → Int → Int → Option ((List aB))
  | 0, _, _, _, _ => none
  | kr + 1, data_0, a_1, m_2, b_3 =>
    bif decide ((w64 (m_2 - a_1)) = 1) then (cP (bE cmp_4 kr) a_1 cmp_4 data_0 BIG m_2 b_3)
    else (bif decide ((w64 (b_3 - m_2)) = 1) then (cQ (bE cmp_4 kr) m_2 cmp_4 data_0 BIG a_1 m_2)
    else (bif decide ((w64 ((IntKind.u64.wrap (w64 (a_1 + b_3))).fdiv (2 ^ (min (1 : Int).toNat 64)))) < m_2) then (bZ (bE cmp_4 kr) a_1 m_2 b_3 cmp_4 (w64 ((IntKind.u64.wrap (w64 (a_1 + b_3))).fdiv (2 ^ (min (1 : Int).toNat 64)))) (w64 ((w64 ((IntKind.u64.wrap (w64 (a_1 + b_3))).fdiv (2 ^ (min (1 : Int).toNat 64)))) + m_2)) (w64 ((w64 ((w64 ((IntKind.u64.wrap (w64 (a_1 + b_3))).fdiv (2 ^ (min (1 : Int).toNat 64)))) + m_2)) - 1)) data_0 BIG (w64 ((w64 ((w64 ((IntKind.u64.wrap (w64 (a_1 + b_3))).fdiv (2 ^ (min (1 : Int).toNat 64)))) + m_2)) - b_3)) (w64 ((IntKind.u64.wrap (w64 (a_1 + b_3))).fdiv (2 ^ (min (1 : Int).toNat 64)))))
    else (bZ (bE cmp_4 kr) a_1 m_2 b_3 cmp_4 (w64 ((IntKind.u64.wrap (w64 (a_1 + b_3))).fdiv (2 ^ (min (1 : Int).toNat 64)))) (w64 ((w64 ((IntKind.u64.wrap (w64 (a_1 + b_3))).fdiv (2 ^ (min (1 : Int).toNat 64)))) + m_2)) (w64 ((w64 ((w64 ((IntKind.u64.wrap (w64 (a_1 + b_3))).fdiv (2 ^ (min (1 : Int).toNat 64)))) + m_2)) - 1)) data_0 BIG a_1 m_2)))

def gK (data_0 : List aB) (a_1 : Int) (m_2 : Int) (b_3 : Int) (cmp_4 : aB → aB → Option Int) : Option ((List aB)) := bE cmp_4 BIG data_0 a_1 m_2 b_3

def fB (again2 : Int → (List aB) → Option ((List aB))) (n_103 : Int) (cmp_103 : aB → aB → Option Int) (blockSize_103 : Int) (data_103 : List aB) : Option ((List aB)) :=
    again2 blockSize_103 data_103

def iU (again2 : Int → (List aB) → Option ((List aB))) (n_104 : Int) (cmp_104 : aB → aB → Option Int) (blockSize_104 : Int) (a_104 : Int) (data_104 : List aB) : Option ((List aB)) :=
    bif decide ((w64 (a_104 + blockSize_104)) < n_104) then ((gK data_104 a_104 (w64 (a_104 + blockSize_104)) n_104 cmp_104).bind fun r4 =>
    fB again2 n_104 cmp_104 (w64 (blockSize_104 * 2)) r4)
    else (fB again2 n_104 cmp_104 (w64 (blockSize_104 * 2)) data_104)

def dQ (again2 : Int → (List aB) → Option ((List aB))) (n_4 : Int) (cmp_4 : aB → aB → Option Int) (blockSize_4 : Int) : Nat → Int → Int → (List aB) → Option ((List aB))
  | 0, _, _, _ => none
  | k4 + 1, a_4, b_4, data_4 =>
    bif decide (b_4 ≤ n_4) then ((gK data_4 a_4 (w64 (a_4 + blockSize_4)) b_4 cmp_4).bind fun r3 =>
    (dQ again2 n_4 cmp_4 blockSize_4 k4) b_4 (w64 (b_4 + (w64 (2 * blockSize_4)))) r3)
    else (iU again2 n_4 cmp_4 blockSize_4 a_4 data_4)

def iT (data_102 : List aB) : Option ((List aB)) :=
    some data_102

def dA (n_2 : Int) (cmp_2 : aB → aB → Option Int) : Nat → Int → (List aB) → Option ((List aB))
  | 0, _, _ => none
  | k2 + 1, blockSize_2, data_2 =>
    bif decide (blockSize_2 < n_2) then (dQ (dA n_2 cmp_2 k2) n_2 cmp_2 blockSize_2 BIG 0 (w64 (2 * blockSize_2)) data_2)
    else (iT data_2)

def iS (n_100 : Int) (cmp_100 : aB → aB → Option Int) (blockSize_100 : Int) (a_100 : Int) (data_100 : List aB) : Option ((List aB)) :=
    (dH data_100 a_100 n_100 cmp_100).bind fun r2 =>
    dA n_100 cmp_100 BIG blockSize_100 r2

def dP (n_0 : Int) (cmp_0 : aB → aB → Option Int) (blockSize_0 : Int) : Nat → Int → Int → (List aB) → Option ((List aB))
  | 0, _, _, _ => none
  | k0 + 1, a_0, b_0, data_0 =>
    bif decide (b_0 ≤ n_0) then ((dH data_0 a_0 b_0 cmp_0).bind fun r1 =>
    (dP n_0 cmp_0 blockSize_0 k0) b_0 (w64 (b_0 + blockSize_0)) r1)
    else (iS n_0 cmp_0 blockSize_0 a_0 data_0)

def gR (data_0 : List aB) (n_1 : Int) (cmp_2 : aB → aB → Option Int) : Option ((List aB)) :=
    dP n_1 cmp_2 20 BIG 0 20 data_0

def eF (x_0 : List aB) (cmp_1 : aB → aB → Option Int) : Option ((List aB)) :=
    (gR x_0 (x_0.length : Int) cmp_1).bind fun r1 =>
    some r1

def nZ (a_0 : aB) (b_1 : aB) : Option Int :=
    some (w64 (a_0.Id - b_1.Id))

def kO (again0 : Int → (List aB) → Option ((List aB))) (k_102 : Int) (s_102 : List aB) : Option ((List aB)) :=
    (chk (decide (0 ≤ k_102) && decide (k_102 ≤ (s_102.length : Int)))).bind fun u9 =>
    (chk (decide (k_102.toNat ≤ s_102.length))).bind fun u10 =>
    (chk (decide (0 ≤ k_102))).bind fun u11 =>
    some (s_102.take k_102.toNat)

def dY (again0 : Int → (List aB) → Option ((List aB))) (s2_2 : Int) : Nat → Int → Int → (List aB) → Option ((List aB))
  | 0, _, _, _ => none
  | k2 + 1, k_2, k2_2, s_2 =>
    bif decide (k2_2 < ((s_2.drop s2_2.toNat).length : Int)) then ((idx (s_2.drop s2_2.toNat) k2_2).bind fun x5 =>
    (idx (s_2.drop s2_2.toNat) (w64 (k2_2 - 1))).bind fun x6 =>
    bif !decide (x5 = x6) then ((idx (s_2.drop s2_2.toNat) k2_2).bind fun x7 =>
    (idx s_2 k_2).bind fun x8 =>
    (dY again0 s2_2 k2) (w64 (k_2 + 1)) (w64 (k2_2 + 1)) (s_2.set k_2.toNat x7))
    else ((dY again0 s2_2 k2) k_2 (w64 (k2_2 + 1)) s_2))
    else (kO again0 k_2 s_2)

def kN (again0 : Int → (List aB) → Option ((List aB))) (k_101 : Int) (s_101 : List aB) : Option ((List aB)) :=
    again0 (w64 (k_101 + 1)) s_101

def kM (s_100 : List aB) : Option ((List aB)) :=
    some s_100

def dG : Nat → Int → (List aB) → Option ((List aB))
  | 0, _, _ => none
  | k0 + 1, k_0, s_0 =>
    bif decide (k_0 < (s_0.length : Int)) then ((idx s_0 k_0).bind fun x2 =>
    (idx s_0 (w64 (k_0 - 1))).bind fun x3 =>
    bif decide (x2 = x3) then ((chk (decide (0 ≤ k_0) && decide (k_0 ≤ (s_0.length : Int)))).bind fun u4 =>
    dY (dG k0) k_0 BIG k_0 1 s_0)
    else (kN (dG k0) k_0 s_0))
    else (kM s_0)

def hB (s_0 : List aB) : Option ((List aB)) :=
    bif decide ((s_0.length : Int) < 2) then (some s_0)
    else (dG BIG 1 s_0)

def uA (o7_100 : List aB) : Option ((List aB) × Bool) :=
    some (o7_100, true)

def gP (o7_0 : List aB) : Nat → Int → Option ((List aB) × Bool)
  | 0, _ => none
  | k0 + 1, i_0 =>
    bif decide (i_0 < (o7_0.length : Int)) then ((idx o7_0 i_0).bind fun x9 =>
    (idx o7_0 (w64 (i_0 - 1))).bind fun x10 =>
    bif decide (x9.Id = x10.Id) then (some (([] : List aB), false))
    else ((gP o7_0 k0) (w64 (i_0 + 1))))
    else (uA o7_0)

def mP (all_0 : List aB) : Option ((List aB) × Bool) :=
    (eT all_0).bind fun r2 =>
    (eF r2 (fun y4 y5 => nZ y4 y5)).bind fun r6 =>
    (hB r6).bind fun r7 =>
    gP r7 BIG 1

def qZ (l_0 : aM) : Option Int :=
    (nT l_0).bind fun r2 =>
    bif !r2 then (some 40)
    else ((mP l_0.Reports).bind fun r3 =>
    bif !r3.2 then (some 41)
    else (some 0))

def sM (l_0 : aM) : Option ((Option bW) × Int) :=
    (qZ l_0).bind fun r2 =>
    bif !decide (r2 = 0) then (some (none, r2))
    else ((mP l_0.Reports).bind fun r3 =>
    some (some (bW.mk (aM.mk l_0.Players l_0.Counts r3.1 l_0.Bans l_0.Frozen)), 0))

def nQ (l_0 : aM) (player_1 : Int) (week_2 : Int) : Option ((Option bW) × Int) :=
    (sM l_0).bind fun r2 =>
    sX r2.1 (bif !decide (r2.2 = 0) then (some (none, r2.2))
    else ((eJ player_1 0 (w64 (l_0.Players - 1))).bind fun r6 =>
    (bif !r6 then (some true) else ((eJ week_2 0 400).bind fun r7 =>
    some (!r7))).bind fun b8 =>
    bif b8 then (some (none, 1))
    else (some (none, 0)))) fun y3 =>
    bif !decide (r2.2 = 0) then (some (none, r2.2))
    else ((eJ player_1 0 (w64 (l_0.Players - 1))).bind fun r9 =>
    (bif !r9 then (some true) else ((eJ week_2 0 400).bind fun r10 =>
    some (!r10))).bind fun b11 =>
    bif b11 then (some (none, 1))
    else (some (some y3, 0)))

def qI (n_100 : Int) : Option Int :=
    some n_100

def iB (week_0 : Int) (t18_0 : List aW) (t19_0 : Int) (r_0 : aB) : Nat → Int → Int → Option Int
  | 0, _, _ => none
  | k0 + 1, n_0, t20_0 =>
    bif decide (t20_0 < t19_0) then ((idx t18_0 t20_0).bind fun x2 =>
    bif decide (x2.Player = r_0.Player) then ((iB week_0 t18_0 t19_0 r_0 k0) (w64 (n_0 - (max 0 (w64 ((w64 ((min x2.To week_0) - (max x2.From (w64 (r_0.Week + 1))))) + 1))))) (w64 (t20_0 + 1)))
    else ((iB week_0 t18_0 t19_0 r_0 k0) n_0 (w64 (t20_0 + 1))))
    else (qI n_0)

def mH (b_0 : bW) (r_1 : aB) (week_2 : Int) : Option Int :=
    iB week_2 b_0.Ledger.Frozen (b_0.Ledger.Frozen.length : Int) r_1 BIG (w64 (week_2 - r_1.Week)) 0

def pQ (a_0 : aW) (c_1 : Int) (c_2 : Int) : Option Bool :=
    (bif decide (a_0.Player = c_1) then ((eJ c_2 a_0.From a_0.To).bind fun r2 =>
    some r2) else (some false)).bind fun b3 =>
    some b3

def mN (all_0 : List aW) (player_1 : Int) (week_2 : Int) : Option Bool :=
    (dZ all_0 (fun y3 => pQ y3 player_1 week_2)).bind fun r4 =>
    some r4

def oP (out_100 : List aB) : Option ((List aB)) :=
    some out_100

def gL (b_0 : bW) (player_0 : Int) (week_0 : Int) (t14_0 : List aB) (t15_0 : Int) : Nat → Int → (List aB) → Option ((List aB))
  | 0, _, _ => none
  | k0 + 1, t16_0, out_0 =>
    bif decide (t16_0 < t15_0) then ((idx t14_0 t16_0).bind fun x2 =>
    (bif decide (x2.Player = player_0) then (some (decide (x2.Week ≤ week_0))) else (some false)).bind fun b4 =>
    (bif b4 then ((mH b_0 x2 week_0).bind fun r5 =>
    some (decide (r5 < 52))) else (some false)).bind fun b6 =>
    (bif b6 then ((mN b_0.Ledger.Bans player_0 x2.Week).bind fun r7 =>
    some (!r7)) else (some false)).bind fun b8 =>
    bif b8 then ((app 40 out_0 ([x2])).bind fun x9 =>
    (gL b_0 player_0 week_0 t14_0 t15_0 k0) (w64 (t16_0 + 1)) x9)
    else ((gL b_0 player_0 week_0 t14_0 t15_0 k0) (w64 (t16_0 + 1)) out_0))
    else (oP out_0)

def jQ (b_0 : bW) (player_1 : Int) (week_2 : Int) : Option ((List aB)) :=
    gL b_0 player_1 week_2 b_0.Ledger.Reports (b_0.Ledger.Reports.length : Int) BIG 0 ([] : List aB)

def sS (zero_100 : Int) : Option Int :=
    some zero_100

def lH (zero_0 : Int) (t6_0 : List Int) (t7_0 : Int) : Nat → Int → Option Int
  | 0, _ => none
  | k0 + 1, t8_0 =>
    bif decide (t8_0 < t7_0) then ((idx t6_0 t8_0).bind fun x1 =>
    bif !decide (x1 = zero_0) then (some x1)
    else ((lH zero_0 t6_0 t7_0 k0) (w64 (t8_0 + 1))))
    else (sS zero_0)

def oV (vals_0 : List Int) : Option Int :=
    lH 0 vals_0 (vals_0.length : Int) BIG 0

def jX (x_0 : aB) (y_1 : aB) : Option Int :=
    (bif !decide (x_0.Must = y_1.Must) then (some x_0.Must) else (some false)).bind fun b3 =>
    bif b3 then (some (-1))
    else (bif !decide (x_0.Must = y_1.Must) then (some 1)
    else ((oV ([w64 (y_1.Points - x_0.Points), w64 (x_0.Id - y_1.Id)])).bind fun r4 =>
    some r4))

def lA (b_100 : bW) (musts_100 : Int) (o10_100 : List aB) : Option ((List aB)) :=
    (sub o10_100 0 (min (o10_100.length : Int) (max musts_100 b_100.Ledger.Counts))).bind fun x8 =>
    some x8

def fR (b_0 : bW) (t14_0 : Int) (o10_0 : List aB) : Nat → Int → Int → Option ((List aB))
  | 0, _, _ => none
  | k0 + 1, musts_0, t15_0 =>
    bif decide (t15_0 < t14_0) then ((idx o10_0 t15_0).bind fun x6 =>
    bif x6.Must then ((fR b_0 t14_0 o10_0 k0) (w64 (musts_0 + 1)) (w64 (t15_0 + 1)))
    else ((fR b_0 t14_0 o10_0 k0) musts_0 (w64 (t15_0 + 1))))
    else (lA b_0 musts_0 o10_0)

def jR (b_0 : bW) (all_1 : List aB) : Option ((List aB)) :=
    (eT all_1).bind fun r1 =>
    (eF r1 (fun y3 y4 => jX y3 y4)).bind fun r5 =>
    fR b_0 (r5.length : Int) r5 BIG 0 0

def uX (n_100 : Int) : Option Int :=
    some n_100

def nE (t5_0 : List aB) (t6_0 : Int) : Nat → Int → Int → Option Int
  | 0, _, _ => none
  | k0 + 1, n_0, t7_0 =>
    bif decide (t7_0 < t6_0) then ((idx t5_0 t7_0).bind fun x1 =>
    (nE t5_0 t6_0 k0) (w64 (n_0 + x1.Points)) (w64 (t7_0 + 1)))
    else (uX n_0)

def rX (l_0 : List aB) : Option Int :=
    nE l_0 (l_0.length : Int) BIG 0 0

def pW (x : Int) : Option Int := xS x

def fE (again0 : Int → (List bB) → Option ((List bB))) (a_101 : Int) (b_101 : Int) (cmp_101 : bB → bB → Option Int) (i_101 : Int) (data_101 : List bB) : Option ((List bB)) :=
    again0 (w64 (i_101 + 1)) data_101

def fF (again0 : Int → (List bB) → Option ((List bB))) (a_102 : Int) (b_102 : Int) (cmp_102 : bB → bB → Option Int) (i_102 : Int) (data_102 : List bB) : Option ((List bB)) :=
    fE again0 a_102 b_102 cmp_102 i_102 data_102

def cV (again0 : Int → (List bB) → Option ((List bB))) (a_2 : Int) (b_2 : Int) (cmp_2 : bB → bB → Option Int) (i_2 : Int) : Nat → Int → (List bB) → Option ((List bB))
  | 0, _, _ => none
  | k2 + 1, j_2, data_2 =>
    (bif decide (a_2 < j_2) then ((idx data_2 j_2).bind fun x1 =>
    (idx data_2 (w64 (j_2 - 1))).bind fun x2 =>
    (cmp_2 x1 x2).bind fun r3 =>
    some (decide (r3 < 0))) else (some false)).bind fun b4 =>
    bif b4 then ((idx data_2 (w64 (j_2 - 1))).bind fun x5 =>
    (idx data_2 j_2).bind fun x6 =>
    (idx data_2 j_2).bind fun x7 =>
    (idx (data_2.set j_2.toNat x5) (w64 (j_2 - 1))).bind fun x8 =>
    (cV again0 a_2 b_2 cmp_2 i_2 k2) (w64 (j_2 - 1)) ((data_2.set j_2.toNat x5).set (w64 (j_2 - 1)).toNat x6))
    else (fF again0 a_2 b_2 cmp_2 i_2 data_2)

def fD (data_100 : List bB) : Option ((List bB)) :=
    some data_100

def cJ (a_0 : Int) (b_0 : Int) (cmp_0 : bB → bB → Option Int) : Nat → Int → (List bB) → Option ((List bB))
  | 0, _, _ => none
  | k0 + 1, i_0, data_0 =>
    bif decide (i_0 < b_0) then (cV (cJ a_0 b_0 cmp_0 k0) a_0 b_0 cmp_0 i_0 BIG i_0 data_0)
    else (fD data_0)

def dK (data_0 : List bB) (a_1 : Int) (b_2 : Int) (cmp_3 : bB → bB → Option Int) : Option ((List bB)) :=
    cJ a_1 b_2 cmp_3 BIG (w64 (a_1 + 1)) data_0

def gD (cmp_0 : bB → bB → Option Int) : Nat → Int → Int → Int → Bool → Bool → (List bB) → Option ((List bB))
  | 0, _, _, _, _, _, _ => none
  | k0 + 1, a_0, b_0, limit_0, wasBalanced_0, wasPartitioned_0, data_0 =>
    bif decide ((w64 (b_0 - a_0)) ≤ 12) then ((dK data_0 a_0 b_0 cmp_0).bind fun r1 =>
    some r1)
    else (none)

def gQ (data_0 : List bB) (a_1 : Int) (b_2 : Int) (limit_3 : Int) (cmp_4 : bB → bB → Option Int) : Option ((List bB)) :=
    gD cmp_4 BIG a_1 b_2 limit_3 true true data_0

def hJ (x_0 : List bB) (cmp_1 : bB → bB → Option Int) : Option ((List bB)) :=
    (pW (IntKind.u64.wrap (x_0.length : Int))).bind fun r1 =>
    (gQ x_0 0 (x_0.length : Int) r1 cmp_1).bind fun r2 =>
    some r2

def jY (x_0 : bB) (y_1 : bB) : Option Int :=
    (oV ([w64 (y_1.points - x_0.points), w64 (y_1.musts - x_0.musts), w64 (x_0.many - y_1.many), w64 (x_0.player - y_1.player)])).bind fun r3 =>
    some r3

def jW (again0 : Int → (List bB) → Option ((List Int))) (b_101 : bW) (week_101 : Int) (t18_101 : Int) (t19_101 : Int) (lines_101 : List bB) : Option ((List Int)) :=
    again0 (w64 (t19_101 + 1)) lines_101

def nH (again0 : Int → (List bB) → Option ((List Int))) (b_102 : bW) (week_102 : Int) (t18_102 : Int) (t19_102 : Int) (lines_102 : List bB) (x_102 : bB) : Option ((List Int)) :=
    (app 32 lines_102 ([x_102])).bind fun x10 =>
    jW again0 b_102 week_102 t18_102 t19_102 x10

def gU (again0 : Int → (List bB) → Option ((List Int))) (b_2 : bW) (week_2 : Int) (t18_2 : Int) (t19_2 : Int) (t47_2 : List aB) (t48_2 : Int) (lines_2 : List bB) : Nat → Int → bB → Option ((List Int))
  | 0, _, _ => none
  | k2 + 1, t49_2, x_2 =>
    bif decide (t49_2 < t48_2) then ((idx t47_2 t49_2).bind fun x8 =>
    bif x8.Must then ((gU again0 b_2 week_2 t18_2 t19_2 t47_2 t48_2 lines_2 k2) (w64 (t49_2 + 1)) (bB.mk x_2.player x_2.points (w64 (x_2.musts + x8.Points)) x_2.many))
    else ((gU again0 b_2 week_2 t18_2 t19_2 t47_2 t48_2 lines_2 k2) (w64 (t49_2 + 1)) x_2))
    else (nH again0 b_2 week_2 t18_2 t19_2 lines_2 x_2)

def pH (out_104 : List Int) : Option ((List Int)) :=
    some out_104

def iQ (t70_4 : Int) (lines_4 : List bB) : Nat → Int → (List Int) → Option ((List Int))
  | 0, _, _ => none
  | k4 + 1, t71_4, out_4 =>
    bif decide (t71_4 < t70_4) then ((idx lines_4 t71_4).bind fun x16 =>
    (app 8 out_4 ([x16.player])).bind fun x18 =>
    (iQ t70_4 lines_4 k4) (w64 (t71_4 + 1)) x18)
    else (pH out_4)

def lK (lines_100 : List bB) : Option ((List Int)) :=
    (hJ lines_100 (fun y12 y13 => jY y12 y13)).bind fun r14 =>
    iQ (r14.length : Int) r14 BIG 0 ([] : List Int)

def fA (b_0 : bW) (week_0 : Int) (t18_0 : Int) : Nat → Int → (List bB) → Option ((List Int))
  | 0, _, _ => none
  | k0 + 1, t19_0, lines_0 =>
    bif decide (t19_0 < t18_0) then ((jQ b_0 t19_0 week_0).bind fun r2 =>
    (mN b_0.Ledger.Bans t19_0 week_0).bind fun r3 =>
    (bif r3 then (some true) else (some (decide ((r2.length : Int) = 0)))).bind fun b4 =>
    bif b4 then (jW (fA b_0 week_0 t18_0 k0) b_0 week_0 t18_0 t19_0 lines_0)
    else ((jR b_0 r2).bind fun r5 =>
    (rX r5).bind fun r6 =>
    gU (fA b_0 week_0 t18_0 k0) b_0 week_0 t18_0 t19_0 r2 (r2.length : Int) lines_0 BIG 0 (bB.mk t19_0 r6 0 (r2.length : Int))))
    else (lK lines_0)

def gH (b_0 : bW) (week_1 : Int) : Option ((List Int)) :=
    fA b_0 week_1 b_0.Ledger.Players BIG 0 ([] : List bB)

def nM (l_0 : aM) (week_1 : Int) : Option ((List Int) × Int) :=
    (nQ l_0 0 week_1).bind fun r2 =>
    sX r2.1 (bif !decide (r2.2 = 0) then (some (([] : List Int), r2.2))
    else (none)) fun y3 =>
    bif !decide (r2.2 = 0) then (some (([] : List Int), r2.2))
    else ((gH y3 week_1).bind fun r6 =>
    some (r6, 0))

def pC : Option Int :=
    some (-1)

def kB (s_0 : List Int) (f_0 : Int → Option Bool) (t7_0 : Int) : Nat → Int → Option Int
  | 0, _ => none
  | k0 + 1, t8_0 =>
    bif decide (t8_0 < t7_0) then ((idx s_0 t8_0).bind fun x1 =>
    (f_0 x1).bind fun r2 =>
    bif r2 then (some t8_0)
    else ((kB s_0 f_0 t7_0 k0) (w64 (t8_0 + 1))))
    else (pC)

def nR (s_0 : List Int) (f_1 : Int → Option Bool) : Option Int :=
    kB s_0 f_1 (s_0.length : Int) BIG 0

def kA (s_0 : List Int) (f_1 : Int → Option Bool) : Option Bool :=
    (nR s_0 f_1).bind fun r1 =>
    some (decide (0 ≤ r1))

def rA (n_0 : Int) : Option Bool :=
    (eJ n_0 0 2000).bind fun r1 =>
    some (!r1)

def rQ : Option Int :=
    some (-1)

def mE (s_0 : List Int) (v_0 : Int) (t7_0 : Int) : Nat → Int → Option Int
  | 0, _ => none
  | k0 + 1, t8_0 =>
    bif decide (t8_0 < t7_0) then ((idx s_0 t8_0).bind fun x1 =>
    bif decide (v_0 = x1) then (some t8_0)
    else ((mE s_0 v_0 t7_0 k0) (w64 (t8_0 + 1))))
    else (rQ)

def qL (s_0 : List Int) (v_1 : Int) : Option Int :=
    mE s_0 v_1 (s_0.length : Int) BIG 0

def rE (b_0 : bW) (player_1 : Int) (week_2 : Int) : Option Int :=
    (gH b_0 week_2).bind fun r1 =>
    (qL r1 player_1).bind fun r2 =>
    some (w64 (r2 + 1))

def tX (book : bW) (pl : Int) (wk : Int) (ms : Bool) (be : Int) (wo : Int) : Option (Bool × Int × Int) :=
    (rE book pl wk).bind fun r1 =>
    (bif ms then (some true) else (some (decide (r1 = 0)))).bind fun b2 =>
    some (b2, min be r1, max wo r1)

def rK (n_1 : Int) : Option ((List Int)) :=
    bif decide (n_1 < 0) then (none)
    else (bif decide (0 < (w64 (n_1 - (w64 (0 - 0))))) then ((chk (decide (0 ≤ 0))).bind fun u2 =>
    (chk (decide (0 < (w64 (n_1 - (w64 (0 - 0))))) && decide ((w64 (n_1 - (w64 (0 - 0)))) * ((8 : Nat) : Int) ≤ 140737488355328))).bind fun u3 =>
    (chk (decide (0 ≤ 0))).bind fun u5 =>
    some ([] : List Int))
    else (some ([] : List Int)))

def rI (o24_102 : List Int) : Option ((List Int)) :=
    some o24_102

def lQ (t25_2 : List (List Int)) (t26_2 : Int) : Nat → Int → (List Int) → Option ((List Int))
  | 0, _, _ => none
  | k2 + 1, t27_2, o24_2 =>
    bif decide (t27_2 < t26_2) then ((idx t25_2 t27_2).bind fun x4 =>
    (app 8 o24_2 x4).bind fun x5 =>
    (lQ t25_2 t26_2 k2) (w64 (t27_2 + 1)) x5)
    else (rI o24_2)

def rH (slices_100 : List (List Int)) (size_100 : Int) : Option ((List Int)) :=
    (rK size_100).bind fun r2 =>
    lQ slices_100 (slices_100.length : Int) BIG 0 r2

def lP (slices_0 : List (List Int)) (t9_0 : List (List Int)) (t10_0 : Int) : Nat → Int → Int → Option ((List Int))
  | 0, _, _ => none
  | k0 + 1, size_0, t11_0 =>
    bif decide (t11_0 < t10_0) then ((idx t9_0 t11_0).bind fun x1 =>
    bif decide ((w64 (size_0 + (x1.length : Int))) < 0) then (none)
    else ((lP slices_0 t9_0 t10_0 k0) (w64 (size_0 + (x1.length : Int))) (w64 (t11_0 + 1))))
    else (rH slices_0 size_0)

def pJ (slices_0 : List (List Int)) : Option ((List Int)) :=
    lP slices_0 slices_0 (slices_0.length : Int) BIG 0 0

def rD (againR : bW → Int → Int → Bool → Int → Int → Int → (List Int) → (List Int) → Option (bW × Bool × Int × Int)) (many_100 : Int) (b_100 : bW) (b_100_2 : Int) (b_100_3 : Int) (b_100_4 : Bool) (b_100_5 : Int) (b_100_6 : Int) : Option (bW × Bool × Int × Int) :=
    (sub b_100.Ledger.Reports 0 many_100).bind fun x12 =>
    some ((bW.mk (aM.mk b_100.Ledger.Players b_100.Ledger.Counts x12 b_100.Ledger.Bans b_100.Ledger.Frozen)), b_100_4, b_100_5, b_100_6)

def lN (againR : bW → Int → Int → Bool → Int → Int → Int → (List Int) → (List Int) → Option (bW × Bool × Int × Int)) (week_0 : Int) (prizes_0 : List Int) (free_0 : List Int) (many_0 : Int) (t29_0 : List Int) (t30_0 : Int) (b_0_2 : Int) (b_0_3 : Int) : Nat → Int → bW → Bool → Int → Int → Option (bW × Bool × Int × Int)
  | 0, _, _, _, _, _ => none
  | k0 + 1, t31_0, b_0, b_0_4, b_0_5, b_0_6 =>
    bif decide (t31_0 < t30_0) then ((idx t29_0 t31_0).bind fun x3 =>
    (sub b_0.Ledger.Reports 0 many_0).bind fun x4 =>
    (idx prizes_0 0).bind fun x5 =>
    (app 40 x4 ([(aB.mk (w64 (100 + many_0)) x3 week_0 x5 false)])).bind fun x6 =>
    (sub prizes_0 1 (prizes_0.length : Int)).bind fun x7 =>
    (sub free_0 0 t31_0).bind fun x8 =>
    (sub free_0 (w64 (t31_0 + 1)) (free_0.length : Int)).bind fun x9 =>
    (pJ ([x8, x9])).bind fun r10 =>
    (againR (bW.mk (aM.mk b_0.Ledger.Players b_0.Ledger.Counts x6 b_0.Ledger.Bans b_0.Ledger.Frozen)) b_0_2 b_0_3 b_0_4 b_0_5 b_0_6 week_0 x7 r10).bind fun r11 =>
    (lN againR week_0 prizes_0 free_0 many_0 t29_0 t30_0 b_0_2 b_0_3 k0) (w64 (t31_0 + 1)) r11.1 r11.2.1 r11.2.2.1 r11.2.2.2)
    else (rD againR many_0 b_0 b_0_2 b_0_3 b_0_4 b_0_5 b_0_6)

def kF : Nat → bW → Int → Int → Bool → Int → Int → Int → (List Int) → (List Int) → Option (bW × Bool × Int × Int)
  | 0, _, _, _, _, _, _, _, _, _ => none
  | kr + 1, book, pl, wk, ms, be, wo, week_1, prizes_2, free_3 =>
    (bif decide ((prizes_2.length : Int) = 0) then (some true) else (some (decide ((free_3.length : Int) = 0)))).bind fun b1 =>
    bif b1 then ((tX book pl wk ms be wo).bind fun r2 =>
    some (book, r2.1, r2.2.1, r2.2.2))
    else (lN (kF kr) week_1 prizes_2 free_3 (book.Ledger.Reports.length : Int) free_3 (free_3.length : Int) pl wk BIG 0 book ms be wo)

def tA : bW → Int → Int → Bool → Int → Int → Int → (List Int) → (List Int) → Option (bW × Bool × Int × Int) := kF BIG

def wI (prizes_100 : List Int) (player_100 : Int) (week_100 : Int) (best_100 : Int) (worst_100 : Int) (free_100 : List Int) (o19_100 : List aB) (o19_100_2 : Int) (o19_100_3 : Int) (o19_100_4 : List aW) (o19_100_5 : List aW) : Option (Int × Int × Int) :=
    (tA (bW.mk (aM.mk o19_100_2 o19_100_3 o19_100 o19_100_4 o19_100_5)) player_100 week_100 false (w64 (o19_100_2 + 1)) 0 week_100 prizes_100 free_100).bind fun r24 =>
    bif r24.2.1 then (some (0, 0, 3))
    else (some (r24.2.2.1, r24.2.2.2, 0))

def nS (prizes_0 : List Int) (t36_0 : Int) (player_0 : Int) (week_0 : Int) (best_0 : Int) (worst_0 : Int) (o19_0 : List aB) (o19_0_2 : Int) (o19_0_3 : Int) (o19_0_4 : List aW) (o19_0_5 : List aW) : Nat → Int → (List Int) → Option (Int × Int × Int)
  | 0, _, _ => none
  | k0 + 1, t37_0, free_0 =>
    bif decide (t37_0 < t36_0) then ((mN o19_0_4 t37_0 week_0).bind fun r20 =>
    bif !r20 then ((app 8 free_0 ([t37_0])).bind fun x21 =>
    (nS prizes_0 t36_0 player_0 week_0 best_0 worst_0 o19_0 o19_0_2 o19_0_3 o19_0_4 o19_0_5 k0) (w64 (t37_0 + 1)) x21)
    else ((nS prizes_0 t36_0 player_0 week_0 best_0 worst_0 o19_0 o19_0_2 o19_0_3 o19_0_4 o19_0_5 k0) (w64 (t37_0 + 1)) free_0))
    else (wI prizes_0 player_0 week_0 best_0 worst_0 free_0 o19_0 o19_0_2 o19_0_3 o19_0_4 o19_0_5)

def vW (l_0 : aM) (player_1 : Int) (week_2 : Int) (prizes_3 : List Int) : Option (Int × Int × Int) :=
    (nQ l_0 player_1 week_2).bind fun r6 =>
    sX r6.1 (bif !decide (r6.2 = 0) then (some (0, 0, r6.2))
    else ((bif decide (4 < (prizes_3.length : Int)) then (some true) else ((kA prizes_3 (fun y11 => rA y11)).bind fun r12 =>
    some r12)).bind fun b13 =>
    bif b13 then (some (0, 0, 42))
    else (none))) fun y7 =>
    bif !decide (r6.2 = 0) then (some (0, 0, r6.2))
    else ((bif decide (4 < (prizes_3.length : Int)) then (some true) else ((kA prizes_3 (fun y16 => rA y16)).bind fun r17 =>
    some r17)).bind fun b18 =>
    bif b18 then (some (0, 0, 42))
    else (nS prizes_3 y7.Ledger.Players player_1 week_2 0 0 y7.Ledger.Reports y7.Ledger.Players y7.Ledger.Counts y7.Ledger.Bans y7.Ledger.Frozen BIG 0 ([] : List Int)))

def jF (b_0 : bW) (player_1 : Int) (week_2 : Int) : Option Int :=
    (jQ b_0 player_1 week_2).bind fun r1 =>
    (jR b_0 r1).bind fun r2 =>
    (rX r2).bind fun r3 =>
    some r3

def mR : Option Int :=
    some (-1)

def hG (s_0 : List aB) (f_0 : aB → Option Bool) (t7_0 : Int) : Nat → Int → Option Int
  | 0, _ => none
  | k0 + 1, t8_0 =>
    bif decide (t8_0 < t7_0) then ((idx s_0 t8_0).bind fun x1 =>
    (f_0 x1).bind fun r2 =>
    bif r2 then (some t8_0)
    else ((hG s_0 f_0 t7_0 k0) (w64 (t8_0 + 1))))
    else (mR)

def lB (s_0 : List aB) (f_1 : aB → Option Bool) : Option Int :=
    hG s_0 f_1 (s_0.length : Int) BIG 0

def mF (i_100 : Int) (s_100 : List aB) : Option ((List aB)) :=
    (chk (decide (0 ≤ i_100) && decide (i_100 ≤ (s_100.length : Int)))).bind fun u7 =>
    (chk (decide (i_100.toNat ≤ s_100.length))).bind fun u8 =>
    (chk (decide (0 ≤ i_100))).bind fun u9 =>
    some (s_100.take i_100.toNat)

def fM (del_0 : aB → Option Bool) : Nat → Int → Int → (List aB) → Option ((List aB))
  | 0, _, _, _ => none
  | k0 + 1, i_0, j_0, s_0 =>
    bif decide (j_0 < (s_0.length : Int)) then ((idx s_0 j_0).bind fun x3 =>
    (del_0 x3).bind fun r5 =>
    bif !r5 then ((idx s_0 i_0).bind fun x6 =>
    (fM del_0 k0) (w64 (i_0 + 1)) (w64 (j_0 + 1)) (s_0.set i_0.toNat x3))
    else ((fM del_0 k0) i_0 (w64 (j_0 + 1)) s_0))
    else (mF i_0 s_0)

def kP (s_0 : List aB) (del_1 : aB → Option Bool) : Option ((List aB)) :=
    (lB s_0 del_1).bind fun r2 =>
    bif decide (r2 = (-1)) then (some s_0)
    else (fM del_1 BIG r2 (w64 (r2 + 1)) s_0)

def oY (r_0 : aB) (c_1 : Int) : Option Bool :=
    some (decide (c_1 < r_0.Week))

def tW (l_0 : aM) (player_1 : Int) (week_2 : Int) : Option (Int × Int) :=
    (nQ l_0 player_1 week_2).bind fun r3 =>
    sX r3.1 (bif !decide (r3.2 = 0) then (some (0, r3.2))
    else (bif decide (400 ≤ week_2) then (some (0, 1))
    else (none))) fun y4 =>
    bif !decide (r3.2 = 0) then (some (0, r3.2))
    else (bif decide (400 ≤ week_2) then (some (0, 1))
    else ((jF y4 player_1 week_2).bind fun r7 =>
    (kP y4.Ledger.Reports (fun y8 => oY y8 week_2)).bind fun r9 =>
    (jF (bW.mk (aM.mk y4.Ledger.Players y4.Ledger.Counts r9 y4.Ledger.Bans y4.Ledger.Frozen)) player_1 (w64 (week_2 + 1))).bind fun r11 =>
    some (w64 (r7 - r11), 0)))

def mU : Option Bool :=
    some true

def fW (a_0 : List Int) (b_0 : List Int) : Nat → Int → Option Bool
  | 0, _ => none
  | k0 + 1, i_0 =>
    bif decide (i_0 < (a_0.length : Int)) then ((idx a_0 i_0).bind fun x1 =>
    (idx b_0 i_0).bind fun x2 =>
    bif !decide (x1 = x2) then (some false)
    else ((fW a_0 b_0 k0) (w64 (i_0 + 1))))
    else (mU)

def iV (a_0 : List Int) (b_1 : List Int) : Option Bool :=
    bif !decide ((a_0.length : Int) = (b_1.length : Int)) then (some false)
    else (fW a_0 b_1 BIG 0)

def kG : Option Bool :=
    (oM).bind fun r1 =>
    (nM r1 40).bind fun r3 =>
    (vW r1 1 40 ([300])).bind fun r4 =>
    (tW r1 0 61).bind fun r5 =>
    (bif decide (r3.2 = 0) then (some (decide (r4.2.2 = 0))) else (some false)).bind fun b6 =>
    (bif b6 then (some (decide (r5.2 = 0))) else (some false)).bind fun b7 =>
    (bif b7 then ((iV r3.1 ([0, 2, 1])).bind fun r8 =>
    some r8) else (some false)).bind fun b9 =>
    (bif b9 then (some (decide (r4.1 = 1))) else (some false)).bind fun b10 =>
    (bif b10 then (some (decide (r4.2.1 = 3))) else (some false)).bind fun b11 =>
    (bif b11 then (some (decide (r5.1 = 200))) else (some false)).bind fun b12 =>
    some b12

def mK (l_0 : aM) : Option aM :=
    (app 40 ([] : List aB) l_0.Reports).bind fun x4 =>
    (app 24 ([] : List aW) l_0.Bans).bind fun x5 =>
    (app 24 ([] : List aW) l_0.Frozen).bind fun x6 =>
    some (aM.mk l_0.Players l_0.Counts x4 x5 x6)

def sJ : Option Bool :=
    some false

def kV (l_0 : List aW) (player_0 : Int) (week_0 : Int) : Nat → Int → Option Bool
  | 0, _ => none
  | k0 + 1, i_0 =>
    bif decide (i_0 < (l_0.length : Int)) then ((idx l_0 i_0).bind fun x1 =>
    (bif decide (x1.Player = player_0) then ((idx l_0 i_0).bind fun x2 =>
    (idx l_0 i_0).bind fun x3 =>
    (eI week_0 x2.From x3.To).bind fun r4 =>
    some r4) else (some false)).bind fun b5 =>
    bif b5 then (some true)
    else ((kV l_0 player_0 week_0 k0) (w64 (i_0 + 1))))
    else (sJ)

def lE (l_0 : List aW) (player_1 : Int) (week_2 : Int) : Option Bool :=
    kV l_0 player_1 week_2 BIG 0

def kQ (again0 : (List aB) → Int → Option ((List aB))) (l_101 : List aB) (out_101 : List aB) (i_101 : Int) : Option ((List aB)) :=
    again0 out_101 (w64 (i_101 + 1))

def kR (again0 : (List aB) → Int → Option ((List aB))) (l_102 : List aB) (out_102 : List aB) (i_102 : Int) (atv_102 : Int) (known_102 : Bool) : Option ((List aB)) :=
    bif !known_102 then ((idx l_102 i_102).bind fun x6 =>
    (sub out_102 atv_102 (out_102.length : Int)).bind fun x7 =>
    (app 40 ([x6]) x7).bind fun x8 =>
    (sub out_102 0 atv_102).bind fun x10 =>
    (app 40 ([] : List aB) x10).bind fun x11 =>
    (app 40 x11 x8).bind fun x13 =>
    kQ again0 l_102 x13 i_102)
    else (kQ again0 l_102 out_102 i_102)

def fY (again0 : (List aB) → Int → Option ((List aB))) (l_2 : List aB) (out_2 : List aB) (i_2 : Int) : Nat → Int → Bool → Int → Option ((List aB))
  | 0, _, _, _ => none
  | k2 + 1, atv_2, known_2, k_2 =>
    bif decide (k_2 < (out_2.length : Int)) then ((bif known_2 then (some true) else ((idx out_2 k_2).bind fun x1 =>
    (idx l_2 i_2).bind fun x2 =>
    some (decide (x1 = x2)))).bind fun b3 =>
    (idx out_2 k_2).bind fun x4 =>
    (idx l_2 i_2).bind fun x5 =>
    bif decide (x4.Id ≤ x5.Id) then ((fY again0 l_2 out_2 i_2 k2) (w64 (k_2 + 1)) b3 (w64 (k_2 + 1)))
    else ((fY again0 l_2 out_2 i_2 k2) atv_2 b3 (w64 (k_2 + 1))))
    else (kR again0 l_2 out_2 i_2 atv_2 known_2)

def pN (out_100 : List aB) : Option ((List aB)) :=
    some out_100

def gS (l_0 : List aB) : Nat → (List aB) → Int → Option ((List aB))
  | 0, _, _ => none
  | k0 + 1, out_0, i_0 =>
    bif decide (i_0 < (l_0.length : Int)) then (fY (gS l_0 k0) l_0 out_0 i_0 BIG 0 false 0)
    else (pN out_0)

def mD (l_0 : List aB) : Option ((List aB)) :=
    gS l_0 BIG ([] : List aB) 0

def sZ (n_100 : Int) : Option Int :=
    some n_100

def jV (week_0 : Int) (l_0 : aM) (r_0 : aB) : Nat → Int → Int → Option Int
  | 0, _, _ => none
  | k0 + 1, n_0, w_0 =>
    bif decide (w_0 ≤ week_0) then ((lE l_0.Frozen r_0.Player w_0).bind fun r3 =>
    bif !r3 then ((jV week_0 l_0 r_0 k0) (w64 (n_0 + 1)) (w64 (w_0 + 1)))
    else ((jV week_0 l_0 r_0 k0) n_0 (w64 (w_0 + 1))))
    else (sZ n_0)

def oW (l_0 : aM) (r_1 : aB) (week_2 : Int) : Option Int :=
    jV week_2 l_0 r_1 BIG 0 (w64 (r_1.Week + 1))

def pL (out_100 : List aB) : Option ((List aB)) :=
    some out_100

def fX (player_0 : Int) (week_0 : Int) (allv_0 : List aB) (l_0 : aM) : Nat → Int → (List aB) → Option ((List aB))
  | 0, _, _ => none
  | k0 + 1, i_0, out_0 =>
    bif decide (i_0 < (allv_0.length : Int)) then ((idx allv_0 i_0).bind fun x4 =>
    (bif decide (x4.Player = player_0) then (some (decide (x4.Week ≤ week_0))) else (some false)).bind fun b6 =>
    (bif b6 then ((oW l_0 x4 week_0).bind fun r7 =>
    some (decide (r7 < 52))) else (some false)).bind fun b8 =>
    (bif b8 then ((lE l_0.Bans player_0 x4.Week).bind fun r9 =>
    some (!r9)) else (some false)).bind fun b10 =>
    bif b10 then ((app 40 out_0 ([x4])).bind fun x11 =>
    (fX player_0 week_0 allv_0 l_0 k0) (w64 (i_0 + 1)) x11)
    else ((fX player_0 week_0 allv_0 l_0 k0) (w64 (i_0 + 1)) out_0))
    else (pL out_0)

def iW (l_0 : aM) (player_1 : Int) (week_2 : Int) : Option ((List aB)) :=
    (mD l_0.Reports).bind fun r3 =>
    fX player_1 week_2 r3 l_0 BIG 0 ([] : List aB)

def pD (l_0 : aM) (player_1 : Int) (week_2 : Int) : Option Bool :=
    (lE l_0.Bans player_1 week_2).bind fun r2 =>
    (bif !r2 then ((iW l_0 player_1 week_2).bind fun r3 =>
    some (decide (0 < (r3.length : Int)))) else (some false)).bind fun b4 =>
    some b4

def oE (again2 : Int → (List aB) → Option ((List aB))) (allv_103 : List aB) (must_103 : Int) (i_103 : Int) (l_103 : aM) (out_103 : List aB) : Option ((List aB)) :=
    again2 (w64 (i_103 + 1)) out_103

def oF (again2 : Int → (List aB) → Option ((List aB))) (allv_104 : List aB) (must_104 : Int) (i_104 : Int) (better_104 : Int) (l_104 : aM) (out_104 : List aB) : Option ((List aB)) :=
    (idx allv_104 i_104).bind fun x13 =>
    (bif x13.Must then (some true) else (some (decide (better_104 < (w64 (l_104.Counts - must_104)))))).bind fun b14 =>
    bif b14 then ((idx allv_104 i_104).bind fun x15 =>
    (app 40 out_104 ([x15])).bind fun x16 =>
    oE again2 allv_104 must_104 i_104 l_104 x16)
    else (oE again2 allv_104 must_104 i_104 l_104 out_104)

def iX (again2 : Int → (List aB) → Option ((List aB))) (allv_4 : List aB) (must_4 : Int) (i_4 : Int) (l_4 : aM) (out_4 : List aB) : Nat → Int → Int → Option ((List aB))
  | 0, _, _ => none
  | k4 + 1, better_4, k_4 =>
    bif decide (k_4 < (allv_4.length : Int)) then ((idx allv_4 k_4).bind fun x5 =>
    (bif !x5.Must then ((idx allv_4 k_4).bind fun x6 =>
    (idx allv_4 i_4).bind fun x7 =>
    (bif decide (x7.Points < x6.Points) then (some true) else ((idx allv_4 k_4).bind fun x8 =>
    (idx allv_4 i_4).bind fun x9 =>
    (bif decide (x8.Points = x9.Points) then (some (decide (k_4 < i_4))) else (some false)).bind fun b10 =>
    some b10)).bind fun b11 =>
    some b11) else (some false)).bind fun b12 =>
    bif b12 then ((iX again2 allv_4 must_4 i_4 l_4 out_4 k4) (w64 (better_4 + 1)) (w64 (k_4 + 1)))
    else ((iX again2 allv_4 must_4 i_4 l_4 out_4 k4) better_4 (w64 (k_4 + 1))))
    else (oF again2 allv_4 must_4 i_4 better_4 l_4 out_4)

def rP (out_102 : List aB) : Option ((List aB)) :=
    some out_102

def gZ (allv_2 : List aB) (must_2 : Int) (l_2 : aM) : Nat → Int → (List aB) → Option ((List aB))
  | 0, _, _ => none
  | k2 + 1, i_2, out_2 =>
    bif decide (i_2 < (allv_2.length : Int)) then (iX (gZ allv_2 must_2 l_2 k2) allv_2 must_2 i_2 l_2 out_2 BIG 0 0)
    else (rP out_2)

def oD (allv_100 : List aB) (must_100 : Int) (l_100 : aM) : Option ((List aB)) :=
    gZ allv_100 must_100 l_100 BIG 0 ([] : List aB)

def gY (allv_0 : List aB) (l_0 : aM) : Nat → Int → Int → Option ((List aB))
  | 0, _, _ => none
  | k0 + 1, must_0, i_0 =>
    bif decide (i_0 < (allv_0.length : Int)) then ((idx allv_0 i_0).bind fun x3 =>
    bif x3.Must then ((gY allv_0 l_0 k0) (w64 (must_0 + 1)) (w64 (i_0 + 1)))
    else ((gY allv_0 l_0 k0) must_0 (w64 (i_0 + 1))))
    else (oD allv_0 must_0 l_0)

def qD (l_0 : aM) (player_1 : Int) (week_2 : Int) : Option ((List aB)) :=
    (iW l_0 player_1 week_2).bind fun r2 =>
    gY r2 l_0 BIG 0 0

def qS (sum_100 : Int) (must_100 : Int) : Option (Int × Int) :=
    some (sum_100, must_100)

def iL (allv_0 : List aB) : Nat → Int → Int → Int → Option (Int × Int)
  | 0, _, _, _ => none
  | k0 + 1, sum_0, must_0, i_0 =>
    bif decide (i_0 < (allv_0.length : Int)) then ((idx allv_0 i_0).bind fun x3 =>
    (idx allv_0 i_0).bind fun x4 =>
    bif x4.Must then ((idx allv_0 i_0).bind fun x5 =>
    (iL allv_0 k0) (w64 (sum_0 + x3.Points)) (w64 (must_0 + x5.Points)) (w64 (i_0 + 1)))
    else ((iL allv_0 k0) (w64 (sum_0 + x3.Points)) must_0 (w64 (i_0 + 1))))
    else (qS sum_0 must_0)

def nG (l_0 : aM) (player_1 : Int) (week_2 : Int) : Option (Int × Int) :=
    (qD l_0 player_1 week_2).bind fun r2 =>
    iL r2 BIG 0 0 0

def pE (l_0 : aM) (a_1 : Int) (b_2 : Int) (week_3 : Int) : Option Bool :=
    (nG l_0 a_1 week_3).bind fun r2 =>
    (nG l_0 b_2 week_3).bind fun r3 =>
    bif !decide (r2.1 = r3.1) then (some (decide (r3.1 < r2.1)))
    else (bif !decide (r2.2 = r3.2) then (some (decide (r3.2 < r2.2)))
    else ((iW l_0 a_1 week_3).bind fun r4 =>
    (iW l_0 b_2 week_3).bind fun r5 =>
    bif !decide ((r4.length : Int) = (r5.length : Int)) then (some (decide ((r4.length : Int) < (r5.length : Int))))
    else (some (decide (a_1 < b_2)))))

def kW (again0 : (List Int) → Int → Option ((List Int))) (week_101 : Int) (out_101 : List Int) (p_101 : Int) (l_101 : aM) : Option ((List Int)) :=
    again0 out_101 (w64 (p_101 + 1))

def oN (again0 : (List Int) → Int → Option ((List Int))) (week_102 : Int) (out_102 : List Int) (p_102 : Int) (atv_102 : Int) (l_102 : aM) : Option ((List Int)) :=
    (sub out_102 atv_102 (out_102.length : Int)).bind fun x6 =>
    (app 8 ([p_102]) x6).bind fun x7 =>
    (sub out_102 0 atv_102).bind fun x9 =>
    (app 8 ([] : List Int) x9).bind fun x10 =>
    (app 8 x10 x7).bind fun x12 =>
    kW again0 week_102 x12 p_102 l_102

def jG (again0 : (List Int) → Int → Option ((List Int))) (week_2 : Int) (out_2 : List Int) (p_2 : Int) (l_2 : aM) : Nat → Int → Option ((List Int))
  | 0, _ => none
  | k2 + 1, atv_2 =>
    (bif decide (atv_2 < (out_2.length : Int)) then ((idx out_2 atv_2).bind fun x3 =>
    (pE l_2 x3 p_2 week_2).bind fun r4 =>
    some r4) else (some false)).bind fun b5 =>
    bif b5 then ((jG again0 week_2 out_2 p_2 l_2 k2) (w64 (atv_2 + 1)))
    else (oN again0 week_2 out_2 p_2 atv_2 l_2)

def sL (out_100 : List Int) : Option ((List Int)) :=
    some out_100

def iA (week_0 : Int) (l_0 : aM) : Nat → (List Int) → Int → Option ((List Int))
  | 0, _, _ => none
  | k0 + 1, out_0, p_0 =>
    bif decide (p_0 < l_0.Players) then ((pD l_0 p_0 week_0).bind fun r2 =>
    bif !r2 then (kW (iA week_0 l_0 k0) week_0 out_0 p_0 l_0)
    else (jG (iA week_0 l_0 k0) week_0 out_0 p_0 l_0 BIG 0))
    else (sL out_0)

def oI (l_0 : aM) (week_1 : Int) : Option ((List Int)) :=
    iA week_1 l_0 BIG ([] : List Int) 0

def rO : Option Int :=
    some 0

def gX (player_0 : Int) (allv_0 : List Int) : Nat → Int → Option Int
  | 0, _ => none
  | k0 + 1, i_0 =>
    bif decide (i_0 < (allv_0.length : Int)) then ((idx allv_0 i_0).bind fun x3 =>
    bif decide (x3 = player_0) then (some (w64 (i_0 + 1)))
    else ((gX player_0 allv_0 k0) (w64 (i_0 + 1))))
    else (rO)

def tQ (l_0 : aM) (player_1 : Int) (week_2 : Int) : Option Int :=
    (oI l_0 week_2).bind fun r2 =>
    gX player_1 r2 BIG 0

def gM (l_0 : aM) (player_1 : Int) (week_2 : Int) : Option Bool :=
    (iJ l_0).bind fun r2 =>
    (bif !r2 then ((kH l_0).bind fun r3 =>
    some (decide (r3 = 0))) else (some false)).bind fun b4 =>
    (bif b4 then (some (decide (0 ≤ player_1))) else (some false)).bind fun b5 =>
    (bif b5 then (some (decide (player_1 < l_0.Players))) else (some false)).bind fun b6 =>
    (bif b6 then (some (decide (0 ≤ week_2))) else (some false)).bind fun b7 =>
    (bif b7 then (some (decide (week_2 ≤ 250))) else (some false)).bind fun b8 =>
    some b8

def nD (l_0 : aM) (player_1 : Int) (week_2 : Int) : Option (Int × Int) :=
    (nQ l_0 player_1 week_2).bind fun r2 =>
    sX r2.1 (bif !decide (r2.2 = 0) then (some (0, r2.2))
    else (none)) fun y3 =>
    bif !decide (r2.2 = 0) then (some (0, r2.2))
    else ((jF y3 player_1 week_2).bind fun r6 =>
    some (r6, 0))

def slices_Sort_int (x : List Int) : Option (List Int) := if x.length < 4611686018427387904 then some (pZ x) else none

def pY (out_100 : List Int) : Option ((List Int) × Int) :=
    (slices_Sort_int out_100).bind fun r14 =>
    some (r14, 0)

def lI (t28_0 : List aB) (t29_0 : Int) : Nat → Int → (List Int) → Option ((List Int) × Int)
  | 0, _, _ => none
  | k0 + 1, t30_0, out_0 =>
    bif decide (t30_0 < t29_0) then ((idx t28_0 t30_0).bind fun x10 =>
    (app 8 out_0 ([x10.Id])).bind fun x12 =>
    (lI t28_0 t29_0 k0) (w64 (t30_0 + 1)) x12)
    else (pY out_0)

def rB (l_0 : aM) (player_1 : Int) (week_2 : Int) : Option ((List Int) × Int) :=
    (nQ l_0 player_1 week_2).bind fun r2 =>
    sX r2.1 (bif !decide (r2.2 = 0) then (some (([] : List Int), r2.2))
    else (none)) fun y3 =>
    bif !decide (r2.2 = 0) then (some (([] : List Int), r2.2))
    else ((jQ y3 player_1 week_2).bind fun r8 =>
    (jR y3 r8).bind fun r9 =>
    lI r9 (r9.length : Int) BIG 0 ([] : List Int))

def lU (again4 : Int → Option Bool) (ids_105 : List Int) (i_105 : Int) (k_105 : Int) (l_105 : aM) (ban_105 : aW) : Option Bool :=
    again4 (w64 (k_105 + 1))

def lV (again4 : Int → Option Bool) (ids_106 : List Int) (i_106 : Int) (k_106 : Int) (l_106 : aM) (ban_106 : aW) : Option Bool :=
    lU again4 ids_106 i_106 k_106 l_106 ban_106

def eN (again4 : Int → Option Bool) (ids_6 : List Int) (i_6 : Int) (k_6 : Int) (l_6 : aM) (ban_6 : aW) : Nat → Int → Option Bool
  | 0, _ => none
  | k6 + 1, j_6 =>
    bif decide (j_6 < (l_6.Reports.length : Int)) then ((idx l_6.Reports j_6).bind fun x37 =>
    (idx ids_6 k_6).bind fun x39 =>
    (bif decide (x37.Id = x39) then (some (decide (ban_6.From ≤ x37.Week))) else (some false)).bind fun b40 =>
    (bif b40 then (some (decide (x37.Week ≤ ban_6.To))) else (some false)).bind fun b41 =>
    bif b41 then (some false)
    else ((eN again4 ids_6 i_6 k_6 l_6 ban_6 k6) (w64 (j_6 + 1))))
    else (lV again4 ids_6 i_6 k_6 l_6 ban_6)

def lT (i_104 : Int) : Option Bool :=
    (bif decide (i_104 = 0) then ((kG).bind fun r42 =>
    some r42) else (some false)).bind fun b43 =>
    some b43

def eE (ids_4 : List Int) (i_4 : Int) (l_4 : aM) (ban_4 : aW) : Nat → Int → Option Bool
  | 0, _ => none
  | k4 + 1, k_4 =>
    bif decide (k_4 < (ids_4.length : Int)) then (eN (eE ids_4 i_4 l_4 ban_4 k4) ids_4 i_4 k_4 l_4 ban_4 BIG 0)
    else (lT i_4)

def jM (o_102 : aM) (l_102 : aM) (ban_102 : aW) (x_102 : jB) (others_102 : List Int) (same_102 : List Int) : Option Bool :=
    (iV others_102 same_102).bind fun r35 =>
    bif !r35 then (some false)
    else ((rB o_102 ban_102.Player x_102.Week).bind fun r36 =>
    eE r36.1 r36.2 l_102 ban_102 BIG 0)

def eM (o_2 : aM) (b_2 : List Int) (l_2 : aM) (ban_2 : aW) (x_2 : jB) (others_2 : List Int) : Nat → Int → (List Int) → Option Bool
  | 0, _, _ => none
  | k2 + 1, i_2, same_2 =>
    bif decide (i_2 < (b_2.length : Int)) then ((idx b_2 i_2).bind fun x30 =>
    bif !decide (x30 = ban_2.Player) then ((idx b_2 i_2).bind fun x31 =>
    (app 8 same_2 ([x31])).bind fun x32 =>
    (eM o_2 b_2 l_2 ban_2 x_2 others_2 k2) (w64 (i_2 + 1)) x32)
    else ((bif decide (ban_2.From ≤ x_2.Week) then (some (decide (x_2.Week ≤ ban_2.To))) else (some false)).bind fun b34 =>
    bif b34 then (some false)
    else ((eM o_2 b_2 l_2 ban_2 x_2 others_2 k2) (w64 (i_2 + 1)) same_2)))
    else (jM o_2 l_2 ban_2 x_2 others_2 same_2)

def jL (o_100 : aM) (b_100 : List Int) (l_100 : aM) (ban_100 : aW) (x_100 : jB) (others_100 : List Int) (same_100 : List Int) : Option Bool :=
    eM o_100 b_100 l_100 ban_100 x_100 others_100 BIG 0 same_100

def eL (o_0 : aM) (a_0 : List Int) (b_0 : List Int) (l_0 : aM) (ban_0 : aW) (x_0 : jB) (same_0 : List Int) : Nat → Int → (List Int) → Option Bool
  | 0, _, _ => none
  | k0 + 1, i_0, others_0 =>
    bif decide (i_0 < (a_0.length : Int)) then ((idx a_0 i_0).bind fun x26 =>
    bif !decide (x26 = ban_0.Player) then ((idx a_0 i_0).bind fun x27 =>
    (app 8 others_0 ([x27])).bind fun x28 =>
    (eL o_0 a_0 b_0 l_0 ban_0 x_0 same_0 k0) (w64 (i_0 + 1)) x28)
    else ((eL o_0 a_0 b_0 l_0 ban_0 x_0 same_0 k0) (w64 (i_0 + 1)) others_0))
    else (jL o_0 b_0 l_0 ban_0 x_0 others_0 same_0)

def lD (l_0 : aM) (ban_1 : aW) (x_2 : jB) : Option Bool :=
    (mK l_0).bind fun r4 =>
    (app 24 r4.Bans ([ban_1])).bind fun x9 =>
    (gM l_0 x_2.Player x_2.Week).bind fun r11 =>
    (bif !r11 then (some true) else ((gM (aM.mk r4.Players r4.Counts r4.Reports x9 r4.Frozen) x_2.Player x_2.Week).bind fun r12 =>
    some (!r12))).bind fun b13 =>
    bif b13 then ((kG).bind fun r14 =>
    some r14)
    else ((nM l_0 x_2.Week).bind fun r15 =>
    (nM (aM.mk r4.Players r4.Counts r4.Reports x9 r4.Frozen) x_2.Week).bind fun r16 =>
    (nD l_0 x_2.Player x_2.Week).bind fun r17 =>
    (nD (aM.mk r4.Players r4.Counts r4.Reports x9 r4.Frozen) x_2.Player x_2.Week).bind fun r18 =>
    (bif !decide (r15.2 = 0) then (some true) else (some (!decide (r16.2 = 0)))).bind fun b19 =>
    (bif b19 then (some true) else (some (!decide (r17.2 = 0)))).bind fun b20 =>
    (bif b20 then (some true) else (some (!decide (r18.2 = 0)))).bind fun b21 =>
    (bif b21 then (some true) else ((bif !decide (x_2.Player = ban_1.Player) then (some (!decide (r17.1 = r18.1))) else (some false)).bind fun b22 =>
    some b22)).bind fun b23 =>
    bif b23 then (some false)
    else (eL (aM.mk r4.Players r4.Counts r4.Reports x9 r4.Frozen) r15.1 r16.1 l_0 ban_1 x_2 ([] : List Int) BIG 0 ([] : List Int)))

end Go.Am
