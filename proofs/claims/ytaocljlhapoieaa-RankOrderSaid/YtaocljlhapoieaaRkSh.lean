/- Shallow functions, printed by program. -/
import Derived.Test.YtaocljlhapoieaaAmFull
import Derived.Test.YtaocljlhapoieaaAmPrim
import Derived.Test.YtaocljlhapoieaaAmSort
namespace Go.Am

structure aJ where
  Player : Int
  From : Int
  To : Int
  deriving DecidableEq, Inhabited
def aF (x : aJ) : List D := [.lit (.int .i64 x.Player), .lit (.int .i64 x.From), .lit (.int .i64 x.To)]

def zX (x : List aJ) : List D := [.sl 3 (x.map aF)]

structure aB where
  Id : Int
  Player : Int
  Week : Int
  Points : Int
  Must : Bool
  deriving DecidableEq, Inhabited
def aA (x : aB) : List D := [.lit (.int .i64 x.Id), .lit (.int .i64 x.Player), .lit (.int .i64 x.Week), .lit (.int .i64 x.Points), .lit (.bool x.Must)]

def fS (x : List aB) : List D := [.sl 5 (x.map aA)]

structure aH where
  Players : Int
  Counts : Int
  Reports : List aB
  Bans : List aJ
  Frozen : List aJ
  deriving DecidableEq, Inhabited
def aI (x : aH) : List D := [.lit (.int .i64 x.Players), .lit (.int .i64 x.Counts), .sl 5 (x.Reports.map aA), .sl 3 (x.Bans.map aF), .sl 3 (x.Frozen.map aF)]

structure bD where
  Ledger : aH
  deriving DecidableEq, Inhabited
def bH (x : bD) : List D := [.lit (.int .i64 x.Ledger.Players), .lit (.int .i64 x.Ledger.Counts), .sl 5 (x.Ledger.Reports.map aA), .sl 3 (x.Ledger.Bans.map aF), .sl 3 (x.Ledger.Frozen.map aF)]

def rA (x : List Int) : List D := [.sl 1 (x.map bL)]

structure aP where
  player : Int
  points : Int
  musts : Int
  many : Int
  deriving DecidableEq, Inhabited
def aV (x : aP) : List D := [.lit (.int .i64 x.player), .lit (.int .i64 x.points), .lit (.int .i64 x.musts), .lit (.int .i64 x.many)]

structure iC where
  Player : Int
  Week : Int
  Id : Int
  deriving DecidableEq, Inhabited
def fH (x : iC) : List D := [.lit (.int .i64 x.Player), .lit (.int .i64 x.Week), .lit (.int .i64 x.Id)]

structure gD where
  By : Int
  Cut : Int
  deriving DecidableEq, Inhabited
def eR (x : gD) : List D := [.lit (.int .i64 x.By), .lit (.int .i64 x.Cut)]

def vV (x : aB) : Prop := okI x.Id ∧ okI x.Player ∧ okI x.Week ∧ okI x.Points ∧ okB x.Must

def rF (x : aJ) : Prop := okI x.Player ∧ okI x.From ∧ okI x.To

def zK (x : aH) : Prop := okI x.Players ∧ okI x.Counts ∧ (okL vV) x.Reports ∧ (okL rF) x.Bans ∧ (okL rF) x.Frozen

def vH (x : iC) : Prop := okI x.Player ∧ okI x.Week ∧ okI x.Id

def uN (x : gD) : Prop := okI x.By ∧ okI x.Cut

def dO (n_0 : Int) (low_1 : Int) (high_2 : Int) : Option Bool :=
    (bif decide (low_1 ≤ n_0) then (some (decide (n_0 ≤ high_2))) else (some false)).bind fun b1 =>
    some b1

def mG (l_100 : List aJ) : Option Bool :=
    some (decide ((l_100.length : Int) ≤ 8))

def eX (players_0 : Int) (l_0 : List aJ) : Nat → Int → Option Bool
  | 0, _ => none
  | k0 + 1, i_0 =>
    bif decide (i_0 < (l_0.length : Int)) then ((idx l_0 i_0).bind fun x1 =>
    (dO x1.Player 0 (w64 (players_0 - 1))).bind fun r2 =>
    (bif !r2 then (some true) else ((idx l_0 i_0).bind fun x3 =>
    some (decide (x3.From < 0)))).bind fun b4 =>
    (bif b4 then (some true) else ((idx l_0 i_0).bind fun x5 =>
    (idx l_0 i_0).bind fun x6 =>
    some (decide (x6.To < x5.From)))).bind fun b7 =>
    (bif b7 then (some true) else ((idx l_0 i_0).bind fun x8 =>
    some (decide (400 < x8.To)))).bind fun b9 =>
    bif b9 then (some false)
    else ((eX players_0 l_0 k0) (w64 (i_0 + 1))))
    else (mG l_0)

def iE (players_0 : Int) (l_1 : List aJ) : Option Bool :=
    eX players_0 l_1 BIG 0

def jX (players_0 : Int) (r_1 : aB) : Option Bool :=
    (dO r_1.Id 0 99).bind fun r2 =>
    (bif r2 then ((dO r_1.Player 0 (w64 (players_0 - 1))).bind fun r3 =>
    some r3) else (some false)).bind fun b4 =>
    (bif b4 then ((dO r_1.Week 0 400).bind fun r5 =>
    some r5) else (some false)).bind fun b6 =>
    (bif b6 then ((dO r_1.Points 0 2000).bind fun r7 =>
    some r7) else (some false)).bind fun b8 =>
    some b8

def mX (again2 : Int → Option Bool) (i_103 : Int) (l_103 : aH) : Option Bool :=
    again2 (w64 (i_103 + 1))

def mY (again2 : Int → Option Bool) (i_104 : Int) (l_104 : aH) : Option Bool :=
    mX again2 i_104 l_104

def fG (again2 : Int → Option Bool) (i_4 : Int) (l_4 : aH) : Nat → Int → Option Bool
  | 0, _ => none
  | k4 + 1, k_4 =>
    bif decide (k_4 < i_4) then ((idx l_4.Frozen i_4).bind fun x12 =>
    (idx l_4.Frozen k_4).bind fun x13 =>
    (bif decide (x12.Player = x13.Player) then (some (decide (x12.From ≤ x13.To))) else (some false)).bind fun b16 =>
    (bif b16 then (some (decide (x13.From ≤ x12.To))) else (some false)).bind fun b17 =>
    bif b17 then (some false)
    else ((fG again2 i_4 l_4 k4) (w64 (k_4 + 1))))
    else (mY again2 i_4 l_4)

def mW : Option Bool :=
    some true

def cX (l_2 : aH) : Nat → Int → Option Bool
  | 0, _ => none
  | k2 + 1, i_2 =>
    bif decide (i_2 < (l_2.Frozen.length : Int)) then (fG (cX l_2 k2) i_2 l_2 BIG 0)
    else (mW)

def mV (l_100 : aH) : Option Bool :=
    cX l_100 BIG 0

def eK (l_0 : aH) : Nat → Int → Option Bool
  | 0, _ => none
  | k0 + 1, i_0 =>
    bif decide (i_0 < (l_0.Reports.length : Int)) then ((idx l_0.Reports i_0).bind fun x10 =>
    (jX l_0.Players x10).bind fun r11 =>
    bif !r11 then (some false)
    else ((eK l_0 k0) (w64 (i_0 + 1))))
    else (mV l_0)

def jW (l_0 : aH) : Option Bool :=
    (dO l_0.Players 1 16).bind fun r2 =>
    (bif !r2 then (some true) else ((dO l_0.Counts 1 20).bind fun r3 =>
    some (!r3))).bind fun b4 =>
    (bif b4 then (some true) else (some (decide (40 < (l_0.Reports.length : Int))))).bind fun b5 =>
    (bif b5 then (some true) else ((iE l_0.Players l_0.Bans).bind fun r6 =>
    some (!r6))).bind fun b7 =>
    (bif b7 then (some true) else ((iE l_0.Players l_0.Frozen).bind fun r8 =>
    some (!r8))).bind fun b9 =>
    bif b9 then (some false)
    else (eK l_0 BIG 0)

def oG (again0 : Int → Option Bool) (l_101 : List aB) (i_101 : Int) : Option Bool :=
    again0 (w64 (i_101 + 1))

def oH (again0 : Int → Option Bool) (l_102 : List aB) (i_102 : Int) : Option Bool :=
    oG again0 l_102 i_102

def gJ (again0 : Int → Option Bool) (l_2 : List aB) (i_2 : Int) : Nat → Int → Option Bool
  | 0, _ => none
  | k2 + 1, k_2 =>
    bif decide (k_2 < i_2) then ((idx l_2 i_2).bind fun x1 =>
    (idx l_2 k_2).bind fun x2 =>
    (bif decide (x1.Id = x2.Id) then ((idx l_2 i_2).bind fun x3 =>
    (idx l_2 k_2).bind fun x4 =>
    some (!decide (x3 = x4))) else (some false)).bind fun b5 =>
    bif b5 then (some true)
    else ((gJ again0 l_2 i_2 k2) (w64 (k_2 + 1))))
    else (oH again0 l_2 i_2)

def oF : Option Bool :=
    some false

def dW (l_0 : List aB) : Nat → Int → Option Bool
  | 0, _ => none
  | k0 + 1, i_0 =>
    bif decide (i_0 < (l_0.length : Int)) then (gJ (dW l_0 k0) l_0 i_0 BIG 0)
    else (oF)

def lT (l_0 : List aB) : Option Bool :=
    dW l_0 BIG 0

def kA (l_0 : aH) : Option Int :=
    (jW l_0).bind fun r2 =>
    bif !r2 then (some 40)
    else ((lT l_0.Reports).bind fun r3 =>
    bif r3 then (some 41)
    else (some 0))

def jK (l_100 : aH) : Option Bool :=
    (bif decide (5 < l_100.Players) then (some true) else (some (decide (10 < (l_100.Reports.length : Int))))).bind fun b6 =>
    some b6

def eQ (l_0 : aH) : Nat → Int → Option Bool
  | 0, _ => none
  | k0 + 1, i_0 =>
    bif decide (i_0 < (l_0.Reports.length : Int)) then ((idx l_0.Reports i_0).bind fun x5 =>
    bif decide (150 < x5.Week) then (some true)
    else ((eQ l_0 k0) (w64 (i_0 + 1))))
    else (jK l_0)

def iD (l_0 : aH) : Option Bool :=
    (bif decide (60 < (l_0.Reports.length : Int)) then (some true) else (some (decide (20 < (l_0.Bans.length : Int))))).bind fun b2 =>
    (bif b2 then (some true) else (some (decide (20 < (l_0.Frozen.length : Int))))).bind fun b3 =>
    bif b3 then (some true)
    else ((kA l_0).bind fun r4 =>
    bif !decide (r4 = 0) then (some false)
    else (eQ l_0 BIG 0))

def oS : Option aH :=
    some (aH.mk 3 2 ([(aB.mk 1 0 10 500 false), (aB.mk 2 0 20 300 false), (aB.mk 3 0 30 100 true), (aB.mk 4 1 12 400 false), (aB.mk 5 1 40 200 false), (aB.mk 6 2 15 600 false)]) ([(aJ.mk 1 50 55)]) ([(aJ.mk 2 20 29)]))

def dP (n_0 : Int) (low_1 : Int) (high_2 : Int) : Option Bool :=
    (bif decide (low_1 ≤ n_0) then (some (decide (n_0 ≤ high_2))) else (some false)).bind fun b1 =>
    some b1

def jD : Option Int :=
    some (-1)

def dC (s_0 : List aJ) (f_0 : aJ → Option Bool) (t7_0 : Int) : Nat → Int → Option Int
  | 0, _ => none
  | k0 + 1, t8_0 =>
    bif decide (t8_0 < t7_0) then ((idx s_0 t8_0).bind fun x1 =>
    (f_0 x1).bind fun r2 =>
    bif r2 then (some t8_0)
    else ((dC s_0 f_0 t7_0 k0) (w64 (t8_0 + 1))))
    else (jD)

def fR (s_0 : List aJ) (f_1 : aJ → Option Bool) : Option Int :=
    dC s_0 f_1 (s_0.length : Int) BIG 0

def dB (s_0 : List aJ) (f_1 : aJ → Option Bool) : Option Bool :=
    (fR s_0 f_1).bind fun r1 =>
    some (decide (0 ≤ r1))

def lZ (a_0 : aJ) (c_1 : aH) : Option Bool :=
    (dP a_0.Player 0 (w64 (c_1.Players - 1))).bind fun r2 =>
    (bif !r2 then (some true) else (some (decide (a_0.To < a_0.From)))).bind fun b3 =>
    (bif b3 then (some true) else ((dP a_0.From 0 400).bind fun r4 =>
    some (!r4))).bind fun b5 =>
    (bif b5 then (some true) else ((dP a_0.To 0 400).bind fun r6 =>
    some (!r6))).bind fun b7 =>
    some b7

def lS (l_0 : aH) (all_1 : List aJ) : Option Bool :=
    (bif decide ((all_1.length : Int) ≤ 8) then ((dB all_1 (fun y2 => lZ y2 l_0)).bind fun r3 =>
    some (!r3)) else (some false)).bind fun b4 =>
    some b4

def mQ (b_0 : aJ) (c_1 : aJ) : Option Bool :=
    (bif decide (c_1.Player = b_0.Player) then (some (decide (c_1.From ≤ b_0.To))) else (some false)).bind fun b2 =>
    (bif b2 then (some (decide (b_0.From ≤ c_1.To))) else (some false)).bind fun b3 =>
    some b3

def qY : Option Bool :=
    some true

def hO (t69_2 : List aJ) (t70_2 : Int) (l_2 : aH) : Nat → Int → Option Bool
  | 0, _ => none
  | k2 + 1, t71_2 =>
    bif decide (t71_2 < t70_2) then ((idx t69_2 t71_2).bind fun x18 =>
    (sub l_2.Frozen 0 t71_2).bind fun x20 =>
    (dB x20 (fun y21 => mQ y21 x18)).bind fun r22 =>
    bif r22 then (some false)
    else ((hO t69_2 t70_2 l_2 k2) (w64 (t71_2 + 1))))
    else (qY)

def qX (l_100 : aH) : Option Bool :=
    (lS l_100 l_100.Bans).bind fun r15 =>
    (bif !r15 then (some true) else ((lS l_100 l_100.Frozen).bind fun r16 =>
    some (!r16))).bind fun b17 =>
    bif b17 then (some false)
    else (hO l_100.Frozen (l_100.Frozen.length : Int) l_100 BIG 0)

def hJ (t24_0 : List aB) (t25_0 : Int) (l_0 : aH) : Nat → Int → Option Bool
  | 0, _ => none
  | k0 + 1, t26_0 =>
    bif decide (t26_0 < t25_0) then ((idx t24_0 t26_0).bind fun x6 =>
    (dP x6.Id 0 99).bind fun r8 =>
    (bif !r8 then (some true) else ((dP x6.Player 0 (w64 (l_0.Players - 1))).bind fun r9 =>
    some (!r9))).bind fun b10 =>
    (bif b10 then (some true) else ((dP x6.Week 0 400).bind fun r11 =>
    some (!r11))).bind fun b12 =>
    (bif b12 then (some true) else ((dP x6.Points 0 2000).bind fun r13 =>
    some (!r13))).bind fun b14 =>
    bif b14 then (some false)
    else ((hJ t24_0 t25_0 l_0 k0) (w64 (t26_0 + 1))))
    else (qX l_0)

def nX (l_0 : aH) : Option Bool :=
    (dP l_0.Players 1 16).bind fun r2 =>
    (bif !r2 then (some true) else ((dP l_0.Counts 1 20).bind fun r3 =>
    some (!r3))).bind fun b4 =>
    (bif b4 then (some true) else (some (decide (40 < (l_0.Reports.length : Int))))).bind fun b5 =>
    bif b5 then (some false)
    else (hJ l_0.Reports (l_0.Reports.length : Int) l_0 BIG 0)

def dZ (s_0 : List aB) : Option ((List aB)) :=
    (app 40 ([] : List aB) s_0).bind fun x5 =>
    some x5

def eB (again0 : Int → (List aB) → Option ((List aB))) (a_101 : Int) (b_101 : Int) (cmp_101 : aB → aB → Option Int) (i_101 : Int) (data_101 : List aB) : Option ((List aB)) :=
    again0 (w64 (i_101 + 1)) data_101

def eC (again0 : Int → (List aB) → Option ((List aB))) (a_102 : Int) (b_102 : Int) (cmp_102 : aB → aB → Option Int) (i_102 : Int) (data_102 : List aB) : Option ((List aB)) :=
    eB again0 a_102 b_102 cmp_102 i_102 data_102

def cA (again0 : Int → (List aB) → Option ((List aB))) (a_2 : Int) (b_2 : Int) (cmp_2 : aB → aB → Option Int) (i_2 : Int) : Nat → Int → (List aB) → Option ((List aB))
  | 0, _, _ => none
  | k2 + 1, j_2, data_2 =>
    (bif decide (a_2 < j_2) then ((idx data_2 j_2).bind fun x1 =>
    (idx data_2 (w64 (j_2 - 1))).bind fun x2 =>
    (cmp_2 x1 x2).bind fun r3 =>
    some (decide (r3 < 0))) else (some false)).bind fun b4 =>
    bif b4 then ((idx data_2 (w64 (j_2 - 1))).bind fun x5 =>
    (idx data_2 j_2).bind fun x6 =>
    (idx data_2 j_2).bind fun x7 =>
    (idx (data_2.set j_2.toNat x5) (w64 (j_2 - 1))).bind fun x8 =>
    (cA again0 a_2 b_2 cmp_2 i_2 k2) (w64 (j_2 - 1)) ((data_2.set j_2.toNat x5).set (w64 (j_2 - 1)).toNat x6))
    else (eC again0 a_2 b_2 cmp_2 i_2 data_2)

def eA (data_100 : List aB) : Option ((List aB)) :=
    some data_100

def bJ (a_0 : Int) (b_0 : Int) (cmp_0 : aB → aB → Option Int) : Nat → Int → (List aB) → Option ((List aB))
  | 0, _, _ => none
  | k0 + 1, i_0, data_0 =>
    bif decide (i_0 < b_0) then (cA (bJ a_0 b_0 cmp_0 k0) a_0 b_0 cmp_0 i_0 BIG i_0 data_0)
    else (eA data_0)

def cL (data_0 : List aB) (a_1 : Int) (b_2 : Int) (cmp_3 : aB → aB → Option Int) : Option ((List aB)) :=
    bJ a_1 b_2 cmp_3 BIG (w64 (a_1 + 1)) data_0

def gV (data_100 : List aB) : Option ((List aB)) :=
    some data_100

def cO (a_0 : Int) (b_0 : Int) (n_0 : Int) : Nat → Int → (List aB) → Option ((List aB))
  | 0, _, _ => none
  | k0 + 1, i_0, data_0 =>
    bif decide (i_0 < n_0) then ((idx data_0 (w64 (b_0 + i_0))).bind fun x1 =>
    (idx data_0 (w64 (a_0 + i_0))).bind fun x2 =>
    (idx data_0 (w64 (a_0 + i_0))).bind fun x3 =>
    (idx (data_0.set (w64 (a_0 + i_0)).toNat x1) (w64 (b_0 + i_0))).bind fun x4 =>
    (cO a_0 b_0 n_0 k0) (w64 (i_0 + 1)) ((data_0.set (w64 (a_0 + i_0)).toNat x1).set (w64 (b_0 + i_0)).toNat x2))
    else (gV data_0)

def cV (data_0 : List aB) (a_1 : Int) (b_2 : Int) (n_3 : Int) (cmp_4 : aB → aB → Option Int) : Option ((List aB)) :=
    cO a_1 b_2 n_3 BIG 0 data_0

def iM (m_100 : Int) (cmp_100 : aB → aB → Option Int) (i_100 : Int) (data_100 : List aB) : Option ((List aB)) :=
    (cV data_100 (w64 (m_100 - i_100)) m_100 i_100 cmp_100).bind fun r3 =>
    some r3

def cC (m_0 : Int) (cmp_0 : aB → aB → Option Int) : Nat → Int → Int → (List aB) → Option ((List aB))
  | 0, _, _, _ => none
  | k0 + 1, i_0, j_0, data_0 =>
    bif !decide (i_0 = j_0) then (bif decide (j_0 < i_0) then ((cV data_0 (w64 (m_0 - i_0)) m_0 j_0 cmp_0).bind fun r1 =>
    (cC m_0 cmp_0 k0) (w64 (i_0 - j_0)) j_0 r1)
    else ((cV data_0 (w64 (m_0 - i_0)) (w64 ((w64 (m_0 + j_0)) - i_0)) i_0 cmp_0).bind fun r2 =>
    (cC m_0 cmp_0 k0) i_0 (w64 (j_0 - i_0)) r2))
    else (iM m_0 cmp_0 i_0 data_0)

def dQ (data_0 : List aB) (a_1 : Int) (m_2 : Int) (b_3 : Int) (cmp_4 : aB → aB → Option Int) : Option ((List aB)) :=
    cC m_2 cmp_4 BIG (w64 (m_2 - a_1)) (w64 (b_3 - m_2)) data_0

def iA (againR : (List aB) → Int → Int → Int → Option ((List aB))) (data_102 : List aB) : Option ((List aB)) :=
    some data_102

def cP (againR : (List aB) → Int → Int → Int → Option ((List aB))) (i_2 : Int) : Nat → Int → (List aB) → Option ((List aB))
  | 0, _, _ => none
  | k2 + 1, k_2, data_2 =>
    bif decide (k_2 < (w64 (i_2 - 1))) then ((idx data_2 (w64 (k_2 + 1))).bind fun x4 =>
    (idx data_2 k_2).bind fun x5 =>
    (idx data_2 k_2).bind fun x6 =>
    (idx (data_2.set k_2.toNat x4) (w64 (k_2 + 1))).bind fun x7 =>
    (cP againR i_2 k2) (w64 (k_2 + 1)) ((data_2.set k_2.toNat x4).set (w64 (k_2 + 1)).toNat x5))
    else (iA againR data_2)

def fB (againR : (List aB) → Int → Int → Int → Option ((List aB))) (a_100 : Int) (i_100 : Int) (data_100 : List aB) : Option ((List aB)) :=
    cP againR i_100 BIG a_100 data_100

def bR (againR : (List aB) → Int → Int → Int → Option ((List aB))) (a_0 : Int) (cmp_0 : aB → aB → Option Int) (data_0 : List aB) : Nat → Int → Int → Option ((List aB))
  | 0, _, _ => none
  | k0 + 1, i_0, j_0 =>
    bif decide (i_0 < j_0) then ((idx data_0 (w64 ((IntKind.u64.wrap (w64 (i_0 + j_0))).fdiv (2 ^ (min (1 : Int).toNat 64))))).bind fun x1 =>
    (idx data_0 a_0).bind fun x2 =>
    (cmp_0 x1 x2).bind fun r3 =>
    bif decide (r3 < 0) then ((bR againR a_0 cmp_0 data_0 k0) (w64 ((w64 ((IntKind.u64.wrap (w64 (i_0 + j_0))).fdiv (2 ^ (min (1 : Int).toNat 64)))) + 1)) j_0)
    else ((bR againR a_0 cmp_0 data_0 k0) i_0 (w64 ((IntKind.u64.wrap (w64 (i_0 + j_0))).fdiv (2 ^ (min (1 : Int).toNat 64))))))
    else (fB againR a_0 i_0 data_0)

def iB (againR : (List aB) → Int → Int → Int → Option ((List aB))) (data_106 : List aB) : Option ((List aB)) :=
    some data_106

def cQ (againR : (List aB) → Int → Int → Int → Option ((List aB))) (i_6 : Int) : Nat → Int → (List aB) → Option ((List aB))
  | 0, _, _ => none
  | k6 + 1, k_6, data_6 =>
    bif decide (i_6 < k_6) then ((idx data_6 (w64 (k_6 - 1))).bind fun x11 =>
    (idx data_6 k_6).bind fun x12 =>
    (idx data_6 k_6).bind fun x13 =>
    (idx (data_6.set k_6.toNat x11) (w64 (k_6 - 1))).bind fun x14 =>
    (cQ againR i_6 k6) (w64 (k_6 - 1)) ((data_6.set k_6.toNat x11).set (w64 (k_6 - 1)).toNat x12))
    else (iB againR data_6)

def fC (againR : (List aB) → Int → Int → Int → Option ((List aB))) (m_104 : Int) (i_104 : Int) (data_104 : List aB) : Option ((List aB)) :=
    cQ againR i_104 BIG m_104 data_104

def bT (againR : (List aB) → Int → Int → Int → Option ((List aB))) (m_4 : Int) (cmp_4 : aB → aB → Option Int) (data_4 : List aB) : Nat → Int → Int → Option ((List aB))
  | 0, _, _ => none
  | k4 + 1, i_4, j_4 =>
    bif decide (i_4 < j_4) then ((idx data_4 m_4).bind fun x8 =>
    (idx data_4 (w64 ((IntKind.u64.wrap (w64 (i_4 + j_4))).fdiv (2 ^ (min (1 : Int).toNat 64))))).bind fun x9 =>
    (cmp_4 x8 x9).bind fun r10 =>
    bif !(decide (r10 < 0)) then ((bT againR m_4 cmp_4 data_4 k4) (w64 ((w64 ((IntKind.u64.wrap (w64 (i_4 + j_4))).fdiv (2 ^ (min (1 : Int).toNat 64)))) + 1)) j_4)
    else ((bT againR m_4 cmp_4 data_4 k4) i_4 (w64 ((IntKind.u64.wrap (w64 (i_4 + j_4))).fdiv (2 ^ (min (1 : Int).toNat 64))))))
    else (fC againR m_4 i_4 data_4)

def cH (againR : (List aB) → Int → Int → Int → Option ((List aB))) (a_108 : Int) (m_108 : Int) (b_108 : Int) (cmp_108 : aB → aB → Option Int) (mid_108 : Int) (n_108 : Int) (start_108 : Int) (data_108 : List aB) : Option ((List aB)) :=
    (bif decide (start_108 < m_108) then (some (decide (m_108 < (w64 (n_108 - start_108))))) else (some false)).bind fun b18 =>
    bif b18 then ((dQ data_108 start_108 m_108 (w64 (n_108 - start_108)) cmp_108).bind fun r19 =>
    (bif decide (a_108 < start_108) then (some (decide (start_108 < mid_108))) else (some false)).bind fun b20 =>
    bif b20 then ((againR r19 a_108 start_108 mid_108).bind fun r21 =>
    (bif decide (mid_108 < (w64 (n_108 - start_108))) then (some (decide ((w64 (n_108 - start_108)) < b_108))) else (some false)).bind fun b22 =>
    bif b22 then ((againR r21 mid_108 (w64 (n_108 - start_108)) b_108).bind fun r23 =>
    some r23)
    else (some r21))
    else ((bif decide (mid_108 < (w64 (n_108 - start_108))) then (some (decide ((w64 (n_108 - start_108)) < b_108))) else (some false)).bind fun b24 =>
    bif b24 then ((againR r19 mid_108 (w64 (n_108 - start_108)) b_108).bind fun r25 =>
    some r25)
    else (some r19)))
    else ((bif decide (a_108 < start_108) then (some (decide (start_108 < mid_108))) else (some false)).bind fun b26 =>
    bif b26 then ((againR data_108 a_108 start_108 mid_108).bind fun r27 =>
    (bif decide (mid_108 < (w64 (n_108 - start_108))) then (some (decide ((w64 (n_108 - start_108)) < b_108))) else (some false)).bind fun b28 =>
    bif b28 then ((againR r27 mid_108 (w64 (n_108 - start_108)) b_108).bind fun r29 =>
    some r29)
    else (some r27))
    else ((bif decide (mid_108 < (w64 (n_108 - start_108))) then (some (decide ((w64 (n_108 - start_108)) < b_108))) else (some false)).bind fun b30 =>
    bif b30 then ((againR data_108 mid_108 (w64 (n_108 - start_108)) b_108).bind fun r31 =>
    some r31)
    else (some data_108)))

def bE (againR : (List aB) → Int → Int → Int → Option ((List aB))) (a_8 : Int) (m_8 : Int) (b_8 : Int) (cmp_8 : aB → aB → Option Int) (mid_8 : Int) (n_8 : Int) (p_8 : Int) (data_8 : List aB) : Nat → Int → Int → Option ((List aB))
  | 0, _, _ => none
  | k8 + 1, start_8, r_8 =>
    bif decide (start_8 < r_8) then ((idx data_8 (w64 (p_8 - (w64 ((IntKind.u64.wrap (w64 (start_8 + r_8))).fdiv (2 ^ (min (1 : Int).toNat 64))))))).bind fun x15 =>
    (idx data_8 (w64 ((IntKind.u64.wrap (w64 (start_8 + r_8))).fdiv (2 ^ (min (1 : Int).toNat 64))))).bind fun x16 =>
    (cmp_8 x15 x16).bind fun r17 =>
    bif !(decide (r17 < 0)) then ((bE againR a_8 m_8 b_8 cmp_8 mid_8 n_8 p_8 data_8 k8) (w64 ((w64 ((IntKind.u64.wrap (w64 (start_8 + r_8))).fdiv (2 ^ (min (1 : Int).toNat 64)))) + 1)) r_8)
    else ((bE againR a_8 m_8 b_8 cmp_8 mid_8 n_8 p_8 data_8 k8) start_8 (w64 ((IntKind.u64.wrap (w64 (start_8 + r_8))).fdiv (2 ^ (min (1 : Int).toNat 64))))))
    else (cH againR a_8 m_8 b_8 cmp_8 mid_8 n_8 start_8 data_8)

def aR (cmp_4 : aB → aB → Option Int) : Nat → (List aB) → Int → Int → Int → Option ((List aB))
  | 0, _, _, _, _ => none
  | kr + 1, data_0, a_1, m_2, b_3 =>
    bif decide ((w64 (m_2 - a_1)) = 1) then (bR (aR cmp_4 kr) a_1 cmp_4 data_0 BIG m_2 b_3)
    else (bif decide ((w64 (b_3 - m_2)) = 1) then (bT (aR cmp_4 kr) m_2 cmp_4 data_0 BIG a_1 m_2)
    else (bif decide ((w64 ((IntKind.u64.wrap (w64 (a_1 + b_3))).fdiv (2 ^ (min (1 : Int).toNat 64)))) < m_2) then (bE (aR cmp_4 kr) a_1 m_2 b_3 cmp_4 (w64 ((IntKind.u64.wrap (w64 (a_1 + b_3))).fdiv (2 ^ (min (1 : Int).toNat 64)))) (w64 ((w64 ((IntKind.u64.wrap (w64 (a_1 + b_3))).fdiv (2 ^ (min (1 : Int).toNat 64)))) + m_2)) (w64 ((w64 ((w64 ((IntKind.u64.wrap (w64 (a_1 + b_3))).fdiv (2 ^ (min (1 : Int).toNat 64)))) + m_2)) - 1)) data_0 BIG (w64 ((w64 ((w64 ((IntKind.u64.wrap (w64 (a_1 + b_3))).fdiv (2 ^ (min (1 : Int).toNat 64)))) + m_2)) - b_3)) (w64 ((IntKind.u64.wrap (w64 (a_1 + b_3))).fdiv (2 ^ (min (1 : Int).toNat 64)))))
    else (bE (aR cmp_4 kr) a_1 m_2 b_3 cmp_4 (w64 ((IntKind.u64.wrap (w64 (a_1 + b_3))).fdiv (2 ^ (min (1 : Int).toNat 64)))) (w64 ((w64 ((IntKind.u64.wrap (w64 (a_1 + b_3))).fdiv (2 ^ (min (1 : Int).toNat 64)))) + m_2)) (w64 ((w64 ((w64 ((IntKind.u64.wrap (w64 (a_1 + b_3))).fdiv (2 ^ (min (1 : Int).toNat 64)))) + m_2)) - 1)) data_0 BIG a_1 m_2)))

def fU (data_0 : List aB) (a_1 : Int) (m_2 : Int) (b_3 : Int) (cmp_4 : aB → aB → Option Int) : Option ((List aB)) := aR cmp_4 BIG data_0 a_1 m_2 b_3

def eF (again2 : Int → (List aB) → Option ((List aB))) (n_103 : Int) (cmp_103 : aB → aB → Option Int) (blockSize_103 : Int) (data_103 : List aB) : Option ((List aB)) :=
    again2 blockSize_103 data_103

def iP (again2 : Int → (List aB) → Option ((List aB))) (n_104 : Int) (cmp_104 : aB → aB → Option Int) (blockSize_104 : Int) (a_104 : Int) (data_104 : List aB) : Option ((List aB)) :=
    bif decide ((w64 (a_104 + blockSize_104)) < n_104) then ((fU data_104 a_104 (w64 (a_104 + blockSize_104)) n_104 cmp_104).bind fun r4 =>
    eF again2 n_104 cmp_104 (w64 (blockSize_104 * 2)) r4)
    else (eF again2 n_104 cmp_104 (w64 (blockSize_104 * 2)) data_104)

def cU (again2 : Int → (List aB) → Option ((List aB))) (n_4 : Int) (cmp_4 : aB → aB → Option Int) (blockSize_4 : Int) : Nat → Int → Int → (List aB) → Option ((List aB))
  | 0, _, _, _ => none
  | k4 + 1, a_4, b_4, data_4 =>
    bif decide (b_4 ≤ n_4) then ((fU data_4 a_4 (w64 (a_4 + blockSize_4)) b_4 cmp_4).bind fun r3 =>
    (cU again2 n_4 cmp_4 blockSize_4 k4) b_4 (w64 (b_4 + (w64 (2 * blockSize_4)))) r3)
    else (iP again2 n_4 cmp_4 blockSize_4 a_4 data_4)

def iO (data_102 : List aB) : Option ((List aB)) :=
    some data_102

def cD (n_2 : Int) (cmp_2 : aB → aB → Option Int) : Nat → Int → (List aB) → Option ((List aB))
  | 0, _, _ => none
  | k2 + 1, blockSize_2, data_2 =>
    bif decide (blockSize_2 < n_2) then (cU (cD n_2 cmp_2 k2) n_2 cmp_2 blockSize_2 BIG 0 (w64 (2 * blockSize_2)) data_2)
    else (iO data_2)

def iN (n_100 : Int) (cmp_100 : aB → aB → Option Int) (blockSize_100 : Int) (a_100 : Int) (data_100 : List aB) : Option ((List aB)) :=
    (cL data_100 a_100 n_100 cmp_100).bind fun r2 =>
    cD n_100 cmp_100 BIG blockSize_100 r2

def cT (n_0 : Int) (cmp_0 : aB → aB → Option Int) (blockSize_0 : Int) : Nat → Int → Int → (List aB) → Option ((List aB))
  | 0, _, _, _ => none
  | k0 + 1, a_0, b_0, data_0 =>
    bif decide (b_0 ≤ n_0) then ((cL data_0 a_0 b_0 cmp_0).bind fun r1 =>
    (cT n_0 cmp_0 blockSize_0 k0) b_0 (w64 (b_0 + blockSize_0)) r1)
    else (iN n_0 cmp_0 blockSize_0 a_0 data_0)

def gC (data_0 : List aB) (n_1 : Int) (cmp_2 : aB → aB → Option Int) : Option ((List aB)) :=
    cT n_1 cmp_2 20 BIG 0 20 data_0

def dL (x_0 : List aB) (cmp_1 : aB → aB → Option Int) : Option ((List aB)) :=
    (gC x_0 (x_0.length : Int) cmp_1).bind fun r1 =>
    some r1

def oD (a_0 : aB) (b_1 : aB) : Option Int :=
    some (w64 (a_0.Id - b_1.Id))

def kG (again0 : Int → (List aB) → Option ((List aB))) (k_102 : Int) (s_102 : List aB) : Option ((List aB)) :=
    (chk (decide (0 ≤ k_102) && decide (k_102 ≤ (s_102.length : Int)))).bind fun u9 =>
    (chk (decide (k_102.toNat ≤ s_102.length))).bind fun u10 =>
    (chk (decide (0 ≤ k_102))).bind fun u11 =>
    some (s_102.take k_102.toNat)

def dA (again0 : Int → (List aB) → Option ((List aB))) (s2_2 : Int) : Nat → Int → Int → (List aB) → Option ((List aB))
  | 0, _, _, _ => none
  | k2 + 1, k_2, k2_2, s_2 =>
    bif decide (k2_2 < ((s_2.drop s2_2.toNat).length : Int)) then ((idx (s_2.drop s2_2.toNat) k2_2).bind fun x5 =>
    (idx (s_2.drop s2_2.toNat) (w64 (k2_2 - 1))).bind fun x6 =>
    bif !decide (x5 = x6) then ((idx (s_2.drop s2_2.toNat) k2_2).bind fun x7 =>
    (idx s_2 k_2).bind fun x8 =>
    (dA again0 s2_2 k2) (w64 (k_2 + 1)) (w64 (k2_2 + 1)) (s_2.set k_2.toNat x7))
    else ((dA again0 s2_2 k2) k_2 (w64 (k2_2 + 1)) s_2))
    else (kG again0 k_2 s_2)

def kF (again0 : Int → (List aB) → Option ((List aB))) (k_101 : Int) (s_101 : List aB) : Option ((List aB)) :=
    again0 (w64 (k_101 + 1)) s_101

def kE (s_100 : List aB) : Option ((List aB)) :=
    some s_100

def cJ : Nat → Int → (List aB) → Option ((List aB))
  | 0, _, _ => none
  | k0 + 1, k_0, s_0 =>
    bif decide (k_0 < (s_0.length : Int)) then ((idx s_0 k_0).bind fun x2 =>
    (idx s_0 (w64 (k_0 - 1))).bind fun x3 =>
    bif decide (x2 = x3) then ((chk (decide (0 ≤ k_0) && decide (k_0 ≤ (s_0.length : Int)))).bind fun u4 =>
    dA (cJ k0) k_0 BIG k_0 1 s_0)
    else (kF (cJ k0) k_0 s_0))
    else (kE s_0)

def gR (s_0 : List aB) : Option ((List aB)) :=
    bif decide ((s_0.length : Int) < 2) then (some s_0)
    else (cJ BIG 1 s_0)

def uU (o7_100 : List aB) : Option ((List aB) × Bool) :=
    some (o7_100, true)

def gA (o7_0 : List aB) : Nat → Int → Option ((List aB) × Bool)
  | 0, _ => none
  | k0 + 1, i_0 =>
    bif decide (i_0 < (o7_0.length : Int)) then ((idx o7_0 i_0).bind fun x9 =>
    (idx o7_0 (w64 (i_0 - 1))).bind fun x10 =>
    bif decide (x9.Id = x10.Id) then (some (([] : List aB), false))
    else ((gA o7_0 k0) (w64 (i_0 + 1))))
    else (uU o7_0)

def lO (all_0 : List aB) : Option ((List aB) × Bool) :=
    (dZ all_0).bind fun r2 =>
    (dL r2 (fun y4 y5 => oD y4 y5)).bind fun r6 =>
    (gR r6).bind fun r7 =>
    gA r7 BIG 1

def mO (l_0 : aH) : Option Int :=
    (nX l_0).bind fun r2 =>
    bif !r2 then (some 40)
    else ((lO l_0.Reports).bind fun r3 =>
    bif !r3.2 then (some 41)
    else (some 0))

def sV (l_0 : aH) : Option ((Option bD) × Int) :=
    (mO l_0).bind fun r2 =>
    bif !decide (r2 = 0) then (some (none, r2))
    else ((lO l_0.Reports).bind fun r3 =>
    some (some (bD.mk (aH.mk l_0.Players l_0.Counts r3.1 l_0.Bans l_0.Frozen)), 0))

def oX (l_0 : aH) (player_1 : Int) (week_2 : Int) : Option ((Option bD) × Int) :=
    (sV l_0).bind fun r2 =>
    vW r2.1 (bif !decide (r2.2 = 0) then (some (none, r2.2))
    else ((dP player_1 0 (w64 (l_0.Players - 1))).bind fun r6 =>
    (bif !r6 then (some true) else ((dP week_2 0 400).bind fun r7 =>
    some (!r7))).bind fun b8 =>
    bif b8 then (some (none, 1))
    else (some (none, 0)))) fun y3 =>
    bif !decide (r2.2 = 0) then (some (none, r2.2))
    else ((dP player_1 0 (w64 (l_0.Players - 1))).bind fun r9 =>
    (bif !r9 then (some true) else ((dP week_2 0 400).bind fun r10 =>
    some (!r10))).bind fun b11 =>
    bif b11 then (some (none, 1))
    else (some (some y3, 0)))

def qW (n_100 : Int) : Option Int :=
    some n_100

def hH (week_0 : Int) (t18_0 : List aJ) (t19_0 : Int) (r_0 : aB) : Nat → Int → Int → Option Int
  | 0, _, _ => none
  | k0 + 1, n_0, t20_0 =>
    bif decide (t20_0 < t19_0) then ((idx t18_0 t20_0).bind fun x2 =>
    bif decide (x2.Player = r_0.Player) then ((hH week_0 t18_0 t19_0 r_0 k0) (w64 (n_0 - (max 0 (w64 ((w64 ((min x2.To week_0) - (max x2.From (w64 (r_0.Week + 1))))) + 1))))) (w64 (t20_0 + 1)))
    else ((hH week_0 t18_0 t19_0 r_0 k0) n_0 (w64 (t20_0 + 1))))
    else (qW n_0)

def mH (b_0 : bD) (r_1 : aB) (week_2 : Int) : Option Int :=
    hH week_2 b_0.Ledger.Frozen (b_0.Ledger.Frozen.length : Int) r_1 BIG (w64 (week_2 - r_1.Week)) 0

def qE (a_0 : aJ) (c_1 : Int) (c_2 : Int) : Option Bool :=
    (bif decide (a_0.Player = c_1) then ((dP c_2 a_0.From a_0.To).bind fun r2 =>
    some r2) else (some false)).bind fun b3 =>
    some b3

def mP (all_0 : List aJ) (player_1 : Int) (week_2 : Int) : Option Bool :=
    (dB all_0 (fun y3 => qE y3 player_1 week_2)).bind fun r4 =>
    some r4

def oY (out_100 : List aB) : Option ((List aB)) :=
    some out_100

def fV (b_0 : bD) (player_0 : Int) (week_0 : Int) (t14_0 : List aB) (t15_0 : Int) : Nat → Int → (List aB) → Option ((List aB))
  | 0, _, _ => none
  | k0 + 1, t16_0, out_0 =>
    bif decide (t16_0 < t15_0) then ((idx t14_0 t16_0).bind fun x2 =>
    (bif decide (x2.Player = player_0) then (some (decide (x2.Week ≤ week_0))) else (some false)).bind fun b4 =>
    (bif b4 then ((mH b_0 x2 week_0).bind fun r5 =>
    some (decide (r5 < 52))) else (some false)).bind fun b6 =>
    (bif b6 then ((mP b_0.Ledger.Bans player_0 x2.Week).bind fun r7 =>
    some (!r7)) else (some false)).bind fun b8 =>
    bif b8 then ((app 40 out_0 ([x2])).bind fun x9 =>
    (fV b_0 player_0 week_0 t14_0 t15_0 k0) (w64 (t16_0 + 1)) x9)
    else ((fV b_0 player_0 week_0 t14_0 t15_0 k0) (w64 (t16_0 + 1)) out_0))
    else (oY out_0)

def kY (b_0 : bD) (player_1 : Int) (week_2 : Int) : Option ((List aB)) :=
    fV b_0 player_1 week_2 b_0.Ledger.Reports (b_0.Ledger.Reports.length : Int) BIG 0 ([] : List aB)

def tE (zero_100 : Int) : Option Int :=
    some zero_100

def lB (zero_0 : Int) (t6_0 : List Int) (t7_0 : Int) : Nat → Int → Option Int
  | 0, _ => none
  | k0 + 1, t8_0 =>
    bif decide (t8_0 < t7_0) then ((idx t6_0 t8_0).bind fun x1 =>
    bif !decide (x1 = zero_0) then (some x1)
    else ((lB zero_0 t6_0 t7_0 k0) (w64 (t8_0 + 1))))
    else (tE zero_0)

def pH (vals_0 : List Int) : Option Int :=
    lB 0 vals_0 (vals_0.length : Int) BIG 0

def jN (x_0 : aB) (y_1 : aB) : Option Int :=
    (bif !decide (x_0.Must = y_1.Must) then (some x_0.Must) else (some false)).bind fun b3 =>
    bif b3 then (some (-1))
    else (bif !decide (x_0.Must = y_1.Must) then (some 1)
    else ((pH ([w64 (y_1.Points - x_0.Points), w64 (x_0.Id - y_1.Id)])).bind fun r4 =>
    some r4))

def kT (b_100 : bD) (musts_100 : Int) (o10_100 : List aB) : Option ((List aB)) :=
    (sub o10_100 0 (min (o10_100.length : Int) (max musts_100 b_100.Ledger.Counts))).bind fun x8 =>
    some x8

def fA (b_0 : bD) (t14_0 : Int) (o10_0 : List aB) : Nat → Int → Int → Option ((List aB))
  | 0, _, _ => none
  | k0 + 1, musts_0, t15_0 =>
    bif decide (t15_0 < t14_0) then ((idx o10_0 t15_0).bind fun x6 =>
    bif x6.Must then ((fA b_0 t14_0 o10_0 k0) (w64 (musts_0 + 1)) (w64 (t15_0 + 1)))
    else ((fA b_0 t14_0 o10_0 k0) musts_0 (w64 (t15_0 + 1))))
    else (kT b_0 musts_0 o10_0)

def kZ (b_0 : bD) (all_1 : List aB) : Option ((List aB)) :=
    (dZ all_1).bind fun r1 =>
    (dL r1 (fun y3 y4 => jN y3 y4)).bind fun r5 =>
    fA b_0 (r5.length : Int) r5 BIG 0 0

def vZ (n_100 : Int) : Option Int :=
    some n_100

def nE (t5_0 : List aB) (t6_0 : Int) : Nat → Int → Int → Option Int
  | 0, _, _ => none
  | k0 + 1, n_0, t7_0 =>
    bif decide (t7_0 < t6_0) then ((idx t5_0 t7_0).bind fun x1 =>
    (nE t5_0 t6_0 k0) (w64 (n_0 + x1.Points)) (w64 (t7_0 + 1)))
    else (vZ n_0)

def sH (l_0 : List aB) : Option Int :=
    nE l_0 (l_0.length : Int) BIG 0 0

def qI (x : Int) : Option Int := yW x

def eI (again0 : Int → (List aP) → Option ((List aP))) (a_101 : Int) (b_101 : Int) (cmp_101 : aP → aP → Option Int) (i_101 : Int) (data_101 : List aP) : Option ((List aP)) :=
    again0 (w64 (i_101 + 1)) data_101

def eJ (again0 : Int → (List aP) → Option ((List aP))) (a_102 : Int) (b_102 : Int) (cmp_102 : aP → aP → Option Int) (i_102 : Int) (data_102 : List aP) : Option ((List aP)) :=
    eI again0 a_102 b_102 cmp_102 i_102 data_102

def cB (again0 : Int → (List aP) → Option ((List aP))) (a_2 : Int) (b_2 : Int) (cmp_2 : aP → aP → Option Int) (i_2 : Int) : Nat → Int → (List aP) → Option ((List aP))
  | 0, _, _ => none
  | k2 + 1, j_2, data_2 =>
    (bif decide (a_2 < j_2) then ((idx data_2 j_2).bind fun x1 =>
    (idx data_2 (w64 (j_2 - 1))).bind fun x2 =>
    (cmp_2 x1 x2).bind fun r3 =>
    some (decide (r3 < 0))) else (some false)).bind fun b4 =>
    bif b4 then ((idx data_2 (w64 (j_2 - 1))).bind fun x5 =>
    (idx data_2 j_2).bind fun x6 =>
    (idx data_2 j_2).bind fun x7 =>
    (idx (data_2.set j_2.toNat x5) (w64 (j_2 - 1))).bind fun x8 =>
    (cB again0 a_2 b_2 cmp_2 i_2 k2) (w64 (j_2 - 1)) ((data_2.set j_2.toNat x5).set (w64 (j_2 - 1)).toNat x6))
    else (eJ again0 a_2 b_2 cmp_2 i_2 data_2)

def eH (data_100 : List aP) : Option ((List aP)) :=
    some data_100

def bM (a_0 : Int) (b_0 : Int) (cmp_0 : aP → aP → Option Int) : Nat → Int → (List aP) → Option ((List aP))
  | 0, _, _ => none
  | k0 + 1, i_0, data_0 =>
    bif decide (i_0 < b_0) then (cB (bM a_0 b_0 cmp_0 k0) a_0 b_0 cmp_0 i_0 BIG i_0 data_0)
    else (eH data_0)

def cN (data_0 : List aP) (a_1 : Int) (b_2 : Int) (cmp_3 : aP → aP → Option Int) : Option ((List aP)) :=
    bM a_1 b_2 cmp_3 BIG (w64 (a_1 + 1)) data_0

def fN (cmp_0 : aP → aP → Option Int) : Nat → Int → Int → Int → Bool → Bool → (List aP) → Option ((List aP))
  | 0, _, _, _, _, _, _ => none
  | k0 + 1, a_0, b_0, limit_0, wasBalanced_0, wasPartitioned_0, data_0 =>
    bif decide ((w64 (b_0 - a_0)) ≤ 12) then ((cN data_0 a_0 b_0 cmp_0).bind fun r1 =>
    some r1)
    else (none)

def gB (data_0 : List aP) (a_1 : Int) (b_2 : Int) (limit_3 : Int) (cmp_4 : aP → aP → Option Int) : Option ((List aP)) :=
    fN cmp_4 BIG a_1 b_2 limit_3 true true data_0

def gT (x_0 : List aP) (cmp_1 : aP → aP → Option Int) : Option ((List aP)) :=
    (qI (IntKind.u64.wrap (x_0.length : Int))).bind fun r1 =>
    (gB x_0 0 (x_0.length : Int) r1 cmp_1).bind fun r2 =>
    some r2

def jO (x_0 : aP) (y_1 : aP) : Option Int :=
    (pH ([w64 (y_1.points - x_0.points), w64 (y_1.musts - x_0.musts), w64 (x_0.many - y_1.many), w64 (x_0.player - y_1.player)])).bind fun r3 =>
    some r3

def jM (again0 : Int → (List aP) → Option ((List Int))) (b_101 : bD) (week_101 : Int) (t18_101 : Int) (t19_101 : Int) (lines_101 : List aP) : Option ((List Int)) :=
    again0 (w64 (t19_101 + 1)) lines_101

def nH (again0 : Int → (List aP) → Option ((List Int))) (b_102 : bD) (week_102 : Int) (t18_102 : Int) (t19_102 : Int) (lines_102 : List aP) (x_102 : aP) : Option ((List Int)) :=
    (app 32 lines_102 ([x_102])).bind fun x10 =>
    jM again0 b_102 week_102 t18_102 t19_102 x10

def gH (again0 : Int → (List aP) → Option ((List Int))) (b_2 : bD) (week_2 : Int) (t18_2 : Int) (t19_2 : Int) (t47_2 : List aB) (t48_2 : Int) (lines_2 : List aP) : Nat → Int → aP → Option ((List Int))
  | 0, _, _ => none
  | k2 + 1, t49_2, x_2 =>
    bif decide (t49_2 < t48_2) then ((idx t47_2 t49_2).bind fun x8 =>
    bif x8.Must then ((gH again0 b_2 week_2 t18_2 t19_2 t47_2 t48_2 lines_2 k2) (w64 (t49_2 + 1)) (aP.mk x_2.player x_2.points (w64 (x_2.musts + x8.Points)) x_2.many))
    else ((gH again0 b_2 week_2 t18_2 t19_2 t47_2 t48_2 lines_2 k2) (w64 (t49_2 + 1)) x_2))
    else (nH again0 b_2 week_2 t18_2 t19_2 lines_2 x_2)

def pX (out_104 : List Int) : Option ((List Int)) :=
    some out_104

def iL (t70_4 : Int) (lines_4 : List aP) : Nat → Int → (List Int) → Option ((List Int))
  | 0, _, _ => none
  | k4 + 1, t71_4, out_4 =>
    bif decide (t71_4 < t70_4) then ((idx lines_4 t71_4).bind fun x16 =>
    (app 8 out_4 ([x16.player])).bind fun x18 =>
    (iL t70_4 lines_4 k4) (w64 (t71_4 + 1)) x18)
    else (pX out_4)

def lG (lines_100 : List aP) : Option ((List Int)) :=
    (gT lines_100 (fun y12 y13 => jO y12 y13)).bind fun r14 =>
    iL (r14.length : Int) r14 BIG 0 ([] : List Int)

def eE (b_0 : bD) (week_0 : Int) (t18_0 : Int) : Nat → Int → (List aP) → Option ((List Int))
  | 0, _, _ => none
  | k0 + 1, t19_0, lines_0 =>
    bif decide (t19_0 < t18_0) then ((kY b_0 t19_0 week_0).bind fun r2 =>
    (mP b_0.Ledger.Bans t19_0 week_0).bind fun r3 =>
    (bif r3 then (some true) else (some (decide ((r2.length : Int) = 0)))).bind fun b4 =>
    bif b4 then (jM (eE b_0 week_0 t18_0 k0) b_0 week_0 t18_0 t19_0 lines_0)
    else ((kZ b_0 r2).bind fun r5 =>
    (sH r5).bind fun r6 =>
    gH (eE b_0 week_0 t18_0 k0) b_0 week_0 t18_0 t19_0 r2 (r2.length : Int) lines_0 BIG 0 (aP.mk t19_0 r6 0 (r2.length : Int))))
    else (lG lines_0)

def fP (b_0 : bD) (week_1 : Int) : Option ((List Int)) :=
    eE b_0 week_1 b_0.Ledger.Players BIG 0 ([] : List aP)

def kS (l_0 : aH) (week_1 : Int) : Option ((List Int) × Int) :=
    (oX l_0 0 week_1).bind fun r2 =>
    vW r2.1 (bif !decide (r2.2 = 0) then (some (([] : List Int), r2.2))
    else (none)) fun y3 =>
    bif !decide (r2.2 = 0) then (some (([] : List Int), r2.2))
    else ((fP y3 week_1).bind fun r6 =>
    some (r6, 0))

def pR : Option Int :=
    some (-1)

def jV (s_0 : List Int) (f_0 : Int → Option Bool) (t7_0 : Int) : Nat → Int → Option Int
  | 0, _ => none
  | k0 + 1, t8_0 =>
    bif decide (t8_0 < t7_0) then ((idx s_0 t8_0).bind fun x1 =>
    (f_0 x1).bind fun r2 =>
    bif r2 then (some t8_0)
    else ((jV s_0 f_0 t7_0 k0) (w64 (t8_0 + 1))))
    else (pR)

def nU (s_0 : List Int) (f_1 : Int → Option Bool) : Option Int :=
    jV s_0 f_1 (s_0.length : Int) BIG 0

def jU (s_0 : List Int) (f_1 : Int → Option Bool) : Option Bool :=
    (nU s_0 f_1).bind fun r1 =>
    some (decide (0 ≤ r1))

def rK (n_0 : Int) : Option Bool :=
    (dP n_0 0 2000).bind fun r1 =>
    some (!r1)

def rZ : Option Int :=
    some (-1)

def mE (s_0 : List Int) (v_0 : Int) (t7_0 : Int) : Nat → Int → Option Int
  | 0, _ => none
  | k0 + 1, t8_0 =>
    bif decide (t8_0 < t7_0) then ((idx s_0 t8_0).bind fun x1 =>
    bif decide (v_0 = x1) then (some t8_0)
    else ((mE s_0 v_0 t7_0 k0) (w64 (t8_0 + 1))))
    else (rZ)

def qZ (s_0 : List Int) (v_1 : Int) : Option Int :=
    mE s_0 v_1 (s_0.length : Int) BIG 0

def rM (b_0 : bD) (player_1 : Int) (week_2 : Int) : Option Int :=
    (fP b_0 week_2).bind fun r1 =>
    (qZ r1 player_1).bind fun r2 =>
    some (w64 (r2 + 1))

def uR (book : bD) (pl : Int) (wk : Int) (ms : Bool) (be : Int) (wo : Int) : Option (Bool × Int × Int) :=
    (rM book pl wk).bind fun r1 =>
    (bif ms then (some true) else (some (decide (r1 = 0)))).bind fun b2 =>
    some (b2, min be r1, max wo r1)

def rT (n_1 : Int) : Option ((List Int)) :=
    bif decide (n_1 < 0) then (none)
    else (bif decide (0 < (w64 (n_1 - (w64 (0 - 0))))) then ((chk (decide (0 ≤ 0))).bind fun u2 =>
    (chk (decide (0 < (w64 (n_1 - (w64 (0 - 0))))) && decide ((w64 (n_1 - (w64 (0 - 0)))) * ((8 : Nat) : Int) ≤ 140737488355328))).bind fun u3 =>
    (chk (decide (0 ≤ 0))).bind fun u5 =>
    some ([] : List Int))
    else (some ([] : List Int)))

def rR (o24_102 : List Int) : Option ((List Int)) :=
    some o24_102

def lN (t25_2 : List (List Int)) (t26_2 : Int) : Nat → Int → (List Int) → Option ((List Int))
  | 0, _, _ => none
  | k2 + 1, t27_2, o24_2 =>
    bif decide (t27_2 < t26_2) then ((idx t25_2 t27_2).bind fun x4 =>
    (app 8 o24_2 x4).bind fun x5 =>
    (lN t25_2 t26_2 k2) (w64 (t27_2 + 1)) x5)
    else (rR o24_2)

def rQ (slices_100 : List (List Int)) (size_100 : Int) : Option ((List Int)) :=
    (rT size_100).bind fun r2 =>
    lN slices_100 (slices_100.length : Int) BIG 0 r2

def lM (slices_0 : List (List Int)) (t9_0 : List (List Int)) (t10_0 : Int) : Nat → Int → Int → Option ((List Int))
  | 0, _, _ => none
  | k0 + 1, size_0, t11_0 =>
    bif decide (t11_0 < t10_0) then ((idx t9_0 t11_0).bind fun x1 =>
    bif decide ((w64 (size_0 + (x1.length : Int))) < 0) then (none)
    else ((lM slices_0 t9_0 t10_0 k0) (w64 (size_0 + (x1.length : Int))) (w64 (t11_0 + 1))))
    else (rQ slices_0 size_0)

def pY (slices_0 : List (List Int)) : Option ((List Int)) :=
    lM slices_0 slices_0 (slices_0.length : Int) BIG 0 0

def rL (againR : bD → Int → Int → Bool → Int → Int → Int → (List Int) → (List Int) → Option (bD × Bool × Int × Int)) (many_100 : Int) (b_100 : bD) (b_100_2 : Int) (b_100_3 : Int) (b_100_4 : Bool) (b_100_5 : Int) (b_100_6 : Int) : Option (bD × Bool × Int × Int) :=
    (sub b_100.Ledger.Reports 0 many_100).bind fun x12 =>
    some ((bD.mk (aH.mk b_100.Ledger.Players b_100.Ledger.Counts x12 b_100.Ledger.Bans b_100.Ledger.Frozen)), b_100_4, b_100_5, b_100_6)

def lL (againR : bD → Int → Int → Bool → Int → Int → Int → (List Int) → (List Int) → Option (bD × Bool × Int × Int)) (week_0 : Int) (prizes_0 : List Int) (free_0 : List Int) (many_0 : Int) (t29_0 : List Int) (t30_0 : Int) (b_0_2 : Int) (b_0_3 : Int) : Nat → Int → bD → Bool → Int → Int → Option (bD × Bool × Int × Int)
  | 0, _, _, _, _, _ => none
  | k0 + 1, t31_0, b_0, b_0_4, b_0_5, b_0_6 =>
    bif decide (t31_0 < t30_0) then ((idx t29_0 t31_0).bind fun x3 =>
    (sub b_0.Ledger.Reports 0 many_0).bind fun x4 =>
    (idx prizes_0 0).bind fun x5 =>
    (app 40 x4 ([(aB.mk (w64 (100 + many_0)) x3 week_0 x5 false)])).bind fun x6 =>
    (sub prizes_0 1 (prizes_0.length : Int)).bind fun x7 =>
    (sub free_0 0 t31_0).bind fun x8 =>
    (sub free_0 (w64 (t31_0 + 1)) (free_0.length : Int)).bind fun x9 =>
    (pY ([x8, x9])).bind fun r10 =>
    (againR (bD.mk (aH.mk b_0.Ledger.Players b_0.Ledger.Counts x6 b_0.Ledger.Bans b_0.Ledger.Frozen)) b_0_2 b_0_3 b_0_4 b_0_5 b_0_6 week_0 x7 r10).bind fun r11 =>
    (lL againR week_0 prizes_0 free_0 many_0 t29_0 t30_0 b_0_2 b_0_3 k0) (w64 (t31_0 + 1)) r11.1 r11.2.1 r11.2.2.1 r11.2.2.2)
    else (rL againR many_0 b_0 b_0_2 b_0_3 b_0_4 b_0_5 b_0_6)

def jY : Nat → bD → Int → Int → Bool → Int → Int → Int → (List Int) → (List Int) → Option (bD × Bool × Int × Int)
  | 0, _, _, _, _, _, _, _, _, _ => none
  | kr + 1, book, pl, wk, ms, be, wo, week_1, prizes_2, free_3 =>
    (bif decide ((prizes_2.length : Int) = 0) then (some true) else (some (decide ((free_3.length : Int) = 0)))).bind fun b1 =>
    bif b1 then ((uR book pl wk ms be wo).bind fun r2 =>
    some (book, r2.1, r2.2.1, r2.2.2))
    else (lL (jY kr) week_1 prizes_2 free_3 (book.Ledger.Reports.length : Int) free_3 (free_3.length : Int) pl wk BIG 0 book ms be wo)

def tL : bD → Int → Int → Bool → Int → Int → Int → (List Int) → (List Int) → Option (bD × Bool × Int × Int) := jY BIG

def xJ (prizes_100 : List Int) (player_100 : Int) (week_100 : Int) (best_100 : Int) (worst_100 : Int) (free_100 : List Int) (o19_100 : List aB) (o19_100_2 : Int) (o19_100_3 : Int) (o19_100_4 : List aJ) (o19_100_5 : List aJ) : Option (Int × Int × Int) :=
    (tL (bD.mk (aH.mk o19_100_2 o19_100_3 o19_100 o19_100_4 o19_100_5)) player_100 week_100 false (w64 (o19_100_2 + 1)) 0 week_100 prizes_100 free_100).bind fun r24 =>
    bif r24.2.1 then (some (0, 0, 3))
    else (some (r24.2.2.1, r24.2.2.2, 0))

def nW (prizes_0 : List Int) (t36_0 : Int) (player_0 : Int) (week_0 : Int) (best_0 : Int) (worst_0 : Int) (o19_0 : List aB) (o19_0_2 : Int) (o19_0_3 : Int) (o19_0_4 : List aJ) (o19_0_5 : List aJ) : Nat → Int → (List Int) → Option (Int × Int × Int)
  | 0, _, _ => none
  | k0 + 1, t37_0, free_0 =>
    bif decide (t37_0 < t36_0) then ((mP o19_0_4 t37_0 week_0).bind fun r20 =>
    bif !r20 then ((app 8 free_0 ([t37_0])).bind fun x21 =>
    (nW prizes_0 t36_0 player_0 week_0 best_0 worst_0 o19_0 o19_0_2 o19_0_3 o19_0_4 o19_0_5 k0) (w64 (t37_0 + 1)) x21)
    else ((nW prizes_0 t36_0 player_0 week_0 best_0 worst_0 o19_0 o19_0_2 o19_0_3 o19_0_4 o19_0_5 k0) (w64 (t37_0 + 1)) free_0))
    else (xJ prizes_0 player_0 week_0 best_0 worst_0 free_0 o19_0 o19_0_2 o19_0_3 o19_0_4 o19_0_5)

def xA (l_0 : aH) (player_1 : Int) (week_2 : Int) (prizes_3 : List Int) : Option (Int × Int × Int) :=
    (oX l_0 player_1 week_2).bind fun r6 =>
    vW r6.1 (bif !decide (r6.2 = 0) then (some (0, 0, r6.2))
    else ((bif decide (4 < (prizes_3.length : Int)) then (some true) else ((jU prizes_3 (fun y11 => rK y11)).bind fun r12 =>
    some r12)).bind fun b13 =>
    bif b13 then (some (0, 0, 42))
    else (none))) fun y7 =>
    bif !decide (r6.2 = 0) then (some (0, 0, r6.2))
    else ((bif decide (4 < (prizes_3.length : Int)) then (some true) else ((jU prizes_3 (fun y16 => rK y16)).bind fun r17 =>
    some r17)).bind fun b18 =>
    bif b18 then (some (0, 0, 42))
    else (nW prizes_3 y7.Ledger.Players player_1 week_2 0 0 y7.Ledger.Reports y7.Ledger.Players y7.Ledger.Counts y7.Ledger.Bans y7.Ledger.Frozen BIG 0 ([] : List Int)))

def jA (b_0 : bD) (player_1 : Int) (week_2 : Int) : Option Int :=
    (kY b_0 player_1 week_2).bind fun r1 =>
    (kZ b_0 r1).bind fun r2 =>
    (sH r2).bind fun r3 =>
    some r3

def mS : Option Int :=
    some (-1)

def gS (s_0 : List aB) (f_0 : aB → Option Bool) (t7_0 : Int) : Nat → Int → Option Int
  | 0, _ => none
  | k0 + 1, t8_0 =>
    bif decide (t8_0 < t7_0) then ((idx s_0 t8_0).bind fun x1 =>
    (f_0 x1).bind fun r2 =>
    bif r2 then (some t8_0)
    else ((gS s_0 f_0 t7_0 k0) (w64 (t8_0 + 1))))
    else (mS)

def kV (s_0 : List aB) (f_1 : aB → Option Bool) : Option Int :=
    gS s_0 f_1 (s_0.length : Int) BIG 0

def mF (i_100 : Int) (s_100 : List aB) : Option ((List aB)) :=
    (chk (decide (0 ≤ i_100) && decide (i_100 ≤ (s_100.length : Int)))).bind fun u7 =>
    (chk (decide (i_100.toNat ≤ s_100.length))).bind fun u8 =>
    (chk (decide (0 ≤ i_100))).bind fun u9 =>
    some (s_100.take i_100.toNat)

def eT (del_0 : aB → Option Bool) : Nat → Int → Int → (List aB) → Option ((List aB))
  | 0, _, _, _ => none
  | k0 + 1, i_0, j_0, s_0 =>
    bif decide (j_0 < (s_0.length : Int)) then ((idx s_0 j_0).bind fun x3 =>
    (del_0 x3).bind fun r5 =>
    bif !r5 then ((idx s_0 i_0).bind fun x6 =>
    (eT del_0 k0) (w64 (i_0 + 1)) (w64 (j_0 + 1)) (s_0.set i_0.toNat x3))
    else ((eT del_0 k0) i_0 (w64 (j_0 + 1)) s_0))
    else (mF i_0 s_0)

def kH (s_0 : List aB) (del_1 : aB → Option Bool) : Option ((List aB)) :=
    (kV s_0 del_1).bind fun r2 =>
    bif decide (r2 = (-1)) then (some s_0)
    else (eT del_1 BIG r2 (w64 (r2 + 1)) s_0)

def pM (r_0 : aB) (c_1 : Int) : Option Bool :=
    some (decide (c_1 < r_0.Week))

def uQ (l_0 : aH) (player_1 : Int) (week_2 : Int) : Option (Int × Int) :=
    (oX l_0 player_1 week_2).bind fun r3 =>
    vW r3.1 (bif !decide (r3.2 = 0) then (some (0, r3.2))
    else (bif decide (400 ≤ week_2) then (some (0, 1))
    else (none))) fun y4 =>
    bif !decide (r3.2 = 0) then (some (0, r3.2))
    else (bif decide (400 ≤ week_2) then (some (0, 1))
    else ((jA y4 player_1 week_2).bind fun r7 =>
    (kH y4.Ledger.Reports (fun y8 => pM y8 week_2)).bind fun r9 =>
    (jA (bD.mk (aH.mk y4.Ledger.Players y4.Ledger.Counts r9 y4.Ledger.Bans y4.Ledger.Frozen)) player_1 (w64 (week_2 + 1))).bind fun r11 =>
    some (w64 (r7 - r11), 0)))

def mU : Option Bool :=
    some true

def fD (a_0 : List Int) (b_0 : List Int) : Nat → Int → Option Bool
  | 0, _ => none
  | k0 + 1, i_0 =>
    bif decide (i_0 < (a_0.length : Int)) then ((idx a_0 i_0).bind fun x1 =>
    (idx b_0 i_0).bind fun x2 =>
    bif !decide (x1 = x2) then (some false)
    else ((fD a_0 b_0 k0) (w64 (i_0 + 1))))
    else (mU)

def fL (a_0 : List Int) (b_1 : List Int) : Option Bool :=
    bif !decide ((a_0.length : Int) = (b_1.length : Int)) then (some false)
    else (fD a_0 b_1 BIG 0)

def fX : Option Bool :=
    (oS).bind fun r1 =>
    (kS r1 40).bind fun r3 =>
    (xA r1 1 40 ([300])).bind fun r4 =>
    (uQ r1 0 61).bind fun r5 =>
    (bif decide (r3.2 = 0) then (some (decide (r4.2.2 = 0))) else (some false)).bind fun b6 =>
    (bif b6 then (some (decide (r5.2 = 0))) else (some false)).bind fun b7 =>
    (bif b7 then ((fL r3.1 ([0, 2, 1])).bind fun r8 =>
    some r8) else (some false)).bind fun b9 =>
    (bif b9 then (some (decide (r4.1 = 1))) else (some false)).bind fun b10 =>
    (bif b10 then (some (decide (r4.2.1 = 3))) else (some false)).bind fun b11 =>
    (bif b11 then (some (decide (r5.1 = 200))) else (some false)).bind fun b12 =>
    some b12

def iQ (l_0 : aH) : Option aH :=
    (app 40 ([] : List aB) l_0.Reports).bind fun x4 =>
    (app 24 ([] : List aJ) l_0.Bans).bind fun x5 =>
    (app 24 ([] : List aJ) l_0.Frozen).bind fun x6 =>
    some (aH.mk l_0.Players l_0.Counts x4 x5 x6)

def sQ : Option Bool :=
    some false

def kN (l_0 : List aJ) (player_0 : Int) (week_0 : Int) : Nat → Int → Option Bool
  | 0, _ => none
  | k0 + 1, i_0 =>
    bif decide (i_0 < (l_0.length : Int)) then ((idx l_0 i_0).bind fun x1 =>
    (bif decide (x1.Player = player_0) then ((idx l_0 i_0).bind fun x2 =>
    (idx l_0 i_0).bind fun x3 =>
    (dO week_0 x2.From x3.To).bind fun r4 =>
    some r4) else (some false)).bind fun b5 =>
    bif b5 then (some true)
    else ((kN l_0 player_0 week_0 k0) (w64 (i_0 + 1))))
    else (sQ)

def kX (l_0 : List aJ) (player_1 : Int) (week_2 : Int) : Option Bool :=
    kN l_0 player_1 week_2 BIG 0

def kJ (again0 : (List aB) → Int → Option ((List aB))) (l_101 : List aB) (out_101 : List aB) (i_101 : Int) : Option ((List aB)) :=
    again0 out_101 (w64 (i_101 + 1))

def kK (again0 : (List aB) → Int → Option ((List aB))) (l_102 : List aB) (out_102 : List aB) (i_102 : Int) (atv_102 : Int) (known_102 : Bool) : Option ((List aB)) :=
    bif !known_102 then ((idx l_102 i_102).bind fun x6 =>
    (sub out_102 atv_102 (out_102.length : Int)).bind fun x7 =>
    (app 40 ([x6]) x7).bind fun x8 =>
    (sub out_102 0 atv_102).bind fun x10 =>
    (app 40 ([] : List aB) x10).bind fun x11 =>
    (app 40 x11 x8).bind fun x13 =>
    kJ again0 l_102 x13 i_102)
    else (kJ again0 l_102 out_102 i_102)

def fF (again0 : (List aB) → Int → Option ((List aB))) (l_2 : List aB) (out_2 : List aB) (i_2 : Int) : Nat → Int → Bool → Int → Option ((List aB))
  | 0, _, _, _ => none
  | k2 + 1, atv_2, known_2, k_2 =>
    bif decide (k_2 < (out_2.length : Int)) then ((bif known_2 then (some true) else ((idx out_2 k_2).bind fun x1 =>
    (idx l_2 i_2).bind fun x2 =>
    some (decide (x1 = x2)))).bind fun b3 =>
    (idx out_2 k_2).bind fun x4 =>
    (idx l_2 i_2).bind fun x5 =>
    bif decide (x4.Id ≤ x5.Id) then ((fF again0 l_2 out_2 i_2 k2) (w64 (k_2 + 1)) b3 (w64 (k_2 + 1)))
    else ((fF again0 l_2 out_2 i_2 k2) atv_2 b3 (w64 (k_2 + 1))))
    else (kK again0 l_2 out_2 i_2 atv_2 known_2)

def qB (out_100 : List aB) : Option ((List aB)) :=
    some out_100

def gE (l_0 : List aB) : Nat → (List aB) → Int → Option ((List aB))
  | 0, _, _ => none
  | k0 + 1, out_0, i_0 =>
    bif decide (i_0 < (l_0.length : Int)) then (fF (gE l_0 k0) l_0 out_0 i_0 BIG 0 false 0)
    else (qB out_0)

def dD (l_0 : List aB) : Option ((List aB)) :=
    gE l_0 BIG ([] : List aB) 0

def tJ (n_100 : Int) : Option Int :=
    some n_100

def jL (week_0 : Int) (l_0 : aH) (r_0 : aB) : Nat → Int → Int → Option Int
  | 0, _, _ => none
  | k0 + 1, n_0, w_0 =>
    bif decide (w_0 ≤ week_0) then ((kX l_0.Frozen r_0.Player w_0).bind fun r3 =>
    bif !r3 then ((jL week_0 l_0 r_0 k0) (w64 (n_0 + 1)) (w64 (w_0 + 1)))
    else ((jL week_0 l_0 r_0 k0) n_0 (w64 (w_0 + 1))))
    else (tJ n_0)

def pI (l_0 : aH) (r_1 : aB) (week_2 : Int) : Option Int :=
    jL week_2 l_0 r_1 BIG 0 (w64 (r_1.Week + 1))

def pZ (out_100 : List aB) : Option ((List aB)) :=
    some out_100

def fE (player_0 : Int) (week_0 : Int) (allv_0 : List aB) (l_0 : aH) : Nat → Int → (List aB) → Option ((List aB))
  | 0, _, _ => none
  | k0 + 1, i_0, out_0 =>
    bif decide (i_0 < (allv_0.length : Int)) then ((idx allv_0 i_0).bind fun x4 =>
    (bif decide (x4.Player = player_0) then (some (decide (x4.Week ≤ week_0))) else (some false)).bind fun b6 =>
    (bif b6 then ((pI l_0 x4 week_0).bind fun r7 =>
    some (decide (r7 < 52))) else (some false)).bind fun b8 =>
    (bif b8 then ((kX l_0.Bans player_0 x4.Week).bind fun r9 =>
    some (!r9)) else (some false)).bind fun b10 =>
    bif b10 then ((app 40 out_0 ([x4])).bind fun x11 =>
    (fE player_0 week_0 allv_0 l_0 k0) (w64 (i_0 + 1)) x11)
    else ((fE player_0 week_0 allv_0 l_0 k0) (w64 (i_0 + 1)) out_0))
    else (pZ out_0)

def iS (l_0 : aH) (player_1 : Int) (week_2 : Int) : Option ((List aB)) :=
    (dD l_0.Reports).bind fun r3 =>
    fE player_1 week_2 r3 l_0 BIG 0 ([] : List aB)

def pT (l_0 : aH) (player_1 : Int) (week_2 : Int) : Option Bool :=
    (kX l_0.Bans player_1 week_2).bind fun r2 =>
    (bif !r2 then ((iS l_0 player_1 week_2).bind fun r3 =>
    some (decide (0 < (r3.length : Int)))) else (some false)).bind fun b4 =>
    some b4

def oJ (again2 : Int → (List aB) → Option ((List aB))) (allv_103 : List aB) (must_103 : Int) (i_103 : Int) (l_103 : aH) (out_103 : List aB) : Option ((List aB)) :=
    again2 (w64 (i_103 + 1)) out_103

def oK (again2 : Int → (List aB) → Option ((List aB))) (allv_104 : List aB) (must_104 : Int) (i_104 : Int) (better_104 : Int) (l_104 : aH) (out_104 : List aB) : Option ((List aB)) :=
    (idx allv_104 i_104).bind fun x13 =>
    (bif x13.Must then (some true) else (some (decide (better_104 < (w64 (l_104.Counts - must_104)))))).bind fun b14 =>
    bif b14 then ((idx allv_104 i_104).bind fun x15 =>
    (app 40 out_104 ([x15])).bind fun x16 =>
    oJ again2 allv_104 must_104 i_104 l_104 x16)
    else (oJ again2 allv_104 must_104 i_104 l_104 out_104)

def iT (again2 : Int → (List aB) → Option ((List aB))) (allv_4 : List aB) (must_4 : Int) (i_4 : Int) (l_4 : aH) (out_4 : List aB) : Nat → Int → Int → Option ((List aB))
  | 0, _, _ => none
  | k4 + 1, better_4, k_4 =>
    bif decide (k_4 < (allv_4.length : Int)) then ((idx allv_4 k_4).bind fun x5 =>
    (bif !x5.Must then ((idx allv_4 k_4).bind fun x6 =>
    (idx allv_4 i_4).bind fun x7 =>
    (bif decide (x7.Points < x6.Points) then (some true) else ((idx allv_4 k_4).bind fun x8 =>
    (idx allv_4 i_4).bind fun x9 =>
    (bif decide (x8.Points = x9.Points) then (some (decide (k_4 < i_4))) else (some false)).bind fun b10 =>
    some b10)).bind fun b11 =>
    some b11) else (some false)).bind fun b12 =>
    bif b12 then ((iT again2 allv_4 must_4 i_4 l_4 out_4 k4) (w64 (better_4 + 1)) (w64 (k_4 + 1)))
    else ((iT again2 allv_4 must_4 i_4 l_4 out_4 k4) better_4 (w64 (k_4 + 1))))
    else (oK again2 allv_4 must_4 i_4 better_4 l_4 out_4)

def rY (out_102 : List aB) : Option ((List aB)) :=
    some out_102

def gM (allv_2 : List aB) (must_2 : Int) (l_2 : aH) : Nat → Int → (List aB) → Option ((List aB))
  | 0, _, _ => none
  | k2 + 1, i_2, out_2 =>
    bif decide (i_2 < (allv_2.length : Int)) then (iT (gM allv_2 must_2 l_2 k2) allv_2 must_2 i_2 l_2 out_2 BIG 0 0)
    else (rY out_2)

def oI (allv_100 : List aB) (must_100 : Int) (l_100 : aH) : Option ((List aB)) :=
    gM allv_100 must_100 l_100 BIG 0 ([] : List aB)

def gL (allv_0 : List aB) (l_0 : aH) : Nat → Int → Int → Option ((List aB))
  | 0, _, _ => none
  | k0 + 1, must_0, i_0 =>
    bif decide (i_0 < (allv_0.length : Int)) then ((idx allv_0 i_0).bind fun x3 =>
    bif x3.Must then ((gL allv_0 l_0 k0) (w64 (must_0 + 1)) (w64 (i_0 + 1)))
    else ((gL allv_0 l_0 k0) must_0 (w64 (i_0 + 1))))
    else (oI allv_0 must_0 l_0)

def qQ (l_0 : aH) (player_1 : Int) (week_2 : Int) : Option ((List aB)) :=
    (iS l_0 player_1 week_2).bind fun r2 =>
    gL r2 l_0 BIG 0 0

def rE (sum_100 : Int) (must_100 : Int) : Option (Int × Int) :=
    some (sum_100, must_100)

def iF (allv_0 : List aB) : Nat → Int → Int → Int → Option (Int × Int)
  | 0, _, _, _ => none
  | k0 + 1, sum_0, must_0, i_0 =>
    bif decide (i_0 < (allv_0.length : Int)) then ((idx allv_0 i_0).bind fun x3 =>
    (idx allv_0 i_0).bind fun x4 =>
    bif x4.Must then ((idx allv_0 i_0).bind fun x5 =>
    (iF allv_0 k0) (w64 (sum_0 + x3.Points)) (w64 (must_0 + x5.Points)) (w64 (i_0 + 1)))
    else ((iF allv_0 k0) (w64 (sum_0 + x3.Points)) must_0 (w64 (i_0 + 1))))
    else (rE sum_0 must_0)

def nF (l_0 : aH) (player_1 : Int) (week_2 : Int) : Option (Int × Int) :=
    (qQ l_0 player_1 week_2).bind fun r2 =>
    iF r2 BIG 0 0 0

def pW (l_0 : aH) (a_1 : Int) (b_2 : Int) (week_3 : Int) : Option Bool :=
    (nF l_0 a_1 week_3).bind fun r2 =>
    (nF l_0 b_2 week_3).bind fun r3 =>
    bif !decide (r2.1 = r3.1) then (some (decide (r3.1 < r2.1)))
    else (bif !decide (r2.2 = r3.2) then (some (decide (r3.2 < r2.2)))
    else ((iS l_0 a_1 week_3).bind fun r4 =>
    (iS l_0 b_2 week_3).bind fun r5 =>
    bif !decide ((r4.length : Int) = (r5.length : Int)) then (some (decide ((r4.length : Int) < (r5.length : Int))))
    else (some (decide (a_1 < b_2)))))

def kO (again0 : (List Int) → Int → Option ((List Int))) (week_101 : Int) (out_101 : List Int) (p_101 : Int) (l_101 : aH) : Option ((List Int)) :=
    again0 out_101 (w64 (p_101 + 1))

def oV (again0 : (List Int) → Int → Option ((List Int))) (week_102 : Int) (out_102 : List Int) (p_102 : Int) (atv_102 : Int) (l_102 : aH) : Option ((List Int)) :=
    (sub out_102 atv_102 (out_102.length : Int)).bind fun x6 =>
    (app 8 ([p_102]) x6).bind fun x7 =>
    (sub out_102 0 atv_102).bind fun x9 =>
    (app 8 ([] : List Int) x9).bind fun x10 =>
    (app 8 x10 x7).bind fun x12 =>
    kO again0 week_102 x12 p_102 l_102

def jB (again0 : (List Int) → Int → Option ((List Int))) (week_2 : Int) (out_2 : List Int) (p_2 : Int) (l_2 : aH) : Nat → Int → Option ((List Int))
  | 0, _ => none
  | k2 + 1, atv_2 =>
    (bif decide (atv_2 < (out_2.length : Int)) then ((idx out_2 atv_2).bind fun x3 =>
    (pW l_2 x3 p_2 week_2).bind fun r4 =>
    some r4) else (some false)).bind fun b5 =>
    bif b5 then ((jB again0 week_2 out_2 p_2 l_2 k2) (w64 (atv_2 + 1)))
    else (oV again0 week_2 out_2 p_2 atv_2 l_2)

def sS (out_100 : List Int) : Option ((List Int)) :=
    some out_100

def hG (week_0 : Int) (l_0 : aH) : Nat → (List Int) → Int → Option ((List Int))
  | 0, _, _ => none
  | k0 + 1, out_0, p_0 =>
    bif decide (p_0 < l_0.Players) then ((pT l_0 p_0 week_0).bind fun r2 =>
    bif !r2 then (kO (hG week_0 l_0 k0) week_0 out_0 p_0 l_0)
    else (jB (hG week_0 l_0 k0) week_0 out_0 p_0 l_0 BIG 0))
    else (sS out_0)

def oO (l_0 : aH) (week_1 : Int) : Option ((List Int)) :=
    hG week_1 l_0 BIG ([] : List Int) 0

def rX : Option Int :=
    some 0

def gK (player_0 : Int) (allv_0 : List Int) : Nat → Int → Option Int
  | 0, _ => none
  | k0 + 1, i_0 =>
    bif decide (i_0 < (allv_0.length : Int)) then ((idx allv_0 i_0).bind fun x3 =>
    bif decide (x3 = player_0) then (some (w64 (i_0 + 1)))
    else ((gK player_0 allv_0 k0) (w64 (i_0 + 1))))
    else (rX)

def uF (l_0 : aH) (player_1 : Int) (week_2 : Int) : Option Int :=
    (oO l_0 week_2).bind fun r2 =>
    gK player_1 r2 BIG 0

def jZ (l_0 : aH) (player_1 : Int) (week_2 : Int) : Option Bool :=
    (iD l_0).bind fun r2 =>
    (bif !r2 then ((kA l_0).bind fun r3 =>
    some (decide (r3 = 0))) else (some false)).bind fun b4 =>
    (bif b4 then (some (decide (0 ≤ player_1))) else (some false)).bind fun b5 =>
    (bif b5 then (some (decide (player_1 < l_0.Players))) else (some false)).bind fun b6 =>
    (bif b6 then (some (decide (0 ≤ week_2))) else (some false)).bind fun b7 =>
    (bif b7 then (some (decide (week_2 ≤ 250))) else (some false)).bind fun b8 =>
    some b8

def jE (l_0 : aH) (player_1 : Int) (week_2 : Int) : Option (Int × Int) :=
    (oX l_0 player_1 week_2).bind fun r2 =>
    vW r2.1 (bif !decide (r2.2 = 0) then (some (0, r2.2))
    else (none)) fun y3 =>
    bif !decide (r2.2 = 0) then (some (0, r2.2))
    else ((jA y3 player_1 week_2).bind fun r6 =>
    some (r6, 0))

def iW (n_1 : Int) : Option ((List aB)) :=
    bif decide (n_1 < 0) then (none)
    else (bif decide (0 < (w64 (n_1 - (w64 (0 - 0))))) then ((chk (decide (0 ≤ 0))).bind fun u2 =>
    (chk (decide (0 < (w64 (n_1 - (w64 (0 - 0))))) && decide ((w64 (n_1 - (w64 (0 - 0)))) * ((40 : Nat) : Int) ≤ 140737488355328))).bind fun u3 =>
    (chk (decide (0 ≤ 0))).bind fun u5 =>
    some ([] : List aB))
    else (some ([] : List aB)))

def nP (o24_102 : List aB) : Option ((List aB)) :=
    some o24_102

def dF (t25_2 : List (List aB)) (t26_2 : Int) : Nat → Int → (List aB) → Option ((List aB))
  | 0, _, _ => none
  | k2 + 1, t27_2, o24_2 =>
    bif decide (t27_2 < t26_2) then ((idx t25_2 t27_2).bind fun x4 =>
    (app 40 o24_2 x4).bind fun x5 =>
    (dF t25_2 t26_2 k2) (w64 (t27_2 + 1)) x5)
    else (nP o24_2)

def kU (slices_100 : List (List aB)) (size_100 : Int) : Option ((List aB)) :=
    (iW size_100).bind fun r2 =>
    dF slices_100 (slices_100.length : Int) BIG 0 r2

def dS (slices_0 : List (List aB)) (t9_0 : List (List aB)) (t10_0 : Int) : Nat → Int → Int → Option ((List aB))
  | 0, _, _ => none
  | k0 + 1, size_0, t11_0 =>
    bif decide (t11_0 < t10_0) then ((idx t9_0 t11_0).bind fun x1 =>
    bif decide ((w64 (size_0 + (x1.length : Int))) < 0) then (none)
    else ((dS slices_0 t9_0 t10_0 k0) (w64 (size_0 + (x1.length : Int))) (w64 (t11_0 + 1))))
    else (kU slices_0 size_0)

def fQ (slices_0 : List (List aB)) : Option ((List aB)) :=
    dS slices_0 slices_0 (slices_0.length : Int) BIG 0 0

def dR (s_0 : List aJ) : Option ((List aJ)) :=
    (app 24 ([] : List aJ) s_0).bind fun x5 =>
    some x5

def qL (more_100 : List aB) (l_100 : aH) (o4_100 : aH) (o29_100 : List (aB × Int)) : Option (aH × Int) :=
    bif decide (40 < (o29_100.length : Int)) then (some ((aH.mk 0 0 ([] : List aB) ([] : List aJ) ([] : List aJ)), 40))
    else ((fQ ([l_100.Reports, more_100])).bind fun r10 =>
    (lO r10).bind fun r11 =>
    bif !r11.2 then (some ((aH.mk 0 0 ([] : List aB) ([] : List aJ) ([] : List aJ)), 41))
    else ((dR l_100.Bans).bind fun r13 =>
    (dR l_100.Frozen).bind fun r15 =>
    some ((aH.mk l_100.Players l_100.Counts r11.1 r13 r15), 0)))

def lD (more_0 : List aB) (t34_0 : List aB) (t35_0 : Int) (l_0 : aH) (o4_0 : aH) : Nat → Int → (List (aB × Int)) → Option (aH × Int)
  | 0, _, _ => none
  | k0 + 1, t36_0, o29_0 =>
    bif decide (t36_0 < t35_0) then ((idx t34_0 t36_0).bind fun x8 =>
    (lD more_0 t34_0 t35_0 l_0 o4_0 k0) (w64 (t36_0 + 1)) (lX x8 (w64 ((lJ x8 0 o29_0) + 1)) o29_0))
    else (qL more_0 l_0 o4_0 o29_0)

def iG (l_0 : aH) (more_1 : List aB) : Option (aH × Int) :=
    (mO l_0).bind fun r3 =>
    bif !decide (r3 = 0) then (some ((aH.mk 0 0 ([] : List aB) ([] : List aJ) ([] : List aJ)), r3))
    else ((mO (aH.mk l_0.Players l_0.Counts more_1 l_0.Bans l_0.Frozen)).bind fun r5 =>
    bif !decide (r5 = 0) then (some ((aH.mk 0 0 ([] : List aB) ([] : List aJ) ([] : List aJ)), r5))
    else ((fQ ([l_0.Reports, more_1])).bind fun r7 =>
    lD more_1 r7 (r7.length : Int) l_0 (aH.mk 0 0 ([] : List aB) ([] : List aJ) ([] : List aJ)) BIG 0 ([] : List (aB × Int))))

def oT : Option Bool :=
    some true

def gZ (a_4 : aH) (b_4 : aH) : Nat → Int → Option Bool
  | 0, _ => none
  | k4 + 1, i_4 =>
    bif decide (i_4 < (a_4.Frozen.length : Int)) then ((idx a_4.Frozen i_4).bind fun x11 =>
    (idx b_4.Frozen i_4).bind fun x12 =>
    bif !decide (x11 = x12) then (some false)
    else ((gZ a_4 b_4 k4) (w64 (i_4 + 1))))
    else (oT)

def mM (a_102 : aH) (b_102 : aH) : Option Bool :=
    gZ a_102 b_102 BIG 0

def gY (a_2 : aH) (b_2 : aH) : Nat → Int → Option Bool
  | 0, _ => none
  | k2 + 1, i_2 =>
    bif decide (i_2 < (a_2.Bans.length : Int)) then ((idx a_2.Bans i_2).bind fun x9 =>
    (idx b_2.Bans i_2).bind fun x10 =>
    bif !decide (x9 = x10) then (some false)
    else ((gY a_2 b_2 k2) (w64 (i_2 + 1))))
    else (mM a_2 b_2)

def mL (a_100 : aH) (b_100 : aH) : Option Bool :=
    gY a_100 b_100 BIG 0

def gX (a_0 : aH) (b_0 : aH) : Nat → Int → Option Bool
  | 0, _ => none
  | k0 + 1, i_0 =>
    bif decide (i_0 < (a_0.Reports.length : Int)) then ((idx a_0.Reports i_0).bind fun x7 =>
    (idx b_0.Reports i_0).bind fun x8 =>
    bif !decide (x7 = x8) then (some false)
    else ((gX a_0 b_0 k0) (w64 (i_0 + 1))))
    else (mL a_0 b_0)

def jF (a_0 : aH) (b_1 : aH) : Option Bool :=
    (bif !decide (a_0.Players = b_1.Players) then (some true) else (some (!decide (a_0.Counts = b_1.Counts)))).bind fun b3 =>
    (bif b3 then (some true) else (some (!decide ((a_0.Reports.length : Int) = (b_1.Reports.length : Int))))).bind fun b4 =>
    (bif b4 then (some true) else (some (!decide ((a_0.Bans.length : Int) = (b_1.Bans.length : Int))))).bind fun b5 =>
    (bif b5 then (some true) else (some (!decide ((a_0.Frozen.length : Int) = (b_1.Frozen.length : Int))))).bind fun b6 =>
    bif b6 then (some false)
    else (gX a_0 b_1 BIG 0)

def iI (l_100 : aH) (x_100 : iC) (turn_100 : gD) (o_100 : List aB) (o_100_2 : Int) (o_100_3 : Int) (o_100_4 : List aJ) (o_100_5 : List aJ) : Option Bool :=
    bif decide (0 < (o_100.length : Int)) then ((idx o_100 0).bind fun x18 =>
    (idx o_100 (w64 ((o_100.length : Int).tdiv 2))).bind fun x19 =>
    (app 40 o_100 ([x18, x19])).bind fun x20 =>
    (kS l_100 x_100.Week).bind fun r22 =>
    (kS (aH.mk o_100_2 o_100_3 x20 o_100_4 o_100_5) x_100.Week).bind fun r23 =>
    (jE l_100 x_100.Player x_100.Week).bind fun r24 =>
    (jE (aH.mk o_100_2 o_100_3 x20 o_100_4 o_100_5) x_100.Player x_100.Week).bind fun r25 =>
    (bif !decide (r22.2 = 0) then (some true) else (some (!decide (r23.2 = 0)))).bind fun b26 =>
    (bif b26 then (some true) else (some (!decide (r24.2 = 0)))).bind fun b27 =>
    (bif b27 then (some true) else (some (!decide (r25.2 = 0)))).bind fun b28 =>
    (bif b28 then (some true) else ((fL r22.1 r23.1).bind fun r29 =>
    some (!r29))).bind fun b30 =>
    (bif b30 then (some true) else (some (!decide (r24.1 = r25.1)))).bind fun b31 =>
    bif b31 then (some false)
    else ((iG l_100 ([] : List aB)).bind fun r32 =>
    (iQ (aH.mk o_100_2 o_100_3 x20 o_100_4 o_100_5)).bind fun r34 =>
    (sub x20 0 turn_100.Cut).bind fun x36 =>
    (sub x20 turn_100.Cut (x20.length : Int)).bind fun x37 =>
    (iG (aH.mk r34.Players r34.Counts x36 r34.Bans r34.Frozen) x37).bind fun r38 =>
    (bif decide (r32.2 = 0) then (some (decide (r38.2 = 0))) else (some false)).bind fun b40 =>
    (bif b40 then ((jF r32.1 r38.1).bind fun r41 =>
    some r41) else (some false)).bind fun b42 =>
    (bif b42 then ((fX).bind fun r43 =>
    some r43) else (some false)).bind fun b44 =>
    some b44))
    else ((kS l_100 x_100.Week).bind fun r45 =>
    (kS (aH.mk o_100_2 o_100_3 o_100 o_100_4 o_100_5) x_100.Week).bind fun r46 =>
    (jE l_100 x_100.Player x_100.Week).bind fun r47 =>
    (jE (aH.mk o_100_2 o_100_3 o_100 o_100_4 o_100_5) x_100.Player x_100.Week).bind fun r48 =>
    (bif !decide (r45.2 = 0) then (some true) else (some (!decide (r46.2 = 0)))).bind fun b49 =>
    (bif b49 then (some true) else (some (!decide (r47.2 = 0)))).bind fun b50 =>
    (bif b50 then (some true) else (some (!decide (r48.2 = 0)))).bind fun b51 =>
    (bif b51 then (some true) else ((fL r45.1 r46.1).bind fun r52 =>
    some (!r52))).bind fun b53 =>
    (bif b53 then (some true) else (some (!decide (r47.1 = r48.1)))).bind fun b54 =>
    bif b54 then (some false)
    else ((iG l_100 ([] : List aB)).bind fun r55 =>
    (iQ (aH.mk o_100_2 o_100_3 o_100 o_100_4 o_100_5)).bind fun r57 =>
    (sub o_100 0 turn_100.Cut).bind fun x59 =>
    (sub o_100 turn_100.Cut (o_100.length : Int)).bind fun x60 =>
    (iG (aH.mk r57.Players r57.Counts x59 r57.Bans r57.Frozen) x60).bind fun r61 =>
    (bif decide (r55.2 = 0) then (some (decide (r61.2 = 0))) else (some false)).bind fun b63 =>
    (bif b63 then ((jF r55.1 r61.1).bind fun r64 =>
    some r64) else (some false)).bind fun b65 =>
    (bif b65 then ((fX).bind fun r66 =>
    some r66) else (some false)).bind fun b67 =>
    some b67))

def eW (l_0 : aH) (x_0 : iC) (turn_0 : gD) : Nat → Int → (List aB) → Int → Int → (List aJ) → (List aJ) → Option Bool
  | 0, _, _, _, _, _, _ => none
  | k0 + 1, i_0, o_0, o_0_2, o_0_3, o_0_4, o_0_5 =>
    bif decide (i_0 < (l_0.Reports.length : Int)) then ((chk (!decide ((l_0.Reports.length : Int) = 0))).bind fun u14 =>
    (idx l_0.Reports ((w64 (i_0 + turn_0.By)).tmod (l_0.Reports.length : Int))).bind fun x15 =>
    (app 40 o_0 ([x15])).bind fun x16 =>
    (eW l_0 x_0 turn_0 k0) (w64 (i_0 + 1)) x16 o_0_2 o_0_3 o_0_4 o_0_5)
    else (iI l_0 x_0 turn_0 o_0 o_0_2 o_0_3 o_0_4 o_0_5)

def lI (l_0 : aH) (x_1 : iC) (turn_2 : gD) : Option Bool :=
    (jZ l_0 x_1.Player x_1.Week).bind fun r4 =>
    (bif !r4 then (some true) else (some (decide (8 < (l_0.Reports.length : Int))))).bind fun b5 =>
    (bif b5 then (some true) else (some (decide (turn_2.By < 0)))).bind fun b6 =>
    (bif b6 then (some true) else (some (decide (100 < turn_2.By)))).bind fun b7 =>
    (bif b7 then (some true) else (some (decide (turn_2.Cut < 0)))).bind fun b8 =>
    (bif b8 then (some true) else (some (decide ((l_0.Reports.length : Int) < turn_2.Cut)))).bind fun b9 =>
    bif b9 then ((fX).bind fun r10 =>
    some r10)
    else ((iQ l_0).bind fun r11 =>
    eW l_0 x_1 turn_2 BIG 0 ([] : List aB) r11.Players r11.Counts r11.Bans r11.Frozen)

end Go.Am
