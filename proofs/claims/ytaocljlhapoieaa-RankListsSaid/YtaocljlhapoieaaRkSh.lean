/- Shallow functions, printed by program. -/
import Derived.Test.YtaocljlhapoieaaAmFull
import Derived.Test.YtaocljlhapoieaaAmPrim
import Derived.Test.YtaocljlhapoieaaAmSort
namespace Go.Am

structure aP where
  Player : Int
  From : Int
  To : Int
  deriving DecidableEq, Inhabited
def aI (x : aP) : List D := [.lit (.int .i64 x.Player), .lit (.int .i64 x.From), .lit (.int .i64 x.To)]

def aAj (x : List aP) : List D := [.sl 3 (x.map aI)]

structure aE where
  Id : Int
  Player : Int
  Week : Int
  Points : Int
  Must : Bool
  deriving DecidableEq, Inhabited
def aC (x : aE) : List D := [.lit (.int .i64 x.Id), .lit (.int .i64 x.Player), .lit (.int .i64 x.Week), .lit (.int .i64 x.Points), .lit (.bool x.Must)]

def aAx (x : List aE) : List D := [.sl 5 (x.map aC)]

structure aN where
  Players : Int
  Counts : Int
  Reports : List aE
  Bans : List aP
  Frozen : List aP
  deriving DecidableEq, Inhabited
def aT (x : aN) : List D := [.lit (.int .i64 x.Players), .lit (.int .i64 x.Counts), .sl 5 (x.Reports.map aC), .sl 3 (x.Bans.map aI), .sl 3 (x.Frozen.map aI)]

structure cE where
  Ledger : aN
  deriving DecidableEq, Inhabited
def cP (x : cE) : List D := [.lit (.int .i64 x.Ledger.Players), .lit (.int .i64 x.Ledger.Counts), .sl 5 (x.Ledger.Reports.map aC), .sl 3 (x.Ledger.Bans.map aI), .sl 3 (x.Ledger.Frozen.map aI)]

def sF (x : List Int) : List D := [.sl 1 (x.map cG)]

structure bE where
  player : Int
  points : Int
  musts : Int
  many : Int
  deriving DecidableEq, Inhabited
def bT (x : bE) : List D := [.lit (.int .i64 x.player), .lit (.int .i64 x.points), .lit (.int .i64 x.musts), .lit (.int .i64 x.many)]

structure pP where
  Player : Int
  Week : Int
  Id : Int
  deriving DecidableEq, Inhabited
def rW (x : pP) : List D := [.lit (.int .i64 x.Player), .lit (.int .i64 x.Week), .lit (.int .i64 x.Id)]

def wG (x : aE) : Prop := okI x.Id ∧ okI x.Player ∧ okI x.Week ∧ okI x.Points ∧ okB x.Must

def sK (x : aP) : Prop := okI x.Player ∧ okI x.From ∧ okI x.To

def zW (x : aN) : Prop := okI x.Players ∧ okI x.Counts ∧ (okL wG) x.Reports ∧ (okL sK) x.Bans ∧ (okL sK) x.Frozen

def vW (x : pP) : Prop := okI x.Player ∧ okI x.Week ∧ okI x.Id

def eH (n_0 : Int) (low_1 : Int) (high_2 : Int) : Option Bool :=
    (bif decide (low_1 ≤ n_0) then (some (decide (n_0 ≤ high_2))) else (some false)).bind fun b1 =>
    some b1

def nR (l_100 : List aP) : Option Bool :=
    some (decide ((l_100.length : Int) ≤ 8))

def gF (players_0 : Int) (l_0 : List aP) : Nat → Int → Option Bool
  | 0, _ => none
  | k0 + 1, i_0 =>
    bif decide (i_0 < (l_0.length : Int)) then ((idx l_0 i_0).bind fun x1 =>
    (eH x1.Player 0 (w64 (players_0 - 1))).bind fun r2 =>
    (bif !r2 then (some true) else ((idx l_0 i_0).bind fun x3 =>
    some (decide (x3.From < 0)))).bind fun b4 =>
    (bif b4 then (some true) else ((idx l_0 i_0).bind fun x5 =>
    (idx l_0 i_0).bind fun x6 =>
    some (decide (x6.To < x5.From)))).bind fun b7 =>
    (bif b7 then (some true) else ((idx l_0 i_0).bind fun x8 =>
    some (decide (400 < x8.To)))).bind fun b9 =>
    bif b9 then (some false)
    else ((gF players_0 l_0 k0) (w64 (i_0 + 1))))
    else (nR l_0)

def jM (players_0 : Int) (l_1 : List aP) : Option Bool :=
    gF players_0 l_1 BIG 0

def lQ (players_0 : Int) (r_1 : aE) : Option Bool :=
    (eH r_1.Id 0 99).bind fun r2 =>
    (bif r2 then ((eH r_1.Player 0 (w64 (players_0 - 1))).bind fun r3 =>
    some r3) else (some false)).bind fun b4 =>
    (bif b4 then ((eH r_1.Week 0 400).bind fun r5 =>
    some r5) else (some false)).bind fun b6 =>
    (bif b6 then ((eH r_1.Points 0 2000).bind fun r7 =>
    some r7) else (some false)).bind fun b8 =>
    some b8

def oM (again2 : Int → Option Bool) (i_103 : Int) (l_103 : aN) : Option Bool :=
    again2 (w64 (i_103 + 1))

def oN (again2 : Int → Option Bool) (i_104 : Int) (l_104 : aN) : Option Bool :=
    oM again2 i_104 l_104

def gN (again2 : Int → Option Bool) (i_4 : Int) (l_4 : aN) : Nat → Int → Option Bool
  | 0, _ => none
  | k4 + 1, k_4 =>
    bif decide (k_4 < i_4) then ((idx l_4.Frozen i_4).bind fun x12 =>
    (idx l_4.Frozen k_4).bind fun x13 =>
    (bif decide (x12.Player = x13.Player) then (some (decide (x12.From ≤ x13.To))) else (some false)).bind fun b16 =>
    (bif b16 then (some (decide (x13.From ≤ x12.To))) else (some false)).bind fun b17 =>
    bif b17 then (some false)
    else ((gN again2 i_4 l_4 k4) (w64 (k_4 + 1))))
    else (oN again2 i_4 l_4)

def oL : Option Bool :=
    some true

def eE (l_2 : aN) : Nat → Int → Option Bool
  | 0, _ => none
  | k2 + 1, i_2 =>
    bif decide (i_2 < (l_2.Frozen.length : Int)) then (gN (eE l_2 k2) i_2 l_2 BIG 0)
    else (oL)

def oK (l_100 : aN) : Option Bool :=
    eE l_100 BIG 0

def fU (l_0 : aN) : Nat → Int → Option Bool
  | 0, _ => none
  | k0 + 1, i_0 =>
    bif decide (i_0 < (l_0.Reports.length : Int)) then ((idx l_0.Reports i_0).bind fun x10 =>
    (lQ l_0.Players x10).bind fun r11 =>
    bif !r11 then (some false)
    else ((fU l_0 k0) (w64 (i_0 + 1))))
    else (oK l_0)

def lP (l_0 : aN) : Option Bool :=
    (eH l_0.Players 1 16).bind fun r2 =>
    (bif !r2 then (some true) else ((eH l_0.Counts 1 20).bind fun r3 =>
    some (!r3))).bind fun b4 =>
    (bif b4 then (some true) else (some (decide (40 < (l_0.Reports.length : Int))))).bind fun b5 =>
    (bif b5 then (some true) else ((jM l_0.Players l_0.Bans).bind fun r6 =>
    some (!r6))).bind fun b7 =>
    (bif b7 then (some true) else ((jM l_0.Players l_0.Frozen).bind fun r8 =>
    some (!r8))).bind fun b9 =>
    bif b9 then (some false)
    else (fU l_0 BIG 0)

def qB (again0 : Int → Option Bool) (l_101 : List aE) (i_101 : Int) : Option Bool :=
    again0 (w64 (i_101 + 1))

def qC (again0 : Int → Option Bool) (l_102 : List aE) (i_102 : Int) : Option Bool :=
    qB again0 l_102 i_102

def iL (again0 : Int → Option Bool) (l_2 : List aE) (i_2 : Int) : Nat → Int → Option Bool
  | 0, _ => none
  | k2 + 1, k_2 =>
    bif decide (k_2 < i_2) then ((idx l_2 i_2).bind fun x1 =>
    (idx l_2 k_2).bind fun x2 =>
    (bif decide (x1.Id = x2.Id) then ((idx l_2 i_2).bind fun x3 =>
    (idx l_2 k_2).bind fun x4 =>
    some (!decide (x3 = x4))) else (some false)).bind fun b5 =>
    bif b5 then (some true)
    else ((iL again0 l_2 i_2 k2) (w64 (k_2 + 1))))
    else (qC again0 l_2 i_2)

def qA : Option Bool :=
    some false

def fG (l_0 : List aE) : Nat → Int → Option Bool
  | 0, _ => none
  | k0 + 1, i_0 =>
    bif decide (i_0 < (l_0.length : Int)) then (iL (fG l_0 k0) l_0 i_0 BIG 0)
    else (qA)

def nE (l_0 : List aE) : Option Bool :=
    fG l_0 BIG 0

def lU (l_0 : aN) : Option Int :=
    (lP l_0).bind fun r2 =>
    bif !r2 then (some 40)
    else ((nE l_0.Reports).bind fun r3 =>
    bif r3 then (some 41)
    else (some 0))

def lG (l_100 : aN) : Option Bool :=
    (bif decide (5 < l_100.Players) then (some true) else (some (decide (10 < (l_100.Reports.length : Int))))).bind fun b6 =>
    some b6

def gD (l_0 : aN) : Nat → Int → Option Bool
  | 0, _ => none
  | k0 + 1, i_0 =>
    bif decide (i_0 < (l_0.Reports.length : Int)) then ((idx l_0.Reports i_0).bind fun x5 =>
    bif decide (150 < x5.Week) then (some true)
    else ((gD l_0 k0) (w64 (i_0 + 1))))
    else (lG l_0)

def gX (l_0 : aN) : Option Bool :=
    (bif decide (60 < (l_0.Reports.length : Int)) then (some true) else (some (decide (20 < (l_0.Bans.length : Int))))).bind fun b2 =>
    (bif b2 then (some true) else (some (decide (20 < (l_0.Frozen.length : Int))))).bind fun b3 =>
    bif b3 then (some true)
    else ((lU l_0).bind fun r4 =>
    bif !decide (r4 = 0) then (some false)
    else (gD l_0 BIG 0))

def nV (week_0 : Int) : Option Bool :=
    (bif decide (250 < week_0) then (some (decide (week_0 ≤ 400))) else (some false)).bind fun b1 =>
    some b1

def qM : Option aN :=
    some (aN.mk 3 2 ([(aE.mk 1 0 10 500 false), (aE.mk 2 0 20 300 false), (aE.mk 3 0 30 100 true), (aE.mk 4 1 12 400 false), (aE.mk 5 1 40 200 false), (aE.mk 6 2 15 600 false)]) ([(aP.mk 1 50 55)]) ([(aP.mk 2 20 29)]))

def fB (n_0 : Int) (low_1 : Int) (high_2 : Int) : Option Bool :=
    (bif decide (low_1 ≤ n_0) then (some (decide (n_0 ≤ high_2))) else (some false)).bind fun b1 =>
    some b1

def kV : Option Int :=
    some (-1)

def eM (s_0 : List aP) (f_0 : aP → Option Bool) (t7_0 : Int) : Nat → Int → Option Int
  | 0, _ => none
  | k0 + 1, t8_0 =>
    bif decide (t8_0 < t7_0) then ((idx s_0 t8_0).bind fun x1 =>
    (f_0 x1).bind fun r2 =>
    bif r2 then (some t8_0)
    else ((eM s_0 f_0 t7_0 k0) (w64 (t8_0 + 1))))
    else (kV)

def fW (s_0 : List aP) (f_1 : aP → Option Bool) : Option Int :=
    eM s_0 f_1 (s_0.length : Int) BIG 0

def eL (s_0 : List aP) (f_1 : aP → Option Bool) : Option Bool :=
    (fW s_0 f_1).bind fun r1 =>
    some (decide (0 ≤ r1))

def nI (a_0 : aP) (c_1 : aN) : Option Bool :=
    (fB a_0.Player 0 (w64 (c_1.Players - 1))).bind fun r2 =>
    (bif !r2 then (some true) else (some (decide (a_0.To < a_0.From)))).bind fun b3 =>
    (bif b3 then (some true) else ((fB a_0.From 0 400).bind fun r4 =>
    some (!r4))).bind fun b5 =>
    (bif b5 then (some true) else ((fB a_0.To 0 400).bind fun r6 =>
    some (!r6))).bind fun b7 =>
    some b7

def nB (l_0 : aN) (all_1 : List aP) : Option Bool :=
    (bif decide ((all_1.length : Int) ≤ 8) then ((eL all_1 (fun y2 => nI y2 l_0)).bind fun r3 =>
    some (!r3)) else (some false)).bind fun b4 =>
    some b4

def oC (b_0 : aP) (c_1 : aP) : Option Bool :=
    (bif decide (c_1.Player = b_0.Player) then (some (decide (c_1.From ≤ b_0.To))) else (some false)).bind fun b2 =>
    (bif b2 then (some (decide (b_0.From ≤ c_1.To))) else (some false)).bind fun b3 =>
    some b3

def sC : Option Bool :=
    some true

def jG (t69_2 : List aP) (t70_2 : Int) (l_2 : aN) : Nat → Int → Option Bool
  | 0, _ => none
  | k2 + 1, t71_2 =>
    bif decide (t71_2 < t70_2) then ((idx t69_2 t71_2).bind fun x18 =>
    (sub l_2.Frozen 0 t71_2).bind fun x20 =>
    (eL x20 (fun y21 => oC y21 x18)).bind fun r22 =>
    bif r22 then (some false)
    else ((jG t69_2 t70_2 l_2 k2) (w64 (t71_2 + 1))))
    else (sC)

def sB (l_100 : aN) : Option Bool :=
    (nB l_100 l_100.Bans).bind fun r15 =>
    (bif !r15 then (some true) else ((nB l_100 l_100.Frozen).bind fun r16 =>
    some (!r16))).bind fun b17 =>
    bif b17 then (some false)
    else (jG l_100.Frozen (l_100.Frozen.length : Int) l_100 BIG 0)

def jF (t24_0 : List aE) (t25_0 : Int) (l_0 : aN) : Nat → Int → Option Bool
  | 0, _ => none
  | k0 + 1, t26_0 =>
    bif decide (t26_0 < t25_0) then ((idx t24_0 t26_0).bind fun x6 =>
    (fB x6.Id 0 99).bind fun r8 =>
    (bif !r8 then (some true) else ((fB x6.Player 0 (w64 (l_0.Players - 1))).bind fun r9 =>
    some (!r9))).bind fun b10 =>
    (bif b10 then (some true) else ((fB x6.Week 0 400).bind fun r11 =>
    some (!r11))).bind fun b12 =>
    (bif b12 then (some true) else ((fB x6.Points 0 2000).bind fun r13 =>
    some (!r13))).bind fun b14 =>
    bif b14 then (some false)
    else ((jF t24_0 t25_0 l_0 k0) (w64 (t26_0 + 1))))
    else (sB l_0)

def pR (l_0 : aN) : Option Bool :=
    (fB l_0.Players 1 16).bind fun r2 =>
    (bif !r2 then (some true) else ((fB l_0.Counts 1 20).bind fun r3 =>
    some (!r3))).bind fun b4 =>
    (bif b4 then (some true) else (some (decide (40 < (l_0.Reports.length : Int))))).bind fun b5 =>
    bif b5 then (some false)
    else (jF l_0.Reports (l_0.Reports.length : Int) l_0 BIG 0)

def fL (s_0 : List aE) : Option ((List aE)) :=
    (app 40 ([] : List aE) s_0).bind fun x5 =>
    some x5

def fN (again0 : Int → (List aE) → Option ((List aE))) (a_101 : Int) (b_101 : Int) (cmp_101 : aE → aE → Option Int) (i_101 : Int) (data_101 : List aE) : Option ((List aE)) :=
    again0 (w64 (i_101 + 1)) data_101

def fO (again0 : Int → (List aE) → Option ((List aE))) (a_102 : Int) (b_102 : Int) (cmp_102 : aE → aE → Option Int) (i_102 : Int) (data_102 : List aE) : Option ((List aE)) :=
    fN again0 a_102 b_102 cmp_102 i_102 data_102

def cX (again0 : Int → (List aE) → Option ((List aE))) (a_2 : Int) (b_2 : Int) (cmp_2 : aE → aE → Option Int) (i_2 : Int) : Nat → Int → (List aE) → Option ((List aE))
  | 0, _, _ => none
  | k2 + 1, j_2, data_2 =>
    (bif decide (a_2 < j_2) then ((idx data_2 j_2).bind fun x1 =>
    (idx data_2 (w64 (j_2 - 1))).bind fun x2 =>
    (cmp_2 x1 x2).bind fun r3 =>
    some (decide (r3 < 0))) else (some false)).bind fun b4 =>
    bif b4 then ((idx data_2 (w64 (j_2 - 1))).bind fun x5 =>
    (idx data_2 j_2).bind fun x6 =>
    (idx data_2 j_2).bind fun x7 =>
    (idx (data_2.set j_2.toNat x5) (w64 (j_2 - 1))).bind fun x8 =>
    (cX again0 a_2 b_2 cmp_2 i_2 k2) (w64 (j_2 - 1)) ((data_2.set j_2.toNat x5).set (w64 (j_2 - 1)).toNat x6))
    else (fO again0 a_2 b_2 cmp_2 i_2 data_2)

def fM (data_100 : List aE) : Option ((List aE)) :=
    some data_100

def cR (a_0 : Int) (b_0 : Int) (cmp_0 : aE → aE → Option Int) : Nat → Int → (List aE) → Option ((List aE))
  | 0, _, _ => none
  | k0 + 1, i_0, data_0 =>
    bif decide (i_0 < b_0) then (cX (cR a_0 b_0 cmp_0 k0) a_0 b_0 cmp_0 i_0 BIG i_0 data_0)
    else (fM data_0)

def dM (data_0 : List aE) (a_1 : Int) (b_2 : Int) (cmp_3 : aE → aE → Option Int) : Option ((List aE)) :=
    cR a_1 b_2 cmp_3 BIG (w64 (a_1 + 1)) data_0

def iU (data_100 : List aE) : Option ((List aE)) :=
    some data_100

def dP (a_0 : Int) (b_0 : Int) (n_0 : Int) : Nat → Int → (List aE) → Option ((List aE))
  | 0, _, _ => none
  | k0 + 1, i_0, data_0 =>
    bif decide (i_0 < n_0) then ((idx data_0 (w64 (b_0 + i_0))).bind fun x1 =>
    (idx data_0 (w64 (a_0 + i_0))).bind fun x2 =>
    (idx data_0 (w64 (a_0 + i_0))).bind fun x3 =>
    (idx (data_0.set (w64 (a_0 + i_0)).toNat x1) (w64 (b_0 + i_0))).bind fun x4 =>
    (dP a_0 b_0 n_0 k0) (w64 (i_0 + 1)) ((data_0.set (w64 (a_0 + i_0)).toNat x1).set (w64 (b_0 + i_0)).toNat x2))
    else (iU data_0)

def eB (data_0 : List aE) (a_1 : Int) (b_2 : Int) (n_3 : Int) (cmp_4 : aE → aE → Option Int) : Option ((List aE)) :=
    dP a_1 b_2 n_3 BIG 0 data_0

def jU (m_100 : Int) (cmp_100 : aE → aE → Option Int) (i_100 : Int) (data_100 : List aE) : Option ((List aE)) :=
    (eB data_100 (w64 (m_100 - i_100)) m_100 i_100 cmp_100).bind fun r3 =>
    some r3

def dD (m_0 : Int) (cmp_0 : aE → aE → Option Int) : Nat → Int → Int → (List aE) → Option ((List aE))
  | 0, _, _, _ => none
  | k0 + 1, i_0, j_0, data_0 =>
    bif !decide (i_0 = j_0) then (bif decide (j_0 < i_0) then ((eB data_0 (w64 (m_0 - i_0)) m_0 j_0 cmp_0).bind fun r1 =>
    (dD m_0 cmp_0 k0) (w64 (i_0 - j_0)) j_0 r1)
    else ((eB data_0 (w64 (m_0 - i_0)) (w64 ((w64 (m_0 + j_0)) - i_0)) i_0 cmp_0).bind fun r2 =>
    (dD m_0 cmp_0 k0) i_0 (w64 (j_0 - i_0)) r2))
    else (jU m_0 cmp_0 i_0 data_0)

def fC (data_0 : List aE) (a_1 : Int) (m_2 : Int) (b_3 : Int) (cmp_4 : aE → aE → Option Int) : Option ((List aE)) :=
    dD m_2 cmp_4 BIG (w64 (m_2 - a_1)) (w64 (b_3 - m_2)) data_0

def jI (againR : (List aE) → Int → Int → Int → Option ((List aE))) (data_102 : List aE) : Option ((List aE)) :=
    some data_102

def dS (againR : (List aE) → Int → Int → Int → Option ((List aE))) (i_2 : Int) : Nat → Int → (List aE) → Option ((List aE))
  | 0, _, _ => none
  | k2 + 1, k_2, data_2 =>
    bif decide (k_2 < (w64 (i_2 - 1))) then ((idx data_2 (w64 (k_2 + 1))).bind fun x4 =>
    (idx data_2 k_2).bind fun x5 =>
    (idx data_2 k_2).bind fun x6 =>
    (idx (data_2.set k_2.toNat x4) (w64 (k_2 + 1))).bind fun x7 =>
    (dS againR i_2 k2) (w64 (k_2 + 1)) ((data_2.set k_2.toNat x4).set (w64 (k_2 + 1)).toNat x5))
    else (jI againR data_2)

def gK (againR : (List aE) → Int → Int → Int → Option ((List aE))) (a_100 : Int) (i_100 : Int) (data_100 : List aE) : Option ((List aE)) :=
    dS againR i_100 BIG a_100 data_100

def cU (againR : (List aE) → Int → Int → Int → Option ((List aE))) (a_0 : Int) (cmp_0 : aE → aE → Option Int) (data_0 : List aE) : Nat → Int → Int → Option ((List aE))
  | 0, _, _ => none
  | k0 + 1, i_0, j_0 =>
    bif decide (i_0 < j_0) then ((idx data_0 (w64 ((IntKind.u64.wrap (w64 (i_0 + j_0))).fdiv (2 ^ (min (1 : Int).toNat 64))))).bind fun x1 =>
    (idx data_0 a_0).bind fun x2 =>
    (cmp_0 x1 x2).bind fun r3 =>
    bif decide (r3 < 0) then ((cU againR a_0 cmp_0 data_0 k0) (w64 ((w64 ((IntKind.u64.wrap (w64 (i_0 + j_0))).fdiv (2 ^ (min (1 : Int).toNat 64)))) + 1)) j_0)
    else ((cU againR a_0 cmp_0 data_0 k0) i_0 (w64 ((IntKind.u64.wrap (w64 (i_0 + j_0))).fdiv (2 ^ (min (1 : Int).toNat 64))))))
    else (gK againR a_0 i_0 data_0)

def jJ (againR : (List aE) → Int → Int → Int → Option ((List aE))) (data_106 : List aE) : Option ((List aE)) :=
    some data_106

def dT (againR : (List aE) → Int → Int → Int → Option ((List aE))) (i_6 : Int) : Nat → Int → (List aE) → Option ((List aE))
  | 0, _, _ => none
  | k6 + 1, k_6, data_6 =>
    bif decide (i_6 < k_6) then ((idx data_6 (w64 (k_6 - 1))).bind fun x11 =>
    (idx data_6 k_6).bind fun x12 =>
    (idx data_6 k_6).bind fun x13 =>
    (idx (data_6.set k_6.toNat x11) (w64 (k_6 - 1))).bind fun x14 =>
    (dT againR i_6 k6) (w64 (k_6 - 1)) ((data_6.set k_6.toNat x11).set (w64 (k_6 - 1)).toNat x12))
    else (jJ againR data_6)

def gL (againR : (List aE) → Int → Int → Int → Option ((List aE))) (m_104 : Int) (i_104 : Int) (data_104 : List aE) : Option ((List aE)) :=
    dT againR i_104 BIG m_104 data_104

def cV (againR : (List aE) → Int → Int → Int → Option ((List aE))) (m_4 : Int) (cmp_4 : aE → aE → Option Int) (data_4 : List aE) : Nat → Int → Int → Option ((List aE))
  | 0, _, _ => none
  | k4 + 1, i_4, j_4 =>
    bif decide (i_4 < j_4) then ((idx data_4 m_4).bind fun x8 =>
    (idx data_4 (w64 ((IntKind.u64.wrap (w64 (i_4 + j_4))).fdiv (2 ^ (min (1 : Int).toNat 64))))).bind fun x9 =>
    (cmp_4 x8 x9).bind fun r10 =>
    bif !(decide (r10 < 0)) then ((cV againR m_4 cmp_4 data_4 k4) (w64 ((w64 ((IntKind.u64.wrap (w64 (i_4 + j_4))).fdiv (2 ^ (min (1 : Int).toNat 64)))) + 1)) j_4)
    else ((cV againR m_4 cmp_4 data_4 k4) i_4 (w64 ((IntKind.u64.wrap (w64 (i_4 + j_4))).fdiv (2 ^ (min (1 : Int).toNat 64))))))
    else (gL againR m_4 i_4 data_4)

def dF (againR : (List aE) → Int → Int → Int → Option ((List aE))) (a_108 : Int) (m_108 : Int) (b_108 : Int) (cmp_108 : aE → aE → Option Int) (mid_108 : Int) (n_108 : Int) (start_108 : Int) (data_108 : List aE) : Option ((List aE)) :=
    (bif decide (start_108 < m_108) then (some (decide (m_108 < (w64 (n_108 - start_108))))) else (some false)).bind fun b18 =>
    bif b18 then ((fC data_108 start_108 m_108 (w64 (n_108 - start_108)) cmp_108).bind fun r19 =>
    (bif decide (a_108 < start_108) then (some (decide (start_108 < mid_108))) else (some false)).bind fun b20 =>
    bif b20 then ((againR r19 a_108 start_108 mid_108).bind fun r21 =>
    (bif decide (mid_108 < (w64 (n_108 - start_108))) then (some (decide ((w64 (n_108 - start_108)) < b_108))) else (some false)).bind fun b22 =>
    bif b22 then ((againR r21 mid_108 (w64 (n_108 - start_108)) b_108).bind fun r23 =>
    some r23)
    else (some r21))
    else ((bif decide (mid_108 < (w64 (n_108 - start_108))) then (some (decide ((w64 (n_108 - start_108)) < b_108))) else (some false)).bind fun b24 =>
    bif b24 then ((againR r19 mid_108 (w64 (n_108 - start_108)) b_108).bind fun r25 =>
    some r25)
    else (some r19)))
    else ((bif decide (a_108 < start_108) then (some (decide (start_108 < mid_108))) else (some false)).bind fun b26 =>
    bif b26 then ((againR data_108 a_108 start_108 mid_108).bind fun r27 =>
    (bif decide (mid_108 < (w64 (n_108 - start_108))) then (some (decide ((w64 (n_108 - start_108)) < b_108))) else (some false)).bind fun b28 =>
    bif b28 then ((againR r27 mid_108 (w64 (n_108 - start_108)) b_108).bind fun r29 =>
    some r29)
    else (some r27))
    else ((bif decide (mid_108 < (w64 (n_108 - start_108))) then (some (decide ((w64 (n_108 - start_108)) < b_108))) else (some false)).bind fun b30 =>
    bif b30 then ((againR data_108 mid_108 (w64 (n_108 - start_108)) b_108).bind fun r31 =>
    some r31)
    else (some data_108)))

def cL (againR : (List aE) → Int → Int → Int → Option ((List aE))) (a_8 : Int) (m_8 : Int) (b_8 : Int) (cmp_8 : aE → aE → Option Int) (mid_8 : Int) (n_8 : Int) (p_8 : Int) (data_8 : List aE) : Nat → Int → Int → Option ((List aE))
  | 0, _, _ => none
  | k8 + 1, start_8, r_8 =>
    bif decide (start_8 < r_8) then ((idx data_8 (w64 (p_8 - (w64 ((IntKind.u64.wrap (w64 (start_8 + r_8))).fdiv (2 ^ (min (1 : Int).toNat 64))))))).bind fun x15 =>
    (idx data_8 (w64 ((IntKind.u64.wrap (w64 (start_8 + r_8))).fdiv (2 ^ (min (1 : Int).toNat 64))))).bind fun x16 =>
    (cmp_8 x15 x16).bind fun r17 =>
    bif !(decide (r17 < 0)) then ((cL againR a_8 m_8 b_8 cmp_8 mid_8 n_8 p_8 data_8 k8) (w64 ((w64 ((IntKind.u64.wrap (w64 (start_8 + r_8))).fdiv (2 ^ (min (1 : Int).toNat 64)))) + 1)) r_8)
    else ((cL againR a_8 m_8 b_8 cmp_8 mid_8 n_8 p_8 data_8 k8) start_8 (w64 ((IntKind.u64.wrap (w64 (start_8 + r_8))).fdiv (2 ^ (min (1 : Int).toNat 64))))))
    else (dF againR a_8 m_8 b_8 cmp_8 mid_8 n_8 start_8 data_8)

def bL (cmp_4 : aE → aE → Option Int) : Nat → (List aE) → Int → Int → Int → Option ((List aE))
  | 0, _, _, _, _ => none
  | kr + 1, data_0, a_1, m_2, b_3 =>
    bif decide ((w64 (m_2 - a_1)) = 1) then (cU (bL cmp_4 kr) a_1 cmp_4 data_0 BIG m_2 b_3)
    else (bif decide ((w64 (b_3 - m_2)) = 1) then (cV (bL cmp_4 kr) m_2 cmp_4 data_0 BIG a_1 m_2)
    else (bif decide ((w64 ((IntKind.u64.wrap (w64 (a_1 + b_3))).fdiv (2 ^ (min (1 : Int).toNat 64)))) < m_2) then (cL (bL cmp_4 kr) a_1 m_2 b_3 cmp_4 (w64 ((IntKind.u64.wrap (w64 (a_1 + b_3))).fdiv (2 ^ (min (1 : Int).toNat 64)))) (w64 ((w64 ((IntKind.u64.wrap (w64 (a_1 + b_3))).fdiv (2 ^ (min (1 : Int).toNat 64)))) + m_2)) (w64 ((w64 ((w64 ((IntKind.u64.wrap (w64 (a_1 + b_3))).fdiv (2 ^ (min (1 : Int).toNat 64)))) + m_2)) - 1)) data_0 BIG (w64 ((w64 ((w64 ((IntKind.u64.wrap (w64 (a_1 + b_3))).fdiv (2 ^ (min (1 : Int).toNat 64)))) + m_2)) - b_3)) (w64 ((IntKind.u64.wrap (w64 (a_1 + b_3))).fdiv (2 ^ (min (1 : Int).toNat 64)))))
    else (cL (bL cmp_4 kr) a_1 m_2 b_3 cmp_4 (w64 ((IntKind.u64.wrap (w64 (a_1 + b_3))).fdiv (2 ^ (min (1 : Int).toNat 64)))) (w64 ((w64 ((IntKind.u64.wrap (w64 (a_1 + b_3))).fdiv (2 ^ (min (1 : Int).toNat 64)))) + m_2)) (w64 ((w64 ((w64 ((IntKind.u64.wrap (w64 (a_1 + b_3))).fdiv (2 ^ (min (1 : Int).toNat 64)))) + m_2)) - 1)) data_0 BIG a_1 m_2)))

def hJ (data_0 : List aE) (a_1 : Int) (m_2 : Int) (b_3 : Int) (cmp_4 : aE → aE → Option Int) : Option ((List aE)) := bL cmp_4 BIG data_0 a_1 m_2 b_3

def fQ (again2 : Int → (List aE) → Option ((List aE))) (n_103 : Int) (cmp_103 : aE → aE → Option Int) (blockSize_103 : Int) (data_103 : List aE) : Option ((List aE)) :=
    again2 blockSize_103 data_103

def jX (again2 : Int → (List aE) → Option ((List aE))) (n_104 : Int) (cmp_104 : aE → aE → Option Int) (blockSize_104 : Int) (a_104 : Int) (data_104 : List aE) : Option ((List aE)) :=
    bif decide ((w64 (a_104 + blockSize_104)) < n_104) then ((hJ data_104 a_104 (w64 (a_104 + blockSize_104)) n_104 cmp_104).bind fun r4 =>
    fQ again2 n_104 cmp_104 (w64 (blockSize_104 * 2)) r4)
    else (fQ again2 n_104 cmp_104 (w64 (blockSize_104 * 2)) data_104)

def eA (again2 : Int → (List aE) → Option ((List aE))) (n_4 : Int) (cmp_4 : aE → aE → Option Int) (blockSize_4 : Int) : Nat → Int → Int → (List aE) → Option ((List aE))
  | 0, _, _, _ => none
  | k4 + 1, a_4, b_4, data_4 =>
    bif decide (b_4 ≤ n_4) then ((hJ data_4 a_4 (w64 (a_4 + blockSize_4)) b_4 cmp_4).bind fun r3 =>
    (eA again2 n_4 cmp_4 blockSize_4 k4) b_4 (w64 (b_4 + (w64 (2 * blockSize_4)))) r3)
    else (jX again2 n_4 cmp_4 blockSize_4 a_4 data_4)

def jW (data_102 : List aE) : Option ((List aE)) :=
    some data_102

def dE (n_2 : Int) (cmp_2 : aE → aE → Option Int) : Nat → Int → (List aE) → Option ((List aE))
  | 0, _, _ => none
  | k2 + 1, blockSize_2, data_2 =>
    bif decide (blockSize_2 < n_2) then (eA (dE n_2 cmp_2 k2) n_2 cmp_2 blockSize_2 BIG 0 (w64 (2 * blockSize_2)) data_2)
    else (jW data_2)

def jV (n_100 : Int) (cmp_100 : aE → aE → Option Int) (blockSize_100 : Int) (a_100 : Int) (data_100 : List aE) : Option ((List aE)) :=
    (dM data_100 a_100 n_100 cmp_100).bind fun r2 =>
    dE n_100 cmp_100 BIG blockSize_100 r2

def dZ (n_0 : Int) (cmp_0 : aE → aE → Option Int) (blockSize_0 : Int) : Nat → Int → Int → (List aE) → Option ((List aE))
  | 0, _, _, _ => none
  | k0 + 1, a_0, b_0, data_0 =>
    bif decide (b_0 ≤ n_0) then ((dM data_0 a_0 b_0 cmp_0).bind fun r1 =>
    (dZ n_0 cmp_0 blockSize_0 k0) b_0 (w64 (b_0 + blockSize_0)) r1)
    else (jV n_0 cmp_0 blockSize_0 a_0 data_0)

def iF (data_0 : List aE) (n_1 : Int) (cmp_2 : aE → aE → Option Int) : Option ((List aE)) :=
    dZ n_1 cmp_2 20 BIG 0 20 data_0

def eW (x_0 : List aE) (cmp_1 : aE → aE → Option Int) : Option ((List aE)) :=
    (iF x_0 (x_0.length : Int) cmp_1).bind fun r1 =>
    some r1

def pZ (a_0 : aE) (b_1 : aE) : Option Int :=
    some (w64 (a_0.Id - b_1.Id))

def lY (again0 : Int → (List aE) → Option ((List aE))) (k_102 : Int) (s_102 : List aE) : Option ((List aE)) :=
    (chk (decide (0 ≤ k_102) && decide (k_102 ≤ (s_102.length : Int)))).bind fun u9 =>
    (chk (decide (k_102.toNat ≤ s_102.length))).bind fun u10 =>
    (chk (decide (0 ≤ k_102))).bind fun u11 =>
    some (s_102.take k_102.toNat)

def eJ (again0 : Int → (List aE) → Option ((List aE))) (s2_2 : Int) : Nat → Int → Int → (List aE) → Option ((List aE))
  | 0, _, _, _ => none
  | k2 + 1, k_2, k2_2, s_2 =>
    bif decide (k2_2 < ((s_2.drop s2_2.toNat).length : Int)) then ((idx (s_2.drop s2_2.toNat) k2_2).bind fun x5 =>
    (idx (s_2.drop s2_2.toNat) (w64 (k2_2 - 1))).bind fun x6 =>
    bif !decide (x5 = x6) then ((idx (s_2.drop s2_2.toNat) k2_2).bind fun x7 =>
    (idx s_2 k_2).bind fun x8 =>
    (eJ again0 s2_2 k2) (w64 (k_2 + 1)) (w64 (k2_2 + 1)) (s_2.set k_2.toNat x7))
    else ((eJ again0 s2_2 k2) k_2 (w64 (k2_2 + 1)) s_2))
    else (lY again0 k_2 s_2)

def lX (again0 : Int → (List aE) → Option ((List aE))) (k_101 : Int) (s_101 : List aE) : Option ((List aE)) :=
    again0 (w64 (k_101 + 1)) s_101

def lW (s_100 : List aE) : Option ((List aE)) :=
    some s_100

def dL : Nat → Int → (List aE) → Option ((List aE))
  | 0, _, _ => none
  | k0 + 1, k_0, s_0 =>
    bif decide (k_0 < (s_0.length : Int)) then ((idx s_0 k_0).bind fun x2 =>
    (idx s_0 (w64 (k_0 - 1))).bind fun x3 =>
    bif decide (x2 = x3) then ((chk (decide (0 ≤ k_0) && decide (k_0 ≤ (s_0.length : Int)))).bind fun u4 =>
    eJ (dL k0) k_0 BIG k_0 1 s_0)
    else (lX (dL k0) k_0 s_0))
    else (lW s_0)

def iR (s_0 : List aE) : Option ((List aE)) :=
    bif decide ((s_0.length : Int) < 2) then (some s_0)
    else (dL BIG 1 s_0)

def vL (o7_100 : List aE) : Option ((List aE) × Bool) :=
    some (o7_100, true)

def iC (o7_0 : List aE) : Nat → Int → Option ((List aE) × Bool)
  | 0, _ => none
  | k0 + 1, i_0 =>
    bif decide (i_0 < (o7_0.length : Int)) then ((idx o7_0 i_0).bind fun x9 =>
    (idx o7_0 (w64 (i_0 - 1))).bind fun x10 =>
    bif decide (x9.Id = x10.Id) then (some (([] : List aE), false))
    else ((iC o7_0 k0) (w64 (i_0 + 1))))
    else (vL o7_0)

def oD (all_0 : List aE) : Option ((List aE) × Bool) :=
    (fL all_0).bind fun r2 =>
    (eW r2 (fun y4 y5 => pZ y4 y5)).bind fun r6 =>
    (iR r6).bind fun r7 =>
    iC r7 BIG 1

def sO (l_0 : aN) : Option Int :=
    (pR l_0).bind fun r2 =>
    bif !r2 then (some 40)
    else ((oD l_0.Reports).bind fun r3 =>
    bif !r3.2 then (some 41)
    else (some 0))

def qS (l_0 : aN) : Option ((Option cE) × Int) :=
    (sO l_0).bind fun r2 =>
    bif !decide (r2 = 0) then (some (none, r2))
    else ((oD l_0.Reports).bind fun r3 =>
    some (some (cE.mk (aN.mk l_0.Players l_0.Counts r3.1 l_0.Bans l_0.Frozen)), 0))

def nJ (l_0 : aN) (player_1 : Int) (week_2 : Int) : Option ((Option cE) × Int) :=
    (qS l_0).bind fun r2 =>
    pI r2.1 (bif !decide (r2.2 = 0) then (some (none, r2.2))
    else ((fB player_1 0 (w64 (l_0.Players - 1))).bind fun r6 =>
    (bif !r6 then (some true) else ((fB week_2 0 400).bind fun r7 =>
    some (!r7))).bind fun b8 =>
    bif b8 then (some (none, 1))
    else (some (none, 0)))) fun y3 =>
    bif !decide (r2.2 = 0) then (some (none, r2.2))
    else ((fB player_1 0 (w64 (l_0.Players - 1))).bind fun r9 =>
    (bif !r9 then (some true) else ((fB week_2 0 400).bind fun r10 =>
    some (!r10))).bind fun b11 =>
    bif b11 then (some (none, 1))
    else (some (some y3, 0)))

def sA (n_100 : Int) : Option Int :=
    some n_100

def jD (week_0 : Int) (t18_0 : List aP) (t19_0 : Int) (r_0 : aE) : Nat → Int → Int → Option Int
  | 0, _, _ => none
  | k0 + 1, n_0, t20_0 =>
    bif decide (t20_0 < t19_0) then ((idx t18_0 t20_0).bind fun x2 =>
    bif decide (x2.Player = r_0.Player) then ((jD week_0 t18_0 t19_0 r_0 k0) (w64 (n_0 - (max 0 (w64 ((w64 ((min x2.To week_0) - (max x2.From (w64 (r_0.Week + 1))))) + 1))))) (w64 (t20_0 + 1)))
    else ((jD week_0 t18_0 t19_0 r_0 k0) n_0 (w64 (t20_0 + 1))))
    else (sA n_0)

def nS (b_0 : cE) (r_1 : aE) (week_2 : Int) : Option Int :=
    jD week_2 b_0.Ledger.Frozen (b_0.Ledger.Frozen.length : Int) r_1 BIG (w64 (week_2 - r_1.Week)) 0

def rN (a_0 : aP) (c_1 : Int) (c_2 : Int) : Option Bool :=
    (bif decide (a_0.Player = c_1) then ((fB c_2 a_0.From a_0.To).bind fun r2 =>
    some r2) else (some false)).bind fun b3 =>
    some b3

def oB (all_0 : List aP) (player_1 : Int) (week_2 : Int) : Option Bool :=
    (eL all_0 (fun y3 => rN y3 player_1 week_2)).bind fun r4 =>
    some r4

def qR (out_100 : List aE) : Option ((List aE)) :=
    some out_100

def hY (b_0 : cE) (player_0 : Int) (week_0 : Int) (t14_0 : List aE) (t15_0 : Int) : Nat → Int → (List aE) → Option ((List aE))
  | 0, _, _ => none
  | k0 + 1, t16_0, out_0 =>
    bif decide (t16_0 < t15_0) then ((idx t14_0 t16_0).bind fun x2 =>
    (bif decide (x2.Player = player_0) then (some (decide (x2.Week ≤ week_0))) else (some false)).bind fun b4 =>
    (bif b4 then ((nS b_0 x2 week_0).bind fun r5 =>
    some (decide (r5 < 52))) else (some false)).bind fun b6 =>
    (bif b6 then ((oB b_0.Ledger.Bans player_0 x2.Week).bind fun r7 =>
    some (!r7)) else (some false)).bind fun b8 =>
    bif b8 then ((app 40 out_0 ([x2])).bind fun x9 =>
    (hY b_0 player_0 week_0 t14_0 t15_0 k0) (w64 (t16_0 + 1)) x9)
    else ((hY b_0 player_0 week_0 t14_0 t15_0 k0) (w64 (t16_0 + 1)) out_0))
    else (qR out_0)

def mJ (b_0 : cE) (player_1 : Int) (week_2 : Int) : Option ((List aE)) :=
    hY b_0 player_1 week_2 b_0.Ledger.Reports (b_0.Ledger.Reports.length : Int) BIG 0 ([] : List aE)

def uF (zero_100 : Int) : Option Int :=
    some zero_100

def mM (zero_0 : Int) (t6_0 : List Int) (t7_0 : Int) : Nat → Int → Option Int
  | 0, _ => none
  | k0 + 1, t8_0 =>
    bif decide (t8_0 < t7_0) then ((idx t6_0 t8_0).bind fun x1 =>
    bif !decide (x1 = zero_0) then (some x1)
    else ((mM zero_0 t6_0 t7_0 k0) (w64 (t8_0 + 1))))
    else (uF zero_0)

def qY (vals_0 : List Int) : Option Int :=
    mM 0 vals_0 (vals_0.length : Int) BIG 0

def lI (x_0 : aE) (y_1 : aE) : Option Int :=
    (bif !decide (x_0.Must = y_1.Must) then (some x_0.Must) else (some false)).bind fun b3 =>
    bif b3 then (some (-1))
    else (bif !decide (x_0.Must = y_1.Must) then (some 1)
    else ((qY ([w64 (y_1.Points - x_0.Points), w64 (x_0.Id - y_1.Id)])).bind fun r4 =>
    some r4))

def mD (b_100 : cE) (musts_100 : Int) (o10_100 : List aE) : Option ((List aE)) :=
    (sub o10_100 0 (min (o10_100.length : Int) (max musts_100 b_100.Ledger.Counts))).bind fun x8 =>
    some x8

def gJ (b_0 : cE) (t14_0 : Int) (o10_0 : List aE) : Nat → Int → Int → Option ((List aE))
  | 0, _, _ => none
  | k0 + 1, musts_0, t15_0 =>
    bif decide (t15_0 < t14_0) then ((idx o10_0 t15_0).bind fun x6 =>
    bif x6.Must then ((gJ b_0 t14_0 o10_0 k0) (w64 (musts_0 + 1)) (w64 (t15_0 + 1)))
    else ((gJ b_0 t14_0 o10_0 k0) musts_0 (w64 (t15_0 + 1))))
    else (mD b_0 musts_0 o10_0)

def mK (b_0 : cE) (all_1 : List aE) : Option ((List aE)) :=
    (fL all_1).bind fun r1 =>
    (eW r1 (fun y3 y4 => lI y3 y4)).bind fun r5 =>
    gJ b_0 (r5.length : Int) r5 BIG 0 0

def wJ (n_100 : Int) : Option Int :=
    some n_100

def oU (t5_0 : List aE) (t6_0 : Int) : Nat → Int → Int → Option Int
  | 0, _, _ => none
  | k0 + 1, n_0, t7_0 =>
    bif decide (t7_0 < t6_0) then ((idx t5_0 t7_0).bind fun x1 =>
    (oU t5_0 t6_0 k0) (w64 (n_0 + x1.Points)) (w64 (t7_0 + 1)))
    else (wJ n_0)

def tJ (l_0 : List aE) : Option Int :=
    oU l_0 (l_0.length : Int) BIG 0 0

def rS (x : Int) : Option Int := zJ x

def fS (again0 : Int → (List bE) → Option ((List bE))) (a_101 : Int) (b_101 : Int) (cmp_101 : bE → bE → Option Int) (i_101 : Int) (data_101 : List bE) : Option ((List bE)) :=
    again0 (w64 (i_101 + 1)) data_101

def fT (again0 : Int → (List bE) → Option ((List bE))) (a_102 : Int) (b_102 : Int) (cmp_102 : bE → bE → Option Int) (i_102 : Int) (data_102 : List bE) : Option ((List bE)) :=
    fS again0 a_102 b_102 cmp_102 i_102 data_102

def cZ (again0 : Int → (List bE) → Option ((List bE))) (a_2 : Int) (b_2 : Int) (cmp_2 : bE → bE → Option Int) (i_2 : Int) : Nat → Int → (List bE) → Option ((List bE))
  | 0, _, _ => none
  | k2 + 1, j_2, data_2 =>
    (bif decide (a_2 < j_2) then ((idx data_2 j_2).bind fun x1 =>
    (idx data_2 (w64 (j_2 - 1))).bind fun x2 =>
    (cmp_2 x1 x2).bind fun r3 =>
    some (decide (r3 < 0))) else (some false)).bind fun b4 =>
    bif b4 then ((idx data_2 (w64 (j_2 - 1))).bind fun x5 =>
    (idx data_2 j_2).bind fun x6 =>
    (idx data_2 j_2).bind fun x7 =>
    (idx (data_2.set j_2.toNat x5) (w64 (j_2 - 1))).bind fun x8 =>
    (cZ again0 a_2 b_2 cmp_2 i_2 k2) (w64 (j_2 - 1)) ((data_2.set j_2.toNat x5).set (w64 (j_2 - 1)).toNat x6))
    else (fT again0 a_2 b_2 cmp_2 i_2 data_2)

def fR (data_100 : List bE) : Option ((List bE)) :=
    some data_100

def cS (a_0 : Int) (b_0 : Int) (cmp_0 : bE → bE → Option Int) : Nat → Int → (List bE) → Option ((List bE))
  | 0, _, _ => none
  | k0 + 1, i_0, data_0 =>
    bif decide (i_0 < b_0) then (cZ (cS a_0 b_0 cmp_0 k0) a_0 b_0 cmp_0 i_0 BIG i_0 data_0)
    else (fR data_0)

def dO (data_0 : List bE) (a_1 : Int) (b_2 : Int) (cmp_3 : bE → bE → Option Int) : Option ((List bE)) :=
    cS a_1 b_2 cmp_3 BIG (w64 (a_1 + 1)) data_0

def gV (cmp_0 : bE → bE → Option Int) : Nat → Int → Int → Int → Bool → Bool → (List bE) → Option ((List bE))
  | 0, _, _, _, _, _, _ => none
  | k0 + 1, a_0, b_0, limit_0, wasBalanced_0, wasPartitioned_0, data_0 =>
    bif decide ((w64 (b_0 - a_0)) ≤ 12) then ((dO data_0 a_0 b_0 cmp_0).bind fun r1 =>
    some r1)
    else (none)

def iE (data_0 : List bE) (a_1 : Int) (b_2 : Int) (limit_3 : Int) (cmp_4 : bE → bE → Option Int) : Option ((List bE)) :=
    gV cmp_4 BIG a_1 b_2 limit_3 true true data_0

def iS (x_0 : List bE) (cmp_1 : bE → bE → Option Int) : Option ((List bE)) :=
    (rS (IntKind.u64.wrap (x_0.length : Int))).bind fun r1 =>
    (iE x_0 0 (x_0.length : Int) r1 cmp_1).bind fun r2 =>
    some r2

def lJ (x_0 : bE) (y_1 : bE) : Option Int :=
    (qY ([w64 (y_1.points - x_0.points), w64 (y_1.musts - x_0.musts), w64 (x_0.many - y_1.many), w64 (x_0.player - y_1.player)])).bind fun r3 =>
    some r3

def lH (again0 : Int → (List bE) → Option ((List Int))) (b_101 : cE) (week_101 : Int) (t18_101 : Int) (t19_101 : Int) (lines_101 : List bE) : Option ((List Int)) :=
    again0 (w64 (t19_101 + 1)) lines_101

def oZ (again0 : Int → (List bE) → Option ((List Int))) (b_102 : cE) (week_102 : Int) (t18_102 : Int) (t19_102 : Int) (lines_102 : List bE) (x_102 : bE) : Option ((List Int)) :=
    (app 32 lines_102 ([x_102])).bind fun x10 =>
    lH again0 b_102 week_102 t18_102 t19_102 x10

def iK (again0 : Int → (List bE) → Option ((List Int))) (b_2 : cE) (week_2 : Int) (t18_2 : Int) (t19_2 : Int) (t47_2 : List aE) (t48_2 : Int) (lines_2 : List bE) : Nat → Int → bE → Option ((List Int))
  | 0, _, _ => none
  | k2 + 1, t49_2, x_2 =>
    bif decide (t49_2 < t48_2) then ((idx t47_2 t49_2).bind fun x8 =>
    bif x8.Must then ((iK again0 b_2 week_2 t18_2 t19_2 t47_2 t48_2 lines_2 k2) (w64 (t49_2 + 1)) (bE.mk x_2.player x_2.points (w64 (x_2.musts + x8.Points)) x_2.many))
    else ((iK again0 b_2 week_2 t18_2 t19_2 t47_2 t48_2 lines_2 k2) (w64 (t49_2 + 1)) x_2))
    else (oZ again0 b_2 week_2 t18_2 t19_2 lines_2 x_2)

def rH (out_104 : List Int) : Option ((List Int)) :=
    some out_104

def jS (t70_4 : Int) (lines_4 : List bE) : Nat → Int → (List Int) → Option ((List Int))
  | 0, _, _ => none
  | k4 + 1, t71_4, out_4 =>
    bif decide (t71_4 < t70_4) then ((idx lines_4 t71_4).bind fun x16 =>
    (app 8 out_4 ([x16.player])).bind fun x18 =>
    (jS t70_4 lines_4 k4) (w64 (t71_4 + 1)) x18)
    else (rH out_4)

def mQ (lines_100 : List bE) : Option ((List Int)) :=
    (iS lines_100 (fun y12 y13 => lJ y12 y13)).bind fun r14 =>
    jS (r14.length : Int) r14 BIG 0 ([] : List Int)

def fP (b_0 : cE) (week_0 : Int) (t18_0 : Int) : Nat → Int → (List bE) → Option ((List Int))
  | 0, _, _ => none
  | k0 + 1, t19_0, lines_0 =>
    bif decide (t19_0 < t18_0) then ((mJ b_0 t19_0 week_0).bind fun r2 =>
    (oB b_0.Ledger.Bans t19_0 week_0).bind fun r3 =>
    (bif r3 then (some true) else (some (decide ((r2.length : Int) = 0)))).bind fun b4 =>
    bif b4 then (lH (fP b_0 week_0 t18_0 k0) b_0 week_0 t18_0 t19_0 lines_0)
    else ((mK b_0 r2).bind fun r5 =>
    (tJ r5).bind fun r6 =>
    iK (fP b_0 week_0 t18_0 k0) b_0 week_0 t18_0 t19_0 r2 (r2.length : Int) lines_0 BIG 0 (bE.mk t19_0 r6 0 (r2.length : Int))))
    else (mQ lines_0)

def hB (b_0 : cE) (week_1 : Int) : Option ((List Int)) :=
    fP b_0 week_1 b_0.Ledger.Players BIG 0 ([] : List bE)

def nZ (l_0 : aN) (week_1 : Int) : Option ((List Int) × Int) :=
    (nJ l_0 0 week_1).bind fun r2 =>
    pI r2.1 (bif !decide (r2.2 = 0) then (some (([] : List Int), r2.2))
    else (none)) fun y3 =>
    bif !decide (r2.2 = 0) then (some (([] : List Int), r2.2))
    else ((hB y3 week_1).bind fun r6 =>
    some (r6, 0))

def rD : Option Int :=
    some (-1)

def lO (s_0 : List Int) (f_0 : Int → Option Bool) (t7_0 : Int) : Nat → Int → Option Int
  | 0, _ => none
  | k0 + 1, t8_0 =>
    bif decide (t8_0 < t7_0) then ((idx s_0 t8_0).bind fun x1 =>
    (f_0 x1).bind fun r2 =>
    bif r2 then (some t8_0)
    else ((lO s_0 f_0 t7_0 k0) (w64 (t8_0 + 1))))
    else (rD)

def pN (s_0 : List Int) (f_1 : Int → Option Bool) : Option Int :=
    lO s_0 f_1 (s_0.length : Int) BIG 0

def lN (s_0 : List Int) (f_1 : Int → Option Bool) : Option Bool :=
    (pN s_0 f_1).bind fun r1 =>
    some (decide (0 ≤ r1))

def sP (n_0 : Int) : Option Bool :=
    (fB n_0 0 2000).bind fun r1 =>
    some (!r1)

def qH : Option Int :=
    some (-1)

def iP (s_0 : List Int) (v_0 : Int) (t7_0 : Int) : Nat → Int → Option Int
  | 0, _ => none
  | k0 + 1, t8_0 =>
    bif decide (t8_0 < t7_0) then ((idx s_0 t8_0).bind fun x1 =>
    bif decide (v_0 = x1) then (some t8_0)
    else ((iP s_0 v_0 t7_0 k0) (w64 (t8_0 + 1))))
    else (qH)

def nK (s_0 : List Int) (v_1 : Int) : Option Int :=
    iP s_0 v_1 (s_0.length : Int) BIG 0

def kB (b_0 : cE) (player_1 : Int) (week_2 : Int) : Option Int :=
    (hB b_0 week_2).bind fun r1 =>
    (nK r1 player_1).bind fun r2 =>
    some (w64 (r2 + 1))

def vI (book : cE) (pl : Int) (wk : Int) (ms : Bool) (be : Int) (wo : Int) : Option (Bool × Int × Int) :=
    (kB book pl wk).bind fun r1 =>
    (bif ms then (some true) else (some (decide (r1 = 0)))).bind fun b2 =>
    some (b2, min be r1, max wo r1)

def sY (n_1 : Int) : Option ((List Int)) :=
    bif decide (n_1 < 0) then (none)
    else (bif decide (0 < (w64 (n_1 - (w64 (0 - 0))))) then ((chk (decide (0 ≤ 0))).bind fun u2 =>
    (chk (decide (0 < (w64 (n_1 - (w64 (0 - 0))))) && decide ((w64 (n_1 - (w64 (0 - 0)))) * ((8 : Nat) : Int) ≤ 140737488355328))).bind fun u3 =>
    (chk (decide (0 ≤ 0))).bind fun u5 =>
    some ([] : List Int))
    else (some ([] : List Int)))

def sW (o24_102 : List Int) : Option ((List Int)) :=
    some o24_102

def mW (t25_2 : List (List Int)) (t26_2 : Int) : Nat → Int → (List Int) → Option ((List Int))
  | 0, _, _ => none
  | k2 + 1, t27_2, o24_2 =>
    bif decide (t27_2 < t26_2) then ((idx t25_2 t27_2).bind fun x4 =>
    (app 8 o24_2 x4).bind fun x5 =>
    (mW t25_2 t26_2 k2) (w64 (t27_2 + 1)) x5)
    else (sW o24_2)

def sV (slices_100 : List (List Int)) (size_100 : Int) : Option ((List Int)) :=
    (sY size_100).bind fun r2 =>
    mW slices_100 (slices_100.length : Int) BIG 0 r2

def mV (slices_0 : List (List Int)) (t9_0 : List (List Int)) (t10_0 : Int) : Nat → Int → Int → Option ((List Int))
  | 0, _, _ => none
  | k0 + 1, size_0, t11_0 =>
    bif decide (t11_0 < t10_0) then ((idx t9_0 t11_0).bind fun x1 =>
    bif decide ((w64 (size_0 + (x1.length : Int))) < 0) then (none)
    else ((mV slices_0 t9_0 t10_0 k0) (w64 (size_0 + (x1.length : Int))) (w64 (t11_0 + 1))))
    else (sV slices_0 size_0)

def rJ (slices_0 : List (List Int)) : Option ((List Int)) :=
    mV slices_0 slices_0 (slices_0.length : Int) BIG 0 0

def sR (againR : cE → Int → Int → Bool → Int → Int → Int → (List Int) → (List Int) → Option (cE × Bool × Int × Int)) (many_100 : Int) (b_100 : cE) (b_100_2 : Int) (b_100_3 : Int) (b_100_4 : Bool) (b_100_5 : Int) (b_100_6 : Int) : Option (cE × Bool × Int × Int) :=
    (sub b_100.Ledger.Reports 0 many_100).bind fun x12 =>
    some ((cE.mk (aN.mk b_100.Ledger.Players b_100.Ledger.Counts x12 b_100.Ledger.Bans b_100.Ledger.Frozen)), b_100_4, b_100_5, b_100_6)

def mU (againR : cE → Int → Int → Bool → Int → Int → Int → (List Int) → (List Int) → Option (cE × Bool × Int × Int)) (week_0 : Int) (prizes_0 : List Int) (free_0 : List Int) (many_0 : Int) (t29_0 : List Int) (t30_0 : Int) (b_0_2 : Int) (b_0_3 : Int) : Nat → Int → cE → Bool → Int → Int → Option (cE × Bool × Int × Int)
  | 0, _, _, _, _, _ => none
  | k0 + 1, t31_0, b_0, b_0_4, b_0_5, b_0_6 =>
    bif decide (t31_0 < t30_0) then ((idx t29_0 t31_0).bind fun x3 =>
    (sub b_0.Ledger.Reports 0 many_0).bind fun x4 =>
    (idx prizes_0 0).bind fun x5 =>
    (app 40 x4 ([(aE.mk (w64 (100 + many_0)) x3 week_0 x5 false)])).bind fun x6 =>
    (sub prizes_0 1 (prizes_0.length : Int)).bind fun x7 =>
    (sub free_0 0 t31_0).bind fun x8 =>
    (sub free_0 (w64 (t31_0 + 1)) (free_0.length : Int)).bind fun x9 =>
    (rJ ([x8, x9])).bind fun r10 =>
    (againR (cE.mk (aN.mk b_0.Ledger.Players b_0.Ledger.Counts x6 b_0.Ledger.Bans b_0.Ledger.Frozen)) b_0_2 b_0_3 b_0_4 b_0_5 b_0_6 week_0 x7 r10).bind fun r11 =>
    (mU againR week_0 prizes_0 free_0 many_0 t29_0 t30_0 b_0_2 b_0_3 k0) (w64 (t31_0 + 1)) r11.1 r11.2.1 r11.2.2.1 r11.2.2.2)
    else (sR againR many_0 b_0 b_0_2 b_0_3 b_0_4 b_0_5 b_0_6)

def lS : Nat → cE → Int → Int → Bool → Int → Int → Int → (List Int) → (List Int) → Option (cE × Bool × Int × Int)
  | 0, _, _, _, _, _, _, _, _, _ => none
  | kr + 1, book, pl, wk, ms, be, wo, week_1, prizes_2, free_3 =>
    (bif decide ((prizes_2.length : Int) = 0) then (some true) else (some (decide ((free_3.length : Int) = 0)))).bind fun b1 =>
    bif b1 then ((vI book pl wk ms be wo).bind fun r2 =>
    some (book, r2.1, r2.2.1, r2.2.2))
    else (mU (lS kr) week_1 prizes_2 free_3 (book.Ledger.Reports.length : Int) free_3 (free_3.length : Int) pl wk BIG 0 book ms be wo)

def uL : cE → Int → Int → Bool → Int → Int → Int → (List Int) → (List Int) → Option (cE × Bool × Int × Int) := lS BIG

def xT (prizes_100 : List Int) (player_100 : Int) (week_100 : Int) (best_100 : Int) (worst_100 : Int) (free_100 : List Int) (o19_100 : List aE) (o19_100_2 : Int) (o19_100_3 : Int) (o19_100_4 : List aP) (o19_100_5 : List aP) : Option (Int × Int × Int) :=
    (uL (cE.mk (aN.mk o19_100_2 o19_100_3 o19_100 o19_100_4 o19_100_5)) player_100 week_100 false (w64 (o19_100_2 + 1)) 0 week_100 prizes_100 free_100).bind fun r24 =>
    bif r24.2.1 then (some (0, 0, 3))
    else (some (r24.2.2.1, r24.2.2.2, 0))

def pQ (prizes_0 : List Int) (t36_0 : Int) (player_0 : Int) (week_0 : Int) (best_0 : Int) (worst_0 : Int) (o19_0 : List aE) (o19_0_2 : Int) (o19_0_3 : Int) (o19_0_4 : List aP) (o19_0_5 : List aP) : Nat → Int → (List Int) → Option (Int × Int × Int)
  | 0, _, _ => none
  | k0 + 1, t37_0, free_0 =>
    bif decide (t37_0 < t36_0) then ((oB o19_0_4 t37_0 week_0).bind fun r20 =>
    bif !r20 then ((app 8 free_0 ([t37_0])).bind fun x21 =>
    (pQ prizes_0 t36_0 player_0 week_0 best_0 worst_0 o19_0 o19_0_2 o19_0_3 o19_0_4 o19_0_5 k0) (w64 (t37_0 + 1)) x21)
    else ((pQ prizes_0 t36_0 player_0 week_0 best_0 worst_0 o19_0 o19_0_2 o19_0_3 o19_0_4 o19_0_5 k0) (w64 (t37_0 + 1)) free_0))
    else (xT prizes_0 player_0 week_0 best_0 worst_0 free_0 o19_0 o19_0_2 o19_0_3 o19_0_4 o19_0_5)

def xI (l_0 : aN) (player_1 : Int) (week_2 : Int) (prizes_3 : List Int) : Option (Int × Int × Int) :=
    (nJ l_0 player_1 week_2).bind fun r6 =>
    pI r6.1 (bif !decide (r6.2 = 0) then (some (0, 0, r6.2))
    else ((bif decide (4 < (prizes_3.length : Int)) then (some true) else ((lN prizes_3 (fun y11 => sP y11)).bind fun r12 =>
    some r12)).bind fun b13 =>
    bif b13 then (some (0, 0, 42))
    else (none))) fun y7 =>
    bif !decide (r6.2 = 0) then (some (0, 0, r6.2))
    else ((bif decide (4 < (prizes_3.length : Int)) then (some true) else ((lN prizes_3 (fun y16 => sP y16)).bind fun r17 =>
    some r17)).bind fun b18 =>
    bif b18 then (some (0, 0, 42))
    else (pQ prizes_3 y7.Ledger.Players player_1 week_2 0 0 y7.Ledger.Reports y7.Ledger.Players y7.Ledger.Counts y7.Ledger.Bans y7.Ledger.Frozen BIG 0 ([] : List Int)))

def jE (b_0 : cE) (player_1 : Int) (week_2 : Int) : Option Int :=
    (mJ b_0 player_1 week_2).bind fun r1 =>
    (mK b_0 r1).bind fun r2 =>
    (tJ r2).bind fun r3 =>
    some r3

def lE : Option Int :=
    some (-1)

def eQ (s_0 : List aE) (f_0 : aE → Option Bool) (t7_0 : Int) : Nat → Int → Option Int
  | 0, _ => none
  | k0 + 1, t8_0 =>
    bif decide (t8_0 < t7_0) then ((idx s_0 t8_0).bind fun x1 =>
    (f_0 x1).bind fun r2 =>
    bif r2 then (some t8_0)
    else ((eQ s_0 f_0 t7_0 k0) (w64 (t8_0 + 1))))
    else (lE)

def iA (s_0 : List aE) (f_1 : aE → Option Bool) : Option Int :=
    eQ s_0 f_1 (s_0.length : Int) BIG 0

def kU (i_100 : Int) (s_100 : List aE) : Option ((List aE)) :=
    (chk (decide (0 ≤ i_100) && decide (i_100 ≤ (s_100.length : Int)))).bind fun u7 =>
    (chk (decide (i_100.toNat ≤ s_100.length))).bind fun u8 =>
    (chk (decide (0 ≤ i_100))).bind fun u9 =>
    some (s_100.take i_100.toNat)

def dX (del_0 : aE → Option Bool) : Nat → Int → Int → (List aE) → Option ((List aE))
  | 0, _, _, _ => none
  | k0 + 1, i_0, j_0, s_0 =>
    bif decide (j_0 < (s_0.length : Int)) then ((idx s_0 j_0).bind fun x3 =>
    (del_0 x3).bind fun r5 =>
    bif !r5 then ((idx s_0 i_0).bind fun x6 =>
    (dX del_0 k0) (w64 (i_0 + 1)) (w64 (j_0 + 1)) (s_0.set i_0.toNat x3))
    else ((dX del_0 k0) i_0 (w64 (j_0 + 1)) s_0))
    else (kU i_0 s_0)

def eT (s_0 : List aE) (del_1 : aE → Option Bool) : Option ((List aE)) :=
    (iA s_0 del_1).bind fun r2 =>
    bif decide (r2 = (-1)) then (some s_0)
    else (dX del_1 BIG r2 (w64 (r2 + 1)) s_0)

def nA (r_0 : aE) (c_1 : Int) : Option Bool :=
    some (decide (c_1 < r_0.Week))

def lC (l_0 : aN) (player_1 : Int) (week_2 : Int) : Option (Int × Int) :=
    (nJ l_0 player_1 week_2).bind fun r3 =>
    pI r3.1 (bif !decide (r3.2 = 0) then (some (0, r3.2))
    else (bif decide (400 ≤ week_2) then (some (0, 1))
    else (none))) fun y4 =>
    bif !decide (r3.2 = 0) then (some (0, r3.2))
    else (bif decide (400 ≤ week_2) then (some (0, 1))
    else ((jE y4 player_1 week_2).bind fun r7 =>
    (eT y4.Ledger.Reports (fun y8 => nA y8 week_2)).bind fun r9 =>
    (jE (cE.mk (aN.mk y4.Ledger.Players y4.Ledger.Counts r9 y4.Ledger.Bans y4.Ledger.Frozen)) player_1 (w64 (week_2 + 1))).bind fun r11 =>
    some (w64 (r7 - r11), 0)))

def oH : Option Bool :=
    some true

def gM (a_0 : List Int) (b_0 : List Int) : Nat → Int → Option Bool
  | 0, _ => none
  | k0 + 1, i_0 =>
    bif decide (i_0 < (a_0.length : Int)) then ((idx a_0 i_0).bind fun x1 =>
    (idx b_0 i_0).bind fun x2 =>
    bif !decide (x1 = x2) then (some false)
    else ((gM a_0 b_0 k0) (w64 (i_0 + 1))))
    else (oH)

def kD (a_0 : List Int) (b_1 : List Int) : Option Bool :=
    bif !decide ((a_0.length : Int) = (b_1.length : Int)) then (some false)
    else (gM a_0 b_1 BIG 0)

def lT : Option Bool :=
    (qM).bind fun r1 =>
    (nZ r1 40).bind fun r3 =>
    (xI r1 1 40 ([300])).bind fun r4 =>
    (lC r1 0 61).bind fun r5 =>
    (bif decide (r3.2 = 0) then (some (decide (r4.2.2 = 0))) else (some false)).bind fun b6 =>
    (bif b6 then (some (decide (r5.2 = 0))) else (some false)).bind fun b7 =>
    (bif b7 then ((kD r3.1 ([0, 2, 1])).bind fun r8 =>
    some r8) else (some false)).bind fun b9 =>
    (bif b9 then (some (decide (r4.1 = 1))) else (some false)).bind fun b10 =>
    (bif b10 then (some (decide (r4.2.1 = 3))) else (some false)).bind fun b11 =>
    (bif b11 then (some (decide (r5.1 = 200))) else (some false)).bind fun b12 =>
    some b12

def mF (l_0 : aN) : Option aN :=
    (app 40 ([] : List aE) l_0.Reports).bind fun x4 =>
    (app 24 ([] : List aP) l_0.Bans).bind fun x5 =>
    (app 24 ([] : List aP) l_0.Frozen).bind fun x6 =>
    some (aN.mk l_0.Players l_0.Counts x4 x5 x6)

def gS (l_0 : aN) (player_1 : Int) (week_2 : Int) : Option Int :=
    (lU l_0).bind fun r2 =>
    bif !decide (r2 = 0) then (some r2)
    else ((eH player_1 0 (w64 (l_0.Players - 1))).bind fun r3 =>
    (bif !r3 then (some true) else ((eH week_2 0 400).bind fun r4 =>
    some (!r4))).bind fun b5 =>
    bif b5 then (some 1)
    else (some 0))

def qN : Option Bool :=
    some false

def iX (l_0 : List aP) (player_0 : Int) (week_0 : Int) : Nat → Int → Option Bool
  | 0, _ => none
  | k0 + 1, i_0 =>
    bif decide (i_0 < (l_0.length : Int)) then ((idx l_0 i_0).bind fun x1 =>
    (bif decide (x1.Player = player_0) then ((idx l_0 i_0).bind fun x2 =>
    (idx l_0 i_0).bind fun x3 =>
    (eH week_0 x2.From x3.To).bind fun r4 =>
    some r4) else (some false)).bind fun b5 =>
    bif b5 then (some true)
    else ((iX l_0 player_0 week_0 k0) (w64 (i_0 + 1))))
    else (qN)

def jY (l_0 : List aP) (player_1 : Int) (week_2 : Int) : Option Bool :=
    iX l_0 player_1 week_2 BIG 0

def iG (again0 : (List aE) → Int → Option ((List aE))) (l_101 : List aE) (out_101 : List aE) (i_101 : Int) : Option ((List aE)) :=
    again0 out_101 (w64 (i_101 + 1))

def kI (again0 : (List aE) → Int → Option ((List aE))) (l_102 : List aE) (out_102 : List aE) (i_102 : Int) (atv_102 : Int) (known_102 : Bool) : Option ((List aE)) :=
    bif !known_102 then ((idx l_102 i_102).bind fun x6 =>
    (sub out_102 atv_102 (out_102.length : Int)).bind fun x7 =>
    (app 40 ([x6]) x7).bind fun x8 =>
    (sub out_102 0 atv_102).bind fun x10 =>
    (app 40 ([] : List aE) x10).bind fun x11 =>
    (app 40 x11 x8).bind fun x13 =>
    iG again0 l_102 x13 i_102)
    else (iG again0 l_102 out_102 i_102)

def fA (again0 : (List aE) → Int → Option ((List aE))) (l_2 : List aE) (out_2 : List aE) (i_2 : Int) : Nat → Int → Bool → Int → Option ((List aE))
  | 0, _, _, _ => none
  | k2 + 1, atv_2, known_2, k_2 =>
    bif decide (k_2 < (out_2.length : Int)) then ((bif known_2 then (some true) else ((idx out_2 k_2).bind fun x1 =>
    (idx l_2 i_2).bind fun x2 =>
    some (decide (x1 = x2)))).bind fun b3 =>
    (idx out_2 k_2).bind fun x4 =>
    (idx l_2 i_2).bind fun x5 =>
    bif decide (x4.Id ≤ x5.Id) then ((fA again0 l_2 out_2 i_2 k2) (w64 (k_2 + 1)) b3 (w64 (k_2 + 1)))
    else ((fA again0 l_2 out_2 i_2 k2) atv_2 b3 (w64 (k_2 + 1))))
    else (kI again0 l_2 out_2 i_2 atv_2 known_2)

def oJ (out_100 : List aE) : Option ((List aE)) :=
    some out_100

def eZ (l_0 : List aE) : Nat → (List aE) → Int → Option ((List aE))
  | 0, _, _ => none
  | k0 + 1, out_0, i_0 =>
    bif decide (i_0 < (l_0.length : Int)) then (fA (eZ l_0 k0) l_0 out_0 i_0 BIG 0 false 0)
    else (oJ out_0)

def iM (l_0 : List aE) : Option ((List aE)) :=
    eZ l_0 BIG ([] : List aE) 0

def rF (n_100 : Int) : Option Int :=
    some n_100

def iH (week_0 : Int) (l_0 : aN) (r_0 : aE) : Nat → Int → Int → Option Int
  | 0, _, _ => none
  | k0 + 1, n_0, w_0 =>
    bif decide (w_0 ≤ week_0) then ((jY l_0.Frozen r_0.Player w_0).bind fun r3 =>
    bif !r3 then ((iH week_0 l_0 r_0 k0) (w64 (n_0 + 1)) (w64 (w_0 + 1)))
    else ((iH week_0 l_0 r_0 k0) n_0 (w64 (w_0 + 1))))
    else (rF n_0)

def mY (l_0 : aN) (r_1 : aE) (week_2 : Int) : Option Int :=
    iH week_2 l_0 r_1 BIG 0 (w64 (r_1.Week + 1))

def oI (out_100 : List aE) : Option ((List aE)) :=
    some out_100

def eY (player_0 : Int) (week_0 : Int) (allv_0 : List aE) (l_0 : aN) : Nat → Int → (List aE) → Option ((List aE))
  | 0, _, _ => none
  | k0 + 1, i_0, out_0 =>
    bif decide (i_0 < (allv_0.length : Int)) then ((idx allv_0 i_0).bind fun x4 =>
    (bif decide (x4.Player = player_0) then (some (decide (x4.Week ≤ week_0))) else (some false)).bind fun b6 =>
    (bif b6 then ((mY l_0 x4 week_0).bind fun r7 =>
    some (decide (r7 < 52))) else (some false)).bind fun b8 =>
    (bif b8 then ((jY l_0.Bans player_0 x4.Week).bind fun r9 =>
    some (!r9)) else (some false)).bind fun b10 =>
    bif b10 then ((app 40 out_0 ([x4])).bind fun x11 =>
    (eY player_0 week_0 allv_0 l_0 k0) (w64 (i_0 + 1)) x11)
    else ((eY player_0 week_0 allv_0 l_0 k0) (w64 (i_0 + 1)) out_0))
    else (oI out_0)

def gR (l_0 : aN) (player_1 : Int) (week_2 : Int) : Option ((List aE)) :=
    (iM l_0.Reports).bind fun r3 =>
    eY player_1 week_2 r3 l_0 BIG 0 ([] : List aE)

def mO (l_0 : aN) (player_1 : Int) (week_2 : Int) : Option Bool :=
    (jY l_0.Bans player_1 week_2).bind fun r2 =>
    (bif !r2 then ((gR l_0 player_1 week_2).bind fun r3 =>
    some (decide (0 < (r3.length : Int)))) else (some false)).bind fun b4 =>
    some b4

def lR (again2 : Int → (List aE) → Option ((List aE))) (allv_103 : List aE) (must_103 : Int) (i_103 : Int) (l_103 : aN) (out_103 : List aE) : Option ((List aE)) :=
    again2 (w64 (i_103 + 1)) out_103

def nQ (again2 : Int → (List aE) → Option ((List aE))) (allv_104 : List aE) (must_104 : Int) (i_104 : Int) (better_104 : Int) (l_104 : aN) (out_104 : List aE) : Option ((List aE)) :=
    (idx allv_104 i_104).bind fun x13 =>
    (bif x13.Must then (some true) else (some (decide (better_104 < (w64 (l_104.Counts - must_104)))))).bind fun b14 =>
    bif b14 then ((idx allv_104 i_104).bind fun x15 =>
    (app 40 out_104 ([x15])).bind fun x16 =>
    lR again2 allv_104 must_104 i_104 l_104 x16)
    else (lR again2 allv_104 must_104 i_104 l_104 out_104)

def gT (again2 : Int → (List aE) → Option ((List aE))) (allv_4 : List aE) (must_4 : Int) (i_4 : Int) (l_4 : aN) (out_4 : List aE) : Nat → Int → Int → Option ((List aE))
  | 0, _, _ => none
  | k4 + 1, better_4, k_4 =>
    bif decide (k_4 < (allv_4.length : Int)) then ((idx allv_4 k_4).bind fun x5 =>
    (bif !x5.Must then ((idx allv_4 k_4).bind fun x6 =>
    (idx allv_4 i_4).bind fun x7 =>
    (bif decide (x7.Points < x6.Points) then (some true) else ((idx allv_4 k_4).bind fun x8 =>
    (idx allv_4 i_4).bind fun x9 =>
    (bif decide (x8.Points = x9.Points) then (some (decide (k_4 < i_4))) else (some false)).bind fun b10 =>
    some b10)).bind fun b11 =>
    some b11) else (some false)).bind fun b12 =>
    bif b12 then ((gT again2 allv_4 must_4 i_4 l_4 out_4 k4) (w64 (better_4 + 1)) (w64 (k_4 + 1)))
    else ((gT again2 allv_4 must_4 i_4 l_4 out_4 k4) better_4 (w64 (k_4 + 1))))
    else (nQ again2 allv_4 must_4 i_4 better_4 l_4 out_4)

def qE (out_102 : List aE) : Option ((List aE)) :=
    some out_102

def fH (allv_2 : List aE) (must_2 : Int) (l_2 : aN) : Nat → Int → (List aE) → Option ((List aE))
  | 0, _, _ => none
  | k2 + 1, i_2, out_2 =>
    bif decide (i_2 < (allv_2.length : Int)) then (gT (fH allv_2 must_2 l_2 k2) allv_2 must_2 i_2 l_2 out_2 BIG 0 0)
    else (qE out_2)

def nP (allv_100 : List aE) (must_100 : Int) (l_100 : aN) : Option ((List aE)) :=
    fH allv_100 must_100 l_100 BIG 0 ([] : List aE)

def fY (allv_0 : List aE) (l_0 : aN) : Nat → Int → Int → Option ((List aE))
  | 0, _, _ => none
  | k0 + 1, must_0, i_0 =>
    bif decide (i_0 < (allv_0.length : Int)) then ((idx allv_0 i_0).bind fun x3 =>
    bif x3.Must then ((fY allv_0 l_0 k0) (w64 (must_0 + 1)) (w64 (i_0 + 1)))
    else ((fY allv_0 l_0 k0) must_0 (w64 (i_0 + 1))))
    else (nP allv_0 must_0 l_0)

def nF (l_0 : aN) (player_1 : Int) (week_2 : Int) : Option ((List aE)) :=
    (gR l_0 player_1 week_2).bind fun r2 =>
    fY r2 l_0 BIG 0 0

def pG (sum_100 : Int) (must_100 : Int) : Option (Int × Int) :=
    some (sum_100, must_100)

def gI (allv_0 : List aE) : Nat → Int → Int → Int → Option (Int × Int)
  | 0, _, _, _ => none
  | k0 + 1, sum_0, must_0, i_0 =>
    bif decide (i_0 < (allv_0.length : Int)) then ((idx allv_0 i_0).bind fun x3 =>
    (idx allv_0 i_0).bind fun x4 =>
    bif x4.Must then ((idx allv_0 i_0).bind fun x5 =>
    (gI allv_0 k0) (w64 (sum_0 + x3.Points)) (w64 (must_0 + x5.Points)) (w64 (i_0 + 1)))
    else ((gI allv_0 k0) (w64 (sum_0 + x3.Points)) must_0 (w64 (i_0 + 1))))
    else (pG sum_0 must_0)

def iI (l_0 : aN) (player_1 : Int) (week_2 : Int) : Option (Int × Int) :=
    (nF l_0 player_1 week_2).bind fun r2 =>
    gI r2 BIG 0 0 0

def mP (l_0 : aN) (a_1 : Int) (b_2 : Int) (week_3 : Int) : Option Bool :=
    (iI l_0 a_1 week_3).bind fun r2 =>
    (iI l_0 b_2 week_3).bind fun r3 =>
    bif !decide (r2.1 = r3.1) then (some (decide (r3.1 < r2.1)))
    else (bif !decide (r2.2 = r3.2) then (some (decide (r3.2 < r2.2)))
    else ((gR l_0 a_1 week_3).bind fun r4 =>
    (gR l_0 b_2 week_3).bind fun r5 =>
    bif !decide ((r4.length : Int) = (r5.length : Int)) then (some (decide ((r4.length : Int) < (r5.length : Int))))
    else (some (decide (a_1 < b_2)))))

def iZ (again0 : (List Int) → Int → Option ((List Int))) (week_101 : Int) (out_101 : List Int) (p_101 : Int) (l_101 : aN) : Option ((List Int)) :=
    again0 out_101 (w64 (p_101 + 1))

def nW (again0 : (List Int) → Int → Option ((List Int))) (week_102 : Int) (out_102 : List Int) (p_102 : Int) (atv_102 : Int) (l_102 : aN) : Option ((List Int)) :=
    (sub out_102 atv_102 (out_102.length : Int)).bind fun x6 =>
    (app 8 ([p_102]) x6).bind fun x7 =>
    (sub out_102 0 atv_102).bind fun x9 =>
    (app 8 ([] : List Int) x9).bind fun x10 =>
    (app 8 x10 x7).bind fun x12 =>
    iZ again0 week_102 x12 p_102 l_102

def hT (again0 : (List Int) → Int → Option ((List Int))) (week_2 : Int) (out_2 : List Int) (p_2 : Int) (l_2 : aN) : Nat → Int → Option ((List Int))
  | 0, _ => none
  | k2 + 1, atv_2 =>
    (bif decide (atv_2 < (out_2.length : Int)) then ((idx out_2 atv_2).bind fun x3 =>
    (mP l_2 x3 p_2 week_2).bind fun r4 =>
    some r4) else (some false)).bind fun b5 =>
    bif b5 then ((hT again0 week_2 out_2 p_2 l_2 k2) (w64 (atv_2 + 1)))
    else (nW again0 week_2 out_2 p_2 atv_2 l_2)

def qO (out_100 : List Int) : Option ((List Int)) :=
    some out_100

def fV (week_0 : Int) (l_0 : aN) : Nat → (List Int) → Int → Option ((List Int))
  | 0, _, _ => none
  | k0 + 1, out_0, p_0 =>
    bif decide (p_0 < l_0.Players) then ((mO l_0 p_0 week_0).bind fun r2 =>
    bif !r2 then (iZ (fV week_0 l_0 k0) week_0 out_0 p_0 l_0)
    else (hT (fV week_0 l_0 k0) week_0 out_0 p_0 l_0 BIG 0))
    else (qO out_0)

def kW (l_0 : aN) (week_1 : Int) : Option ((List Int)) :=
    fV week_1 l_0 BIG ([] : List Int) 0

def qD : Option Int :=
    some 0

def fX (player_0 : Int) (allv_0 : List Int) : Nat → Int → Option Int
  | 0, _ => none
  | k0 + 1, i_0 =>
    bif decide (i_0 < (allv_0.length : Int)) then ((idx allv_0 i_0).bind fun x3 =>
    bif decide (x3 = player_0) then (some (w64 (i_0 + 1)))
    else ((fX player_0 allv_0 k0) (w64 (i_0 + 1))))
    else (qD)

def kO (l_0 : aN) (player_1 : Int) (week_2 : Int) : Option Int :=
    (kW l_0 week_2).bind fun r2 =>
    fX player_1 r2 BIG 0

def oA (l_0 : aN) (player_1 : Int) (week_2 : Int) : Option (Int × Int) :=
    (nJ l_0 player_1 week_2).bind fun r2 =>
    pI r2.1 (bif !decide (r2.2 = 0) then (some (0, r2.2))
    else (none)) fun y3 =>
    bif !decide (r2.2 = 0) then (some (0, r2.2))
    else ((kB y3 player_1 week_2).bind fun r6 =>
    bif decide (r6 = 0) then (some (0, 3))
    else (some (r6, 0)))

def hG (s_0 : List aP) : Option ((List aP)) :=
    (app 24 ([] : List aP) s_0).bind fun x5 =>
    some x5

def jZ (l_0 : aN) (week_1 : Int) : Option ((List Int) × Int) :=
    (gS l_0 0 week_1).bind fun r2 =>
    bif !decide (r2 = 0) then (some (([] : List Int), r2))
    else ((kW l_0 week_1).bind fun r3 =>
    some (r3, 0))

def iY (l_0 : aN) (player_1 : Int) (week_2 : Int) : Option (Int × Int) :=
    (gS l_0 player_1 week_2).bind fun r2 =>
    bif !decide (r2 = 0) then (some (0, r2))
    else ((kO l_0 player_1 week_2).bind fun r3 =>
    bif decide (r3 = 0) then (some (0, 3))
    else (some (r3, 0)))

def mH (player_100 : Int) (week_100 : Int) (o_100 : List aE) (o_100_2 : Int) (o_100_3 : Int) (o_100_4 : List aP) (o_100_5 : List aP) : Option (Int × Int) :=
    (iI (aN.mk o_100_2 o_100_3 o_100 o_100_4 o_100_5) player_100 week_100).bind fun r10 =>
    (iI (aN.mk o_100_2 o_100_3 o_100 o_100_4 o_100_5) player_100 (w64 (week_100 + 1))).bind fun r11 =>
    some (w64 (r10.1 - r11.1), 0)

def gB (player_0 : Int) (week_0 : Int) (l_0 : aN) : Nat → Int → (List aE) → Int → Int → (List aP) → (List aP) → Option (Int × Int)
  | 0, _, _, _, _, _, _ => none
  | k0 + 1, i_0, o_0, o_0_2, o_0_3, o_0_4, o_0_5 =>
    bif decide (i_0 < (l_0.Reports.length : Int)) then ((idx l_0.Reports i_0).bind fun x6 =>
    bif decide (x6.Week ≤ week_0) then ((idx l_0.Reports i_0).bind fun x7 =>
    (app 40 o_0 ([x7])).bind fun x8 =>
    (gB player_0 week_0 l_0 k0) (w64 (i_0 + 1)) x8 o_0_2 o_0_3 o_0_4 o_0_5)
    else ((gB player_0 week_0 l_0 k0) (w64 (i_0 + 1)) o_0 o_0_2 o_0_3 o_0_4 o_0_5))
    else (mH player_0 week_0 o_0 o_0_2 o_0_3 o_0_4 o_0_5)

def hO (l_0 : aN) (player_1 : Int) (week_2 : Int) : Option (Int × Int) :=
    (gS l_0 player_1 week_2).bind fun r2 =>
    bif !decide (r2 = 0) then (some (0, r2))
    else (bif decide (week_2 = 400) then (some (0, 1))
    else ((mF l_0).bind fun r3 =>
    gB player_1 week_2 l_0 BIG 0 ([] : List aE) r3.Players r3.Counts r3.Bans r3.Frozen))

def kS (i_100 : Int) (s_100 : List aP) : Option ((List aP)) :=
    (chk (decide (0 ≤ i_100) && decide (i_100 ≤ (s_100.length : Int)))).bind fun u7 =>
    (chk (decide (i_100.toNat ≤ s_100.length))).bind fun u8 =>
    (chk (decide (0 ≤ i_100))).bind fun u9 =>
    some (s_100.take i_100.toNat)

def dR (del_0 : aP → Option Bool) : Nat → Int → Int → (List aP) → Option ((List aP))
  | 0, _, _, _ => none
  | k0 + 1, i_0, j_0, s_0 =>
    bif decide (j_0 < (s_0.length : Int)) then ((idx s_0 j_0).bind fun x3 =>
    (del_0 x3).bind fun r5 =>
    bif !r5 then ((idx s_0 i_0).bind fun x6 =>
    (dR del_0 k0) (w64 (i_0 + 1)) (w64 (j_0 + 1)) (s_0.set i_0.toNat x3))
    else ((dR del_0 k0) i_0 (w64 (j_0 + 1)) s_0))
    else (kS i_0 s_0)

def gQ (s_0 : List aP) (del_1 : aP → Option Bool) : Option ((List aP)) :=
    (fW s_0 del_1).bind fun r2 =>
    bif decide (r2 = (-1)) then (some s_0)
    else (dR del_1 BIG r2 (w64 (r2 + 1)) s_0)

def nH (a_0 : aP) (c_1 : Int) : Option Bool :=
    some (!decide (a_0.Player = c_1))

def oV (o4_100 : aP) (m_100 : aP) : Option aP :=
    some m_100

def eG (x_0 : List aP) (cmp_0 : aP → aP → Option Int) (o4_0 : aP) : Nat → Int → aP → Option aP
  | 0, _, _ => none
  | k0 + 1, i_0, m_0 =>
    bif decide (i_0 < (x_0.length : Int)) then ((idx x_0 i_0).bind fun x4 =>
    (cmp_0 x4 m_0).bind fun r5 =>
    bif decide (r5 < 0) then ((idx x_0 i_0).bind fun x6 =>
    (eG x_0 cmp_0 o4_0 k0) (w64 (i_0 + 1)) x6)
    else ((eG x_0 cmp_0 o4_0 k0) (w64 (i_0 + 1)) m_0))
    else (oV o4_0 m_0)

def iD (x_0 : List aP) (cmp_1 : aP → aP → Option Int) : Option aP :=
    bif decide ((x_0.length : Int) < 1) then (none)
    else ((idx x_0 0).bind fun x2 =>
    eG x_0 cmp_1 (aP.mk 0 0 0) BIG 1 x2)

def kR (x_0 : aP) (y_1 : aP) : Option Int :=
    some (w64 (x_0.From - y_1.From))

def oY (weeks_100 : Int) (n_100 : Int) : Option (Int × Int) :=
    (chk (!decide (weeks_100 = 0))).bind fun u17 =>
    some (w64 (n_100.tdiv weeks_100), 0)

def gU (player_0 : Int) (weeks_0 : Int) (first_0 : aP) (o17_0 : List aE) (o17_0_2 : Int) (o17_0_3 : Int) (o17_0_4 : List aP) (o17_0_5 : List aP) : Nat → Int → Int → Option (Int × Int)
  | 0, _, _ => none
  | k0 + 1, n_0, week_0 =>
    bif decide (week_0 < (w64 (first_0.From + weeks_0))) then ((kB (cE.mk (aN.mk o17_0_2 o17_0_3 o17_0 o17_0_4 o17_0_5)) player_0 week_0).bind fun r16 =>
    bif decide (0 < r16) then ((gU player_0 weeks_0 first_0 o17_0 o17_0_2 o17_0_3 o17_0_4 o17_0_5 k0) (w64 (n_0 + r16)) (w64 (week_0 + 1)))
    else ((gU player_0 weeks_0 first_0 o17_0 o17_0_2 o17_0_3 o17_0_4 o17_0_5 k0) (w64 (n_0 + o17_0_2)) (w64 (week_0 + 1))))
    else (oY weeks_0 n_0)

def kT (l_0 : aN) (player_1 : Int) : Option (Int × Int) :=
    (nJ l_0 player_1 0).bind fun r3 =>
    pI r3.1 (bif !decide (r3.2 = 0) then (some (0, r3.2))
    else (none)) fun y4 =>
    bif !decide (r3.2 = 0) then (some (0, r3.2))
    else ((hG y4.Ledger.Frozen).bind fun r7 =>
    (gQ r7 (fun y9 => nH y9 player_1)).bind fun r10 =>
    bif decide ((r10.length : Int) = 0) then (some (0, 3))
    else ((iD r10 (fun y12 y13 => kR y12 y13)).bind fun r14 =>
    gU player_1 (min 12 (w64 ((w64 (r14.To - r14.From)) + 1))) r14 y4.Ledger.Reports y4.Ledger.Players y4.Ledger.Counts y4.Ledger.Bans y4.Ledger.Frozen BIG 0 r14.From))

def lM (sum_102 : Int) (many_102 : Int) : Option (Int × Int) :=
    (chk (!decide (many_102 = 0))).bind fun u9 =>
    some (w64 (sum_102.tdiv many_102), 0)

def fK (player_2 : Int) (to_2 : Int) (l_2 : aN) : Nat → Int → Int → Int → Option (Int × Int)
  | 0, _, _, _ => none
  | k2 + 1, sum_2, many_2, w_2 =>
    (bif decide (w_2 ≤ to_2) then (some (decide (many_2 < 12))) else (some false)).bind fun b7 =>
    bif b7 then ((kO l_2 player_2 w_2).bind fun r8 =>
    bif decide (r8 = 0) then ((fK player_2 to_2 l_2 k2) (w64 (sum_2 + l_2.Players)) (w64 (many_2 + 1)) (w64 (w_2 + 1)))
    else ((fK player_2 to_2 l_2 k2) (w64 (sum_2 + r8)) (w64 (many_2 + 1)) (w64 (w_2 + 1))))
    else (lM sum_2 many_2)

def jR (player_100 : Int) (fromv_100 : Int) (to_100 : Int) (l_100 : aN) : Option (Int × Int) :=
    bif decide (fromv_100 < 0) then (some (0, 3))
    else (fK player_100 to_100 l_100 BIG 0 0 fromv_100)

def fJ (player_0 : Int) (l_0 : aN) : Nat → Int → Int → Int → Option (Int × Int)
  | 0, _, _, _ => none
  | k0 + 1, fromv_0, to_0, i_0 =>
    bif decide (i_0 < (l_0.Frozen.length : Int)) then ((idx l_0.Frozen i_0).bind fun x3 =>
    (bif decide (x3.Player = player_0) then ((bif decide (fromv_0 < 0) then (some true) else (some (decide (x3.From < fromv_0)))).bind fun b5 =>
    some b5) else (some false)).bind fun b6 =>
    bif b6 then ((fJ player_0 l_0 k0) x3.From x3.To (w64 (i_0 + 1)))
    else ((fJ player_0 l_0 k0) fromv_0 to_0 (w64 (i_0 + 1))))
    else (jR player_0 fromv_0 to_0 l_0)

def gH (l_0 : aN) (player_1 : Int) : Option (Int × Int) :=
    (gS l_0 player_1 0).bind fun r2 =>
    bif !decide (r2 = 0) then (some (0, r2))
    else (fJ player_1 l_0 BIG (-1) (-1) 0)

def mT (l_0 : aN) (x_1 : pP) : Option Bool :=
    (gX l_0).bind fun r3 =>
    (bif r3 then (some true) else ((nV x_1.Week).bind fun r4 =>
    some r4)).bind fun b5 =>
    bif b5 then ((lT).bind fun r6 =>
    some r6)
    else ((mF l_0).bind fun r7 =>
    (nZ r7 x_1.Week).bind fun r9 =>
    (jZ l_0 x_1.Week).bind fun r10 =>
    (oA r7 x_1.Player x_1.Week).bind fun r11 =>
    (iY l_0 x_1.Player x_1.Week).bind fun r12 =>
    (kD r9.1 r10.1).bind fun r13 =>
    (bif !r13 then (some true) else (some (!decide (r9.2 = r10.2)))).bind fun b14 =>
    (bif b14 then (some true) else (some (!decide (r11.1 = r12.1)))).bind fun b15 =>
    (bif b15 then (some true) else (some (!decide (r11.2 = r12.2)))).bind fun b16 =>
    bif b16 then (some false)
    else ((lC r7 x_1.Player x_1.Week).bind fun r17 =>
    (hO l_0 x_1.Player x_1.Week).bind fun r18 =>
    (kT r7 x_1.Player).bind fun r19 =>
    (gH l_0 x_1.Player).bind fun r20 =>
    (bif decide (r17.1 = r18.1) then (some (decide (r17.2 = r18.2))) else (some false)).bind fun b21 =>
    (bif b21 then (some (decide (r19.1 = r20.1))) else (some false)).bind fun b22 =>
    (bif b22 then (some (decide (r19.2 = r20.2))) else (some false)).bind fun b23 =>
    (bif b23 then ((lT).bind fun r24 =>
    some r24) else (some false)).bind fun b25 =>
    some b25))

end Go.Am
