/- Shallow functions, printed by program. -/
import Derived.Test.YtaocljlhapoieaaAmFull
import Derived.Test.YtaocljlhapoieaaAmPrim
import Derived.Test.YtaocljlhapoieaaAmSort
namespace Go.Am

structure bA where
  Player : Int
  From : Int
  To : Int
  deriving DecidableEq, Inhabited
def aK (x : bA) : List D := [.lit (.int .i64 x.Player), .lit (.int .i64 x.From), .lit (.int .i64 x.To)]

def aAr (x : List bA) : List D := [.sl 3 (x.map aK)]

structure aD where
  Id : Int
  Player : Int
  Week : Int
  Points : Int
  Must : Bool
  deriving DecidableEq, Inhabited
def aB (x : aD) : List D := [.lit (.int .i64 x.Id), .lit (.int .i64 x.Player), .lit (.int .i64 x.Week), .lit (.int .i64 x.Points), .lit (.bool x.Must)]

def aBf (x : List aD) : List D := [.sl 5 (x.map aB)]

structure aL where
  Players : Int
  Counts : Int
  Reports : List aD
  Bans : List bA
  Frozen : List bA
  deriving DecidableEq, Inhabited
def aN (x : aL) : List D := [.lit (.int .i64 x.Players), .lit (.int .i64 x.Counts), .sl 5 (x.Reports.map aB), .sl 3 (x.Bans.map aK), .sl 3 (x.Frozen.map aK)]

structure cB where
  Ledger : aL
  deriving DecidableEq, Inhabited
def cK (x : cB) : List D := [.lit (.int .i64 x.Ledger.Players), .lit (.int .i64 x.Ledger.Counts), .sl 5 (x.Ledger.Reports.map aB), .sl 3 (x.Ledger.Bans.map aK), .sl 3 (x.Ledger.Frozen.map aK)]

def qT (x : List Int) : List D := [.sl 1 (x.map bY)]

structure bE where
  player : Int
  points : Int
  musts : Int
  many : Int
  deriving DecidableEq, Inhabited
def bT (x : bE) : List D := [.lit (.int .i64 x.player), .lit (.int .i64 x.points), .lit (.int .i64 x.musts), .lit (.int .i64 x.many)]

structure pI where
  Player : Int
  Week : Int
  Id : Int
  deriving DecidableEq, Inhabited
def nC (x : pI) : List D := [.lit (.int .i64 x.Player), .lit (.int .i64 x.Week), .lit (.int .i64 x.Id)]

def wA (x : aD) : Prop := okI x.Id ∧ okI x.Player ∧ okI x.Week ∧ okI x.Points ∧ okB x.Must

def sG (x : bA) : Prop := okI x.Player ∧ okI x.From ∧ okI x.To

def aAg (x : aL) : Prop := okI x.Players ∧ okI x.Counts ∧ (okL wA) x.Reports ∧ (okL sG) x.Bans ∧ (okL sG) x.Frozen

def vR (x : pI) : Prop := okI x.Player ∧ okI x.Week ∧ okI x.Id

def dZ (n_0 : Int) (low_1 : Int) (high_2 : Int) : Option Bool :=
    (bif decide (low_1 ≤ n_0) then (some (decide (n_0 ≤ high_2))) else (some false)).bind fun b1 =>
    some b1

def nO (l_100 : List bA) : Option Bool :=
    some (decide ((l_100.length : Int) ≤ 8))

def fZ (players_0 : Int) (l_0 : List bA) : Nat → Int → Option Bool
  | 0, _ => none
  | k0 + 1, i_0 =>
    bif decide (i_0 < (l_0.length : Int)) then ((idx l_0 i_0).bind fun x1 =>
    (dZ x1.Player 0 (w64 (players_0 - 1))).bind fun r2 =>
    (bif !r2 then (some true) else ((idx l_0 i_0).bind fun x3 =>
    some (decide (x3.From < 0)))).bind fun b4 =>
    (bif b4 then (some true) else ((idx l_0 i_0).bind fun x5 =>
    (idx l_0 i_0).bind fun x6 =>
    some (decide (x6.To < x5.From)))).bind fun b7 =>
    (bif b7 then (some true) else ((idx l_0 i_0).bind fun x8 =>
    some (decide (400 < x8.To)))).bind fun b9 =>
    bif b9 then (some false)
    else ((fZ players_0 l_0 k0) (w64 (i_0 + 1))))
    else (nO l_0)

def jJ (players_0 : Int) (l_1 : List bA) : Option Bool :=
    fZ players_0 l_1 BIG 0

def lC (players_0 : Int) (r_1 : aD) : Option Bool :=
    (dZ r_1.Id 0 99).bind fun r2 =>
    (bif r2 then ((dZ r_1.Player 0 (w64 (players_0 - 1))).bind fun r3 =>
    some r3) else (some false)).bind fun b4 =>
    (bif b4 then ((dZ r_1.Week 0 400).bind fun r5 =>
    some r5) else (some false)).bind fun b6 =>
    (bif b6 then ((dZ r_1.Points 0 2000).bind fun r7 =>
    some r7) else (some false)).bind fun b8 =>
    some b8

def oK (again2 : Int → Option Bool) (i_103 : Int) (l_103 : aL) : Option Bool :=
    again2 (w64 (i_103 + 1))

def oL (again2 : Int → Option Bool) (i_104 : Int) (l_104 : aL) : Option Bool :=
    oK again2 i_104 l_104

def gJ (again2 : Int → Option Bool) (i_4 : Int) (l_4 : aL) : Nat → Int → Option Bool
  | 0, _ => none
  | k4 + 1, k_4 =>
    bif decide (k_4 < i_4) then ((idx l_4.Frozen i_4).bind fun x12 =>
    (idx l_4.Frozen k_4).bind fun x13 =>
    (bif decide (x12.Player = x13.Player) then (some (decide (x12.From ≤ x13.To))) else (some false)).bind fun b16 =>
    (bif b16 then (some (decide (x13.From ≤ x12.To))) else (some false)).bind fun b17 =>
    bif b17 then (some false)
    else ((gJ again2 i_4 l_4 k4) (w64 (k_4 + 1))))
    else (oL again2 i_4 l_4)

def oJ : Option Bool :=
    some true

def eD (l_2 : aL) : Nat → Int → Option Bool
  | 0, _ => none
  | k2 + 1, i_2 =>
    bif decide (i_2 < (l_2.Frozen.length : Int)) then (gJ (eD l_2 k2) i_2 l_2 BIG 0)
    else (oJ)

def oI (l_100 : aL) : Option Bool :=
    eD l_100 BIG 0

def fO (l_0 : aL) : Nat → Int → Option Bool
  | 0, _ => none
  | k0 + 1, i_0 =>
    bif decide (i_0 < (l_0.Reports.length : Int)) then ((idx l_0.Reports i_0).bind fun x10 =>
    (lC l_0.Players x10).bind fun r11 =>
    bif !r11 then (some false)
    else ((fO l_0 k0) (w64 (i_0 + 1))))
    else (oI l_0)

def lB (l_0 : aL) : Option Bool :=
    (dZ l_0.Players 1 16).bind fun r2 =>
    (bif !r2 then (some true) else ((dZ l_0.Counts 1 20).bind fun r3 =>
    some (!r3))).bind fun b4 =>
    (bif b4 then (some true) else (some (decide (40 < (l_0.Reports.length : Int))))).bind fun b5 =>
    (bif b5 then (some true) else ((jJ l_0.Players l_0.Bans).bind fun r6 =>
    some (!r6))).bind fun b7 =>
    (bif b7 then (some true) else ((jJ l_0.Players l_0.Frozen).bind fun r8 =>
    some (!r8))).bind fun b9 =>
    bif b9 then (some false)
    else (fO l_0 BIG 0)

def pR (again0 : Int → Option Bool) (l_101 : List aD) (i_101 : Int) : Option Bool :=
    again0 (w64 (i_101 + 1))

def pS (again0 : Int → Option Bool) (l_102 : List aD) (i_102 : Int) : Option Bool :=
    pR again0 l_102 i_102

def iH (again0 : Int → Option Bool) (l_2 : List aD) (i_2 : Int) : Nat → Int → Option Bool
  | 0, _ => none
  | k2 + 1, k_2 =>
    bif decide (k_2 < i_2) then ((idx l_2 i_2).bind fun x1 =>
    (idx l_2 k_2).bind fun x2 =>
    (bif decide (x1.Id = x2.Id) then ((idx l_2 i_2).bind fun x3 =>
    (idx l_2 k_2).bind fun x4 =>
    some (!decide (x3 = x4))) else (some false)).bind fun b5 =>
    bif b5 then (some true)
    else ((iH again0 l_2 i_2 k2) (w64 (k_2 + 1))))
    else (pS again0 l_2 i_2)

def pQ : Option Bool :=
    some false

def fA (l_0 : List aD) : Nat → Int → Option Bool
  | 0, _ => none
  | k0 + 1, i_0 =>
    bif decide (i_0 < (l_0.length : Int)) then (iH (fA l_0 k0) l_0 i_0 BIG 0)
    else (pQ)

def nA (l_0 : List aD) : Option Bool :=
    fA l_0 BIG 0

def jZ (l_0 : aL) : Option Int :=
    (lB l_0).bind fun r2 =>
    bif !r2 then (some 40)
    else ((nA l_0.Reports).bind fun r3 =>
    bif r3 then (some 41)
    else (some 0))

def kP (l_100 : aL) : Option Bool :=
    (bif decide (5 < l_100.Players) then (some true) else (some (decide (10 < (l_100.Reports.length : Int))))).bind fun b6 =>
    some b6

def fW (l_0 : aL) : Nat → Int → Option Bool
  | 0, _ => none
  | k0 + 1, i_0 =>
    bif decide (i_0 < (l_0.Reports.length : Int)) then ((idx l_0.Reports i_0).bind fun x5 =>
    bif decide (150 < x5.Week) then (some true)
    else ((fW l_0 k0) (w64 (i_0 + 1))))
    else (kP l_0)

def gV (l_0 : aL) : Option Bool :=
    (bif decide (60 < (l_0.Reports.length : Int)) then (some true) else (some (decide (20 < (l_0.Bans.length : Int))))).bind fun b2 =>
    (bif b2 then (some true) else (some (decide (20 < (l_0.Frozen.length : Int))))).bind fun b3 =>
    bif b3 then (some true)
    else ((jZ l_0).bind fun r4 =>
    bif !decide (r4 = 0) then (some false)
    else (fW l_0 BIG 0))

def nS (week_0 : Int) : Option Bool :=
    (bif decide (250 < week_0) then (some (decide (week_0 ≤ 400))) else (some false)).bind fun b1 =>
    some b1

def qD : Option aL :=
    some (aL.mk 3 2 ([(aD.mk 1 0 10 500 false), (aD.mk 2 0 20 300 false), (aD.mk 3 0 30 100 true), (aD.mk 4 1 12 400 false), (aD.mk 5 1 40 200 false), (aD.mk 6 2 15 600 false)]) ([(bA.mk 1 50 55)]) ([(bA.mk 2 20 29)]))

def eW (n_0 : Int) (low_1 : Int) (high_2 : Int) : Option Bool :=
    (bif decide (low_1 ≤ n_0) then (some (decide (n_0 ≤ high_2))) else (some false)).bind fun b1 =>
    some b1

def kD : Option Int :=
    some (-1)

def eJ (s_0 : List bA) (f_0 : bA → Option Bool) (t7_0 : Int) : Nat → Int → Option Int
  | 0, _ => none
  | k0 + 1, t8_0 =>
    bif decide (t8_0 < t7_0) then ((idx s_0 t8_0).bind fun x1 =>
    (f_0 x1).bind fun r2 =>
    bif r2 then (some t8_0)
    else ((eJ s_0 f_0 t7_0 k0) (w64 (t8_0 + 1))))
    else (kD)

def gY (s_0 : List bA) (f_1 : bA → Option Bool) : Option Int :=
    eJ s_0 f_1 (s_0.length : Int) BIG 0

def eI (s_0 : List bA) (f_1 : bA → Option Bool) : Option Bool :=
    (gY s_0 f_1).bind fun r1 =>
    some (decide (0 ≤ r1))

def nG (a_0 : bA) (c_1 : aL) : Option Bool :=
    (eW a_0.Player 0 (w64 (c_1.Players - 1))).bind fun r2 =>
    (bif !r2 then (some true) else (some (decide (a_0.To < a_0.From)))).bind fun b3 =>
    (bif b3 then (some true) else ((eW a_0.From 0 400).bind fun r4 =>
    some (!r4))).bind fun b5 =>
    (bif b5 then (some true) else ((eW a_0.To 0 400).bind fun r6 =>
    some (!r6))).bind fun b7 =>
    some b7

def mX (l_0 : aL) (all_1 : List bA) : Option Bool :=
    (bif decide ((all_1.length : Int) ≤ 8) then ((eI all_1 (fun y2 => nG y2 l_0)).bind fun r3 =>
    some (!r3)) else (some false)).bind fun b4 =>
    some b4

def nZ (b_0 : bA) (c_1 : bA) : Option Bool :=
    (bif decide (c_1.Player = b_0.Player) then (some (decide (c_1.From ≤ b_0.To))) else (some false)).bind fun b2 =>
    (bif b2 then (some (decide (b_0.From ≤ c_1.To))) else (some false)).bind fun b3 =>
    some b3

def rW : Option Bool :=
    some true

def jD (t69_2 : List bA) (t70_2 : Int) (l_2 : aL) : Nat → Int → Option Bool
  | 0, _ => none
  | k2 + 1, t71_2 =>
    bif decide (t71_2 < t70_2) then ((idx t69_2 t71_2).bind fun x18 =>
    (sub l_2.Frozen 0 t71_2).bind fun x20 =>
    (eI x20 (fun y21 => nZ y21 x18)).bind fun r22 =>
    bif r22 then (some false)
    else ((jD t69_2 t70_2 l_2 k2) (w64 (t71_2 + 1))))
    else (rW)

def rV (l_100 : aL) : Option Bool :=
    (mX l_100 l_100.Bans).bind fun r15 =>
    (bif !r15 then (some true) else ((mX l_100 l_100.Frozen).bind fun r16 =>
    some (!r16))).bind fun b17 =>
    bif b17 then (some false)
    else (jD l_100.Frozen (l_100.Frozen.length : Int) l_100 BIG 0)

def jC (t24_0 : List aD) (t25_0 : Int) (l_0 : aL) : Nat → Int → Option Bool
  | 0, _ => none
  | k0 + 1, t26_0 =>
    bif decide (t26_0 < t25_0) then ((idx t24_0 t26_0).bind fun x6 =>
    (eW x6.Id 0 99).bind fun r8 =>
    (bif !r8 then (some true) else ((eW x6.Player 0 (w64 (l_0.Players - 1))).bind fun r9 =>
    some (!r9))).bind fun b10 =>
    (bif b10 then (some true) else ((eW x6.Week 0 400).bind fun r11 =>
    some (!r11))).bind fun b12 =>
    (bif b12 then (some true) else ((eW x6.Points 0 2000).bind fun r13 =>
    some (!r13))).bind fun b14 =>
    bif b14 then (some false)
    else ((jC t24_0 t25_0 l_0 k0) (w64 (t26_0 + 1))))
    else (rV l_0)

def pK (l_0 : aL) : Option Bool :=
    (eW l_0.Players 1 16).bind fun r2 =>
    (bif !r2 then (some true) else ((eW l_0.Counts 1 20).bind fun r3 =>
    some (!r3))).bind fun b4 =>
    (bif b4 then (some true) else (some (decide (40 < (l_0.Reports.length : Int))))).bind fun b5 =>
    bif b5 then (some false)
    else (jC l_0.Reports (l_0.Reports.length : Int) l_0 BIG 0)

def fD (s_0 : List aD) : Option ((List aD)) :=
    (app 40 ([] : List aD) s_0).bind fun x5 =>
    some x5

def fF (again0 : Int → (List aD) → Option ((List aD))) (a_101 : Int) (b_101 : Int) (cmp_101 : aD → aD → Option Int) (i_101 : Int) (data_101 : List aD) : Option ((List aD)) :=
    again0 (w64 (i_101 + 1)) data_101

def fG (again0 : Int → (List aD) → Option ((List aD))) (a_102 : Int) (b_102 : Int) (cmp_102 : aD → aD → Option Int) (i_102 : Int) (data_102 : List aD) : Option ((List aD)) :=
    fF again0 a_102 b_102 cmp_102 i_102 data_102

def cW (again0 : Int → (List aD) → Option ((List aD))) (a_2 : Int) (b_2 : Int) (cmp_2 : aD → aD → Option Int) (i_2 : Int) : Nat → Int → (List aD) → Option ((List aD))
  | 0, _, _ => none
  | k2 + 1, j_2, data_2 =>
    (bif decide (a_2 < j_2) then ((idx data_2 j_2).bind fun x1 =>
    (idx data_2 (w64 (j_2 - 1))).bind fun x2 =>
    (cmp_2 x1 x2).bind fun r3 =>
    some (decide (r3 < 0))) else (some false)).bind fun b4 =>
    bif b4 then ((idx data_2 (w64 (j_2 - 1))).bind fun x5 =>
    (idx data_2 j_2).bind fun x6 =>
    (idx data_2 j_2).bind fun x7 =>
    (idx (data_2.set j_2.toNat x5) (w64 (j_2 - 1))).bind fun x8 =>
    (cW again0 a_2 b_2 cmp_2 i_2 k2) (w64 (j_2 - 1)) ((data_2.set j_2.toNat x5).set (w64 (j_2 - 1)).toNat x6))
    else (fG again0 a_2 b_2 cmp_2 i_2 data_2)

def fE (data_100 : List aD) : Option ((List aD)) :=
    some data_100

def cO (a_0 : Int) (b_0 : Int) (cmp_0 : aD → aD → Option Int) : Nat → Int → (List aD) → Option ((List aD))
  | 0, _, _ => none
  | k0 + 1, i_0, data_0 =>
    bif decide (i_0 < b_0) then (cW (cO a_0 b_0 cmp_0 k0) a_0 b_0 cmp_0 i_0 BIG i_0 data_0)
    else (fE data_0)

def dM (data_0 : List aD) (a_1 : Int) (b_2 : Int) (cmp_3 : aD → aD → Option Int) : Option ((List aD)) :=
    cO a_1 b_2 cmp_3 BIG (w64 (a_1 + 1)) data_0

def iS (data_100 : List aD) : Option ((List aD)) :=
    some data_100

def dP (a_0 : Int) (b_0 : Int) (n_0 : Int) : Nat → Int → (List aD) → Option ((List aD))
  | 0, _, _ => none
  | k0 + 1, i_0, data_0 =>
    bif decide (i_0 < n_0) then ((idx data_0 (w64 (b_0 + i_0))).bind fun x1 =>
    (idx data_0 (w64 (a_0 + i_0))).bind fun x2 =>
    (idx data_0 (w64 (a_0 + i_0))).bind fun x3 =>
    (idx (data_0.set (w64 (a_0 + i_0)).toNat x1) (w64 (b_0 + i_0))).bind fun x4 =>
    (dP a_0 b_0 n_0 k0) (w64 (i_0 + 1)) ((data_0.set (w64 (a_0 + i_0)).toNat x1).set (w64 (b_0 + i_0)).toNat x2))
    else (iS data_0)

def eC (data_0 : List aD) (a_1 : Int) (b_2 : Int) (n_3 : Int) (cmp_4 : aD → aD → Option Int) : Option ((List aD)) :=
    dP a_1 b_2 n_3 BIG 0 data_0

def jQ (m_100 : Int) (cmp_100 : aD → aD → Option Int) (i_100 : Int) (data_100 : List aD) : Option ((List aD)) :=
    (eC data_100 (w64 (m_100 - i_100)) m_100 i_100 cmp_100).bind fun r3 =>
    some r3

def dB (m_0 : Int) (cmp_0 : aD → aD → Option Int) : Nat → Int → Int → (List aD) → Option ((List aD))
  | 0, _, _, _ => none
  | k0 + 1, i_0, j_0, data_0 =>
    bif !decide (i_0 = j_0) then (bif decide (j_0 < i_0) then ((eC data_0 (w64 (m_0 - i_0)) m_0 j_0 cmp_0).bind fun r1 =>
    (dB m_0 cmp_0 k0) (w64 (i_0 - j_0)) j_0 r1)
    else ((eC data_0 (w64 (m_0 - i_0)) (w64 ((w64 (m_0 + j_0)) - i_0)) i_0 cmp_0).bind fun r2 =>
    (dB m_0 cmp_0 k0) i_0 (w64 (j_0 - i_0)) r2))
    else (jQ m_0 cmp_0 i_0 data_0)

def eX (data_0 : List aD) (a_1 : Int) (m_2 : Int) (b_3 : Int) (cmp_4 : aD → aD → Option Int) : Option ((List aD)) :=
    dB m_2 cmp_4 BIG (w64 (m_2 - a_1)) (w64 (b_3 - m_2)) data_0

def jG (againR : (List aD) → Int → Int → Int → Option ((List aD))) (data_102 : List aD) : Option ((List aD)) :=
    some data_102

def dQ (againR : (List aD) → Int → Int → Int → Option ((List aD))) (i_2 : Int) : Nat → Int → (List aD) → Option ((List aD))
  | 0, _, _ => none
  | k2 + 1, k_2, data_2 =>
    bif decide (k_2 < (w64 (i_2 - 1))) then ((idx data_2 (w64 (k_2 + 1))).bind fun x4 =>
    (idx data_2 k_2).bind fun x5 =>
    (idx data_2 k_2).bind fun x6 =>
    (idx (data_2.set k_2.toNat x4) (w64 (k_2 + 1))).bind fun x7 =>
    (dQ againR i_2 k2) (w64 (k_2 + 1)) ((data_2.set k_2.toNat x4).set (w64 (k_2 + 1)).toNat x5))
    else (jG againR data_2)

def gG (againR : (List aD) → Int → Int → Int → Option ((List aD))) (a_100 : Int) (i_100 : Int) (data_100 : List aD) : Option ((List aD)) :=
    dQ againR i_100 BIG a_100 data_100

def cT (againR : (List aD) → Int → Int → Int → Option ((List aD))) (a_0 : Int) (cmp_0 : aD → aD → Option Int) (data_0 : List aD) : Nat → Int → Int → Option ((List aD))
  | 0, _, _ => none
  | k0 + 1, i_0, j_0 =>
    bif decide (i_0 < j_0) then ((idx data_0 (w64 ((IntKind.u64.wrap (w64 (i_0 + j_0))).fdiv (2 ^ (min (1 : Int).toNat 64))))).bind fun x1 =>
    (idx data_0 a_0).bind fun x2 =>
    (cmp_0 x1 x2).bind fun r3 =>
    bif decide (r3 < 0) then ((cT againR a_0 cmp_0 data_0 k0) (w64 ((w64 ((IntKind.u64.wrap (w64 (i_0 + j_0))).fdiv (2 ^ (min (1 : Int).toNat 64)))) + 1)) j_0)
    else ((cT againR a_0 cmp_0 data_0 k0) i_0 (w64 ((IntKind.u64.wrap (w64 (i_0 + j_0))).fdiv (2 ^ (min (1 : Int).toNat 64))))))
    else (gG againR a_0 i_0 data_0)

def jH (againR : (List aD) → Int → Int → Int → Option ((List aD))) (data_106 : List aD) : Option ((List aD)) :=
    some data_106

def dR (againR : (List aD) → Int → Int → Int → Option ((List aD))) (i_6 : Int) : Nat → Int → (List aD) → Option ((List aD))
  | 0, _, _ => none
  | k6 + 1, k_6, data_6 =>
    bif decide (i_6 < k_6) then ((idx data_6 (w64 (k_6 - 1))).bind fun x11 =>
    (idx data_6 k_6).bind fun x12 =>
    (idx data_6 k_6).bind fun x13 =>
    (idx (data_6.set k_6.toNat x11) (w64 (k_6 - 1))).bind fun x14 =>
    (dR againR i_6 k6) (w64 (k_6 - 1)) ((data_6.set k_6.toNat x11).set (w64 (k_6 - 1)).toNat x12))
    else (jH againR data_6)

def gH (againR : (List aD) → Int → Int → Int → Option ((List aD))) (m_104 : Int) (i_104 : Int) (data_104 : List aD) : Option ((List aD)) :=
    dR againR i_104 BIG m_104 data_104

def cU (againR : (List aD) → Int → Int → Int → Option ((List aD))) (m_4 : Int) (cmp_4 : aD → aD → Option Int) (data_4 : List aD) : Nat → Int → Int → Option ((List aD))
  | 0, _, _ => none
  | k4 + 1, i_4, j_4 =>
    bif decide (i_4 < j_4) then ((idx data_4 m_4).bind fun x8 =>
    (idx data_4 (w64 ((IntKind.u64.wrap (w64 (i_4 + j_4))).fdiv (2 ^ (min (1 : Int).toNat 64))))).bind fun x9 =>
    (cmp_4 x8 x9).bind fun r10 =>
    bif !(decide (r10 < 0)) then ((cU againR m_4 cmp_4 data_4 k4) (w64 ((w64 ((IntKind.u64.wrap (w64 (i_4 + j_4))).fdiv (2 ^ (min (1 : Int).toNat 64)))) + 1)) j_4)
    else ((cU againR m_4 cmp_4 data_4 k4) i_4 (w64 ((IntKind.u64.wrap (w64 (i_4 + j_4))).fdiv (2 ^ (min (1 : Int).toNat 64))))))
    else (gH againR m_4 i_4 data_4)

def dF (againR : (List aD) → Int → Int → Int → Option ((List aD))) (a_108 : Int) (m_108 : Int) (b_108 : Int) (cmp_108 : aD → aD → Option Int) (mid_108 : Int) (n_108 : Int) (start_108 : Int) (data_108 : List aD) : Option ((List aD)) :=
    (bif decide (start_108 < m_108) then (some (decide (m_108 < (w64 (n_108 - start_108))))) else (some false)).bind fun b18 =>
    bif b18 then ((eX data_108 start_108 m_108 (w64 (n_108 - start_108)) cmp_108).bind fun r19 =>
    (bif decide (a_108 < start_108) then (some (decide (start_108 < mid_108))) else (some false)).bind fun b20 =>
    bif b20 then ((againR r19 a_108 start_108 mid_108).bind fun r21 =>
    (bif decide (mid_108 < (w64 (n_108 - start_108))) then (some (decide ((w64 (n_108 - start_108)) < b_108))) else (some false)).bind fun b22 =>
    bif b22 then ((againR r21 mid_108 (w64 (n_108 - start_108)) b_108).bind fun r23 =>
    some r23)
    else (some r21))
    else ((bif decide (mid_108 < (w64 (n_108 - start_108))) then (some (decide ((w64 (n_108 - start_108)) < b_108))) else (some false)).bind fun b24 =>
    bif b24 then ((againR r19 mid_108 (w64 (n_108 - start_108)) b_108).bind fun r25 =>
    some r25)
    else (some r19)))
    else ((bif decide (a_108 < start_108) then (some (decide (start_108 < mid_108))) else (some false)).bind fun b26 =>
    bif b26 then ((againR data_108 a_108 start_108 mid_108).bind fun r27 =>
    (bif decide (mid_108 < (w64 (n_108 - start_108))) then (some (decide ((w64 (n_108 - start_108)) < b_108))) else (some false)).bind fun b28 =>
    bif b28 then ((againR r27 mid_108 (w64 (n_108 - start_108)) b_108).bind fun r29 =>
    some r29)
    else (some r27))
    else ((bif decide (mid_108 < (w64 (n_108 - start_108))) then (some (decide ((w64 (n_108 - start_108)) < b_108))) else (some false)).bind fun b30 =>
    bif b30 then ((againR data_108 mid_108 (w64 (n_108 - start_108)) b_108).bind fun r31 =>
    some r31)
    else (some data_108)))

def cF (againR : (List aD) → Int → Int → Int → Option ((List aD))) (a_8 : Int) (m_8 : Int) (b_8 : Int) (cmp_8 : aD → aD → Option Int) (mid_8 : Int) (n_8 : Int) (p_8 : Int) (data_8 : List aD) : Nat → Int → Int → Option ((List aD))
  | 0, _, _ => none
  | k8 + 1, start_8, r_8 =>
    bif decide (start_8 < r_8) then ((idx data_8 (w64 (p_8 - (w64 ((IntKind.u64.wrap (w64 (start_8 + r_8))).fdiv (2 ^ (min (1 : Int).toNat 64))))))).bind fun x15 =>
    (idx data_8 (w64 ((IntKind.u64.wrap (w64 (start_8 + r_8))).fdiv (2 ^ (min (1 : Int).toNat 64))))).bind fun x16 =>
    (cmp_8 x15 x16).bind fun r17 =>
    bif !(decide (r17 < 0)) then ((cF againR a_8 m_8 b_8 cmp_8 mid_8 n_8 p_8 data_8 k8) (w64 ((w64 ((IntKind.u64.wrap (w64 (start_8 + r_8))).fdiv (2 ^ (min (1 : Int).toNat 64)))) + 1)) r_8)
    else ((cF againR a_8 m_8 b_8 cmp_8 mid_8 n_8 p_8 data_8 k8) start_8 (w64 ((IntKind.u64.wrap (w64 (start_8 + r_8))).fdiv (2 ^ (min (1 : Int).toNat 64))))))
    else (dF againR a_8 m_8 b_8 cmp_8 mid_8 n_8 start_8 data_8)

def bK (cmp_4 : aD → aD → Option Int) : Nat → (List aD) → Int → Int → Int → Option ((List aD))
  | 0, _, _, _, _ => none
  | kr + 1, data_0, a_1, m_2, b_3 =>
    bif decide ((w64 (m_2 - a_1)) = 1) then (cT (bK cmp_4 kr) a_1 cmp_4 data_0 BIG m_2 b_3)
    else (bif decide ((w64 (b_3 - m_2)) = 1) then (cU (bK cmp_4 kr) m_2 cmp_4 data_0 BIG a_1 m_2)
    else (bif decide ((w64 ((IntKind.u64.wrap (w64 (a_1 + b_3))).fdiv (2 ^ (min (1 : Int).toNat 64)))) < m_2) then (cF (bK cmp_4 kr) a_1 m_2 b_3 cmp_4 (w64 ((IntKind.u64.wrap (w64 (a_1 + b_3))).fdiv (2 ^ (min (1 : Int).toNat 64)))) (w64 ((w64 ((IntKind.u64.wrap (w64 (a_1 + b_3))).fdiv (2 ^ (min (1 : Int).toNat 64)))) + m_2)) (w64 ((w64 ((w64 ((IntKind.u64.wrap (w64 (a_1 + b_3))).fdiv (2 ^ (min (1 : Int).toNat 64)))) + m_2)) - 1)) data_0 BIG (w64 ((w64 ((w64 ((IntKind.u64.wrap (w64 (a_1 + b_3))).fdiv (2 ^ (min (1 : Int).toNat 64)))) + m_2)) - b_3)) (w64 ((IntKind.u64.wrap (w64 (a_1 + b_3))).fdiv (2 ^ (min (1 : Int).toNat 64)))))
    else (cF (bK cmp_4 kr) a_1 m_2 b_3 cmp_4 (w64 ((IntKind.u64.wrap (w64 (a_1 + b_3))).fdiv (2 ^ (min (1 : Int).toNat 64)))) (w64 ((w64 ((IntKind.u64.wrap (w64 (a_1 + b_3))).fdiv (2 ^ (min (1 : Int).toNat 64)))) + m_2)) (w64 ((w64 ((w64 ((IntKind.u64.wrap (w64 (a_1 + b_3))).fdiv (2 ^ (min (1 : Int).toNat 64)))) + m_2)) - 1)) data_0 BIG a_1 m_2)))

def hH (data_0 : List aD) (a_1 : Int) (m_2 : Int) (b_3 : Int) (cmp_4 : aD → aD → Option Int) : Option ((List aD)) := bK cmp_4 BIG data_0 a_1 m_2 b_3

def fI (again2 : Int → (List aD) → Option ((List aD))) (n_103 : Int) (cmp_103 : aD → aD → Option Int) (blockSize_103 : Int) (data_103 : List aD) : Option ((List aD)) :=
    again2 blockSize_103 data_103

def jT (again2 : Int → (List aD) → Option ((List aD))) (n_104 : Int) (cmp_104 : aD → aD → Option Int) (blockSize_104 : Int) (a_104 : Int) (data_104 : List aD) : Option ((List aD)) :=
    bif decide ((w64 (a_104 + blockSize_104)) < n_104) then ((hH data_104 a_104 (w64 (a_104 + blockSize_104)) n_104 cmp_104).bind fun r4 =>
    fI again2 n_104 cmp_104 (w64 (blockSize_104 * 2)) r4)
    else (fI again2 n_104 cmp_104 (w64 (blockSize_104 * 2)) data_104)

def eB (again2 : Int → (List aD) → Option ((List aD))) (n_4 : Int) (cmp_4 : aD → aD → Option Int) (blockSize_4 : Int) : Nat → Int → Int → (List aD) → Option ((List aD))
  | 0, _, _, _ => none
  | k4 + 1, a_4, b_4, data_4 =>
    bif decide (b_4 ≤ n_4) then ((hH data_4 a_4 (w64 (a_4 + blockSize_4)) b_4 cmp_4).bind fun r3 =>
    (eB again2 n_4 cmp_4 blockSize_4 k4) b_4 (w64 (b_4 + (w64 (2 * blockSize_4)))) r3)
    else (jT again2 n_4 cmp_4 blockSize_4 a_4 data_4)

def jS (data_102 : List aD) : Option ((List aD)) :=
    some data_102

def dC (n_2 : Int) (cmp_2 : aD → aD → Option Int) : Nat → Int → (List aD) → Option ((List aD))
  | 0, _, _ => none
  | k2 + 1, blockSize_2, data_2 =>
    bif decide (blockSize_2 < n_2) then (eB (dC n_2 cmp_2 k2) n_2 cmp_2 blockSize_2 BIG 0 (w64 (2 * blockSize_2)) data_2)
    else (jS data_2)

def jR (n_100 : Int) (cmp_100 : aD → aD → Option Int) (blockSize_100 : Int) (a_100 : Int) (data_100 : List aD) : Option ((List aD)) :=
    (dM data_100 a_100 n_100 cmp_100).bind fun r2 =>
    dC n_100 cmp_100 BIG blockSize_100 r2

def eA (n_0 : Int) (cmp_0 : aD → aD → Option Int) (blockSize_0 : Int) : Nat → Int → Int → (List aD) → Option ((List aD))
  | 0, _, _, _ => none
  | k0 + 1, a_0, b_0, data_0 =>
    bif decide (b_0 ≤ n_0) then ((dM data_0 a_0 b_0 cmp_0).bind fun r1 =>
    (eA n_0 cmp_0 blockSize_0 k0) b_0 (w64 (b_0 + blockSize_0)) r1)
    else (jR n_0 cmp_0 blockSize_0 a_0 data_0)

def iC (data_0 : List aD) (n_1 : Int) (cmp_2 : aD → aD → Option Int) : Option ((List aD)) :=
    eA n_1 cmp_2 20 BIG 0 20 data_0

def eQ (x_0 : List aD) (cmp_1 : aD → aD → Option Int) : Option ((List aD)) :=
    (iC x_0 (x_0.length : Int) cmp_1).bind fun r1 =>
    some r1

def pO (a_0 : aD) (b_1 : aD) : Option Int :=
    some (w64 (a_0.Id - b_1.Id))

def lN (again0 : Int → (List aD) → Option ((List aD))) (k_102 : Int) (s_102 : List aD) : Option ((List aD)) :=
    (chk (decide (0 ≤ k_102) && decide (k_102 ≤ (s_102.length : Int)))).bind fun u9 =>
    (chk (decide (k_102.toNat ≤ s_102.length))).bind fun u10 =>
    (chk (decide (0 ≤ k_102))).bind fun u11 =>
    some (s_102.take k_102.toNat)

def eG (again0 : Int → (List aD) → Option ((List aD))) (s2_2 : Int) : Nat → Int → Int → (List aD) → Option ((List aD))
  | 0, _, _, _ => none
  | k2 + 1, k_2, k2_2, s_2 =>
    bif decide (k2_2 < ((s_2.drop s2_2.toNat).length : Int)) then ((idx (s_2.drop s2_2.toNat) k2_2).bind fun x5 =>
    (idx (s_2.drop s2_2.toNat) (w64 (k2_2 - 1))).bind fun x6 =>
    bif !decide (x5 = x6) then ((idx (s_2.drop s2_2.toNat) k2_2).bind fun x7 =>
    (idx s_2 k_2).bind fun x8 =>
    (eG again0 s2_2 k2) (w64 (k_2 + 1)) (w64 (k2_2 + 1)) (s_2.set k_2.toNat x7))
    else ((eG again0 s2_2 k2) k_2 (w64 (k2_2 + 1)) s_2))
    else (lN again0 k_2 s_2)

def lM (again0 : Int → (List aD) → Option ((List aD))) (k_101 : Int) (s_101 : List aD) : Option ((List aD)) :=
    again0 (w64 (k_101 + 1)) s_101

def lL (s_100 : List aD) : Option ((List aD)) :=
    some s_100

def dL : Nat → Int → (List aD) → Option ((List aD))
  | 0, _, _ => none
  | k0 + 1, k_0, s_0 =>
    bif decide (k_0 < (s_0.length : Int)) then ((idx s_0 k_0).bind fun x2 =>
    (idx s_0 (w64 (k_0 - 1))).bind fun x3 =>
    bif decide (x2 = x3) then ((chk (decide (0 ≤ k_0) && decide (k_0 ≤ (s_0.length : Int)))).bind fun u4 =>
    eG (dL k0) k_0 BIG k_0 1 s_0)
    else (lM (dL k0) k_0 s_0))
    else (lL s_0)

def iO (s_0 : List aD) : Option ((List aD)) :=
    bif decide ((s_0.length : Int) < 2) then (some s_0)
    else (dL BIG 1 s_0)

def vC (o7_100 : List aD) : Option ((List aD) × Bool) :=
    some (o7_100, true)

def iA (o7_0 : List aD) : Nat → Int → Option ((List aD) × Bool)
  | 0, _ => none
  | k0 + 1, i_0 =>
    bif decide (i_0 < (o7_0.length : Int)) then ((idx o7_0 i_0).bind fun x9 =>
    (idx o7_0 (w64 (i_0 - 1))).bind fun x10 =>
    bif decide (x9.Id = x10.Id) then (some (([] : List aD), false))
    else ((iA o7_0 k0) (w64 (i_0 + 1))))
    else (vC o7_0)

def oA (all_0 : List aD) : Option ((List aD) × Bool) :=
    (fD all_0).bind fun r2 =>
    (eQ r2 (fun y4 y5 => pO y4 y5)).bind fun r6 =>
    (iO r6).bind fun r7 =>
    iA r7 BIG 1

def sK (l_0 : aL) : Option Int :=
    (pK l_0).bind fun r2 =>
    bif !r2 then (some 40)
    else ((oA l_0.Reports).bind fun r3 =>
    bif !r3.2 then (some 41)
    else (some 0))

def qL (l_0 : aL) : Option ((Option cB) × Int) :=
    (sK l_0).bind fun r2 =>
    bif !decide (r2 = 0) then (some (none, r2))
    else ((oA l_0.Reports).bind fun r3 =>
    some (some (cB.mk (aL.mk l_0.Players l_0.Counts r3.1 l_0.Bans l_0.Frozen)), 0))

def pE (l_0 : aL) (player_1 : Int) (week_2 : Int) : Option ((Option cB) × Int) :=
    (qL l_0).bind fun r2 =>
    uY r2.1 (bif !decide (r2.2 = 0) then (some (none, r2.2))
    else ((eW player_1 0 (w64 (l_0.Players - 1))).bind fun r6 =>
    (bif !r6 then (some true) else ((eW week_2 0 400).bind fun r7 =>
    some (!r7))).bind fun b8 =>
    bif b8 then (some (none, 1))
    else (some (none, 0)))) fun y3 =>
    bif !decide (r2.2 = 0) then (some (none, r2.2))
    else ((eW player_1 0 (w64 (l_0.Players - 1))).bind fun r9 =>
    (bif !r9 then (some true) else ((eW week_2 0 400).bind fun r10 =>
    some (!r10))).bind fun b11 =>
    bif b11 then (some (none, 1))
    else (some (some y3, 0)))

def rU (n_100 : Int) : Option Int :=
    some n_100

def jB (week_0 : Int) (t18_0 : List bA) (t19_0 : Int) (r_0 : aD) : Nat → Int → Int → Option Int
  | 0, _, _ => none
  | k0 + 1, n_0, t20_0 =>
    bif decide (t20_0 < t19_0) then ((idx t18_0 t20_0).bind fun x2 =>
    bif decide (x2.Player = r_0.Player) then ((jB week_0 t18_0 t19_0 r_0 k0) (w64 (n_0 - (max 0 (w64 ((w64 ((min x2.To week_0) - (max x2.From (w64 (r_0.Week + 1))))) + 1))))) (w64 (t20_0 + 1)))
    else ((jB week_0 t18_0 t19_0 r_0 k0) n_0 (w64 (t20_0 + 1))))
    else (rU n_0)

def nQ (b_0 : cB) (r_1 : aD) (week_2 : Int) : Option Int :=
    jB week_2 b_0.Ledger.Frozen (b_0.Ledger.Frozen.length : Int) r_1 BIG (w64 (week_2 - r_1.Week)) 0

def rH (a_0 : bA) (c_1 : Int) (c_2 : Int) : Option Bool :=
    (bif decide (a_0.Player = c_1) then ((eW c_2 a_0.From a_0.To).bind fun r2 =>
    some r2) else (some false)).bind fun b3 =>
    some b3

def mU (all_0 : List bA) (player_1 : Int) (week_2 : Int) : Option Bool :=
    (eI all_0 (fun y3 => rH y3 player_1 week_2)).bind fun r4 =>
    some r4

def qK (out_100 : List aD) : Option ((List aD)) :=
    some out_100

def hT (b_0 : cB) (player_0 : Int) (week_0 : Int) (t14_0 : List aD) (t15_0 : Int) : Nat → Int → (List aD) → Option ((List aD))
  | 0, _, _ => none
  | k0 + 1, t16_0, out_0 =>
    bif decide (t16_0 < t15_0) then ((idx t14_0 t16_0).bind fun x2 =>
    (bif decide (x2.Player = player_0) then (some (decide (x2.Week ≤ week_0))) else (some false)).bind fun b4 =>
    (bif b4 then ((nQ b_0 x2 week_0).bind fun r5 =>
    some (decide (r5 < 52))) else (some false)).bind fun b6 =>
    (bif b6 then ((mU b_0.Ledger.Bans player_0 x2.Week).bind fun r7 =>
    some (!r7)) else (some false)).bind fun b8 =>
    bif b8 then ((app 40 out_0 ([x2])).bind fun x9 =>
    (hT b_0 player_0 week_0 t14_0 t15_0 k0) (w64 (t16_0 + 1)) x9)
    else ((hT b_0 player_0 week_0 t14_0 t15_0 k0) (w64 (t16_0 + 1)) out_0))
    else (qK out_0)

def mE (b_0 : cB) (player_1 : Int) (week_2 : Int) : Option ((List aD)) :=
    hT b_0 player_1 week_2 b_0.Ledger.Reports (b_0.Ledger.Reports.length : Int) BIG 0 ([] : List aD)

def uA (zero_100 : Int) : Option Int :=
    some zero_100

def mH (zero_0 : Int) (t6_0 : List Int) (t7_0 : Int) : Nat → Int → Option Int
  | 0, _ => none
  | k0 + 1, t8_0 =>
    bif decide (t8_0 < t7_0) then ((idx t6_0 t8_0).bind fun x1 =>
    bif !decide (x1 = zero_0) then (some x1)
    else ((mH zero_0 t6_0 t7_0 k0) (w64 (t8_0 + 1))))
    else (uA zero_0)

def qS (vals_0 : List Int) : Option Int :=
    mH 0 vals_0 (vals_0.length : Int) BIG 0

def kT (x_0 : aD) (y_1 : aD) : Option Int :=
    (bif !decide (x_0.Must = y_1.Must) then (some x_0.Must) else (some false)).bind fun b3 =>
    bif b3 then (some (-1))
    else (bif !decide (x_0.Must = y_1.Must) then (some 1)
    else ((qS ([w64 (y_1.Points - x_0.Points), w64 (x_0.Id - y_1.Id)])).bind fun r4 =>
    some r4))

def lW (b_100 : cB) (musts_100 : Int) (o10_100 : List aD) : Option ((List aD)) :=
    (sub o10_100 0 (min (o10_100.length : Int) (max musts_100 b_100.Ledger.Counts))).bind fun x8 =>
    some x8

def gE (b_0 : cB) (t14_0 : Int) (o10_0 : List aD) : Nat → Int → Int → Option ((List aD))
  | 0, _, _ => none
  | k0 + 1, musts_0, t15_0 =>
    bif decide (t15_0 < t14_0) then ((idx o10_0 t15_0).bind fun x6 =>
    bif x6.Must then ((gE b_0 t14_0 o10_0 k0) (w64 (musts_0 + 1)) (w64 (t15_0 + 1)))
    else ((gE b_0 t14_0 o10_0 k0) musts_0 (w64 (t15_0 + 1))))
    else (lW b_0 musts_0 o10_0)

def mF (b_0 : cB) (all_1 : List aD) : Option ((List aD)) :=
    (fD all_1).bind fun r1 =>
    (eQ r1 (fun y3 y4 => kT y3 y4)).bind fun r5 =>
    gE b_0 (r5.length : Int) r5 BIG 0 0

def wC (n_100 : Int) : Option Int :=
    some n_100

def oP (t5_0 : List aD) (t6_0 : Int) : Nat → Int → Int → Option Int
  | 0, _, _ => none
  | k0 + 1, n_0, t7_0 =>
    bif decide (t7_0 < t6_0) then ((idx t5_0 t7_0).bind fun x1 =>
    (oP t5_0 t6_0 k0) (w64 (n_0 + x1.Points)) (w64 (t7_0 + 1)))
    else (wC n_0)

def tD (l_0 : List aD) : Option Int :=
    oP l_0 (l_0.length : Int) BIG 0 0

def rN (x : Int) : Option Int := zK x

def fL (again0 : Int → (List bE) → Option ((List bE))) (a_101 : Int) (b_101 : Int) (cmp_101 : bE → bE → Option Int) (i_101 : Int) (data_101 : List bE) : Option ((List bE)) :=
    again0 (w64 (i_101 + 1)) data_101

def fM (again0 : Int → (List bE) → Option ((List bE))) (a_102 : Int) (b_102 : Int) (cmp_102 : bE → bE → Option Int) (i_102 : Int) (data_102 : List bE) : Option ((List bE)) :=
    fL again0 a_102 b_102 cmp_102 i_102 data_102

def cZ (again0 : Int → (List bE) → Option ((List bE))) (a_2 : Int) (b_2 : Int) (cmp_2 : bE → bE → Option Int) (i_2 : Int) : Nat → Int → (List bE) → Option ((List bE))
  | 0, _, _ => none
  | k2 + 1, j_2, data_2 =>
    (bif decide (a_2 < j_2) then ((idx data_2 j_2).bind fun x1 =>
    (idx data_2 (w64 (j_2 - 1))).bind fun x2 =>
    (cmp_2 x1 x2).bind fun r3 =>
    some (decide (r3 < 0))) else (some false)).bind fun b4 =>
    bif b4 then ((idx data_2 (w64 (j_2 - 1))).bind fun x5 =>
    (idx data_2 j_2).bind fun x6 =>
    (idx data_2 j_2).bind fun x7 =>
    (idx (data_2.set j_2.toNat x5) (w64 (j_2 - 1))).bind fun x8 =>
    (cZ again0 a_2 b_2 cmp_2 i_2 k2) (w64 (j_2 - 1)) ((data_2.set j_2.toNat x5).set (w64 (j_2 - 1)).toNat x6))
    else (fM again0 a_2 b_2 cmp_2 i_2 data_2)

def fK (data_100 : List bE) : Option ((List bE)) :=
    some data_100

def cQ (a_0 : Int) (b_0 : Int) (cmp_0 : bE → bE → Option Int) : Nat → Int → (List bE) → Option ((List bE))
  | 0, _, _ => none
  | k0 + 1, i_0, data_0 =>
    bif decide (i_0 < b_0) then (cZ (cQ a_0 b_0 cmp_0 k0) a_0 b_0 cmp_0 i_0 BIG i_0 data_0)
    else (fK data_0)

def dO (data_0 : List bE) (a_1 : Int) (b_2 : Int) (cmp_3 : bE → bE → Option Int) : Option ((List bE)) :=
    cQ a_1 b_2 cmp_3 BIG (w64 (a_1 + 1)) data_0

def gT (cmp_0 : bE → bE → Option Int) : Nat → Int → Int → Int → Bool → Bool → (List bE) → Option ((List bE))
  | 0, _, _, _, _, _, _ => none
  | k0 + 1, a_0, b_0, limit_0, wasBalanced_0, wasPartitioned_0, data_0 =>
    bif decide ((w64 (b_0 - a_0)) ≤ 12) then ((dO data_0 a_0 b_0 cmp_0).bind fun r1 =>
    some r1)
    else (none)

def iB (data_0 : List bE) (a_1 : Int) (b_2 : Int) (limit_3 : Int) (cmp_4 : bE → bE → Option Int) : Option ((List bE)) :=
    gT cmp_4 BIG a_1 b_2 limit_3 true true data_0

def iQ (x_0 : List bE) (cmp_1 : bE → bE → Option Int) : Option ((List bE)) :=
    (rN (IntKind.u64.wrap (x_0.length : Int))).bind fun r1 =>
    (iB x_0 0 (x_0.length : Int) r1 cmp_1).bind fun r2 =>
    some r2

def kU (x_0 : bE) (y_1 : bE) : Option Int :=
    (qS ([w64 (y_1.points - x_0.points), w64 (y_1.musts - x_0.musts), w64 (x_0.many - y_1.many), w64 (x_0.player - y_1.player)])).bind fun r3 =>
    some r3

def kS (again0 : Int → (List bE) → Option ((List Int))) (b_101 : cB) (week_101 : Int) (t18_101 : Int) (t19_101 : Int) (lines_101 : List bE) : Option ((List Int)) :=
    again0 (w64 (t19_101 + 1)) lines_101

def oS (again0 : Int → (List bE) → Option ((List Int))) (b_102 : cB) (week_102 : Int) (t18_102 : Int) (t19_102 : Int) (lines_102 : List bE) (x_102 : bE) : Option ((List Int)) :=
    (app 32 lines_102 ([x_102])).bind fun x10 =>
    kS again0 b_102 week_102 t18_102 t19_102 x10

def iG (again0 : Int → (List bE) → Option ((List Int))) (b_2 : cB) (week_2 : Int) (t18_2 : Int) (t19_2 : Int) (t47_2 : List aD) (t48_2 : Int) (lines_2 : List bE) : Nat → Int → bE → Option ((List Int))
  | 0, _, _ => none
  | k2 + 1, t49_2, x_2 =>
    bif decide (t49_2 < t48_2) then ((idx t47_2 t49_2).bind fun x8 =>
    bif x8.Must then ((iG again0 b_2 week_2 t18_2 t19_2 t47_2 t48_2 lines_2 k2) (w64 (t49_2 + 1)) (bE.mk x_2.player x_2.points (w64 (x_2.musts + x8.Points)) x_2.many))
    else ((iG again0 b_2 week_2 t18_2 t19_2 t47_2 t48_2 lines_2 k2) (w64 (t49_2 + 1)) x_2))
    else (oS again0 b_2 week_2 t18_2 t19_2 lines_2 x_2)

def rC (out_104 : List Int) : Option ((List Int)) :=
    some out_104

def jP (t70_4 : Int) (lines_4 : List bE) : Nat → Int → (List Int) → Option ((List Int))
  | 0, _, _ => none
  | k4 + 1, t71_4, out_4 =>
    bif decide (t71_4 < t70_4) then ((idx lines_4 t71_4).bind fun x16 =>
    (app 8 out_4 ([x16.player])).bind fun x18 =>
    (jP t70_4 lines_4 k4) (w64 (t71_4 + 1)) x18)
    else (rC out_4)

def mM (lines_100 : List bE) : Option ((List Int)) :=
    (iQ lines_100 (fun y12 y13 => kU y12 y13)).bind fun r14 =>
    jP (r14.length : Int) r14 BIG 0 ([] : List Int)

def fH (b_0 : cB) (week_0 : Int) (t18_0 : Int) : Nat → Int → (List bE) → Option ((List Int))
  | 0, _, _ => none
  | k0 + 1, t19_0, lines_0 =>
    bif decide (t19_0 < t18_0) then ((mE b_0 t19_0 week_0).bind fun r2 =>
    (mU b_0.Ledger.Bans t19_0 week_0).bind fun r3 =>
    (bif r3 then (some true) else (some (decide ((r2.length : Int) = 0)))).bind fun b4 =>
    bif b4 then (kS (fH b_0 week_0 t18_0 k0) b_0 week_0 t18_0 t19_0 lines_0)
    else ((mF b_0 r2).bind fun r5 =>
    (tD r5).bind fun r6 =>
    iG (fH b_0 week_0 t18_0 k0) b_0 week_0 t18_0 t19_0 r2 (r2.length : Int) lines_0 BIG 0 (bE.mk t19_0 r6 0 (r2.length : Int))))
    else (mM lines_0)

def gX (b_0 : cB) (week_1 : Int) : Option ((List Int)) :=
    fH b_0 week_1 b_0.Ledger.Players BIG 0 ([] : List bE)

def yW (l_0 : aL) (week_1 : Int) : Option ((List Int) × Int) :=
    (pE l_0 0 week_1).bind fun r2 =>
    uY r2.1 (bif !decide (r2.2 = 0) then (some (([] : List Int), r2.2))
    else (none)) fun y3 =>
    bif !decide (r2.2 = 0) then (some (([] : List Int), r2.2))
    else ((gX y3 week_1).bind fun r6 =>
    some (r6, 0))

def nP : Option Int :=
    some (-1)

def gB (s_0 : List Int) (f_0 : Int → Option Bool) (t7_0 : Int) : Nat → Int → Option Int
  | 0, _ => none
  | k0 + 1, t8_0 =>
    bif decide (t8_0 < t7_0) then ((idx s_0 t8_0).bind fun x1 =>
    (f_0 x1).bind fun r2 =>
    bif r2 then (some t8_0)
    else ((gB s_0 f_0 t7_0 k0) (w64 (t8_0 + 1))))
    else (nP)

def kL (s_0 : List Int) (f_1 : Int → Option Bool) : Option Int :=
    gB s_0 f_1 (s_0.length : Int) BIG 0

def gA (s_0 : List Int) (f_1 : Int → Option Bool) : Option Bool :=
    (kL s_0 f_1).bind fun r1 =>
    some (decide (0 ≤ r1))

def nF (n_0 : Int) : Option Bool :=
    (eW n_0 0 2000).bind fun r1 =>
    some (!r1)

def pZ : Option Int :=
    some (-1)

def iM (s_0 : List Int) (v_0 : Int) (t7_0 : Int) : Nat → Int → Option Int
  | 0, _ => none
  | k0 + 1, t8_0 =>
    bif decide (t8_0 < t7_0) then ((idx s_0 t8_0).bind fun x1 =>
    bif decide (v_0 = x1) then (some t8_0)
    else ((iM s_0 v_0 t7_0 k0) (w64 (t8_0 + 1))))
    else (pZ)

def nH (s_0 : List Int) (v_1 : Int) : Option Int :=
    iM s_0 v_1 (s_0.length : Int) BIG 0

def nY (b_0 : cB) (player_1 : Int) (week_2 : Int) : Option Int :=
    (gX b_0 week_2).bind fun r1 =>
    (nH r1 player_1).bind fun r2 =>
    some (w64 (r2 + 1))

def qJ (book : cB) (pl : Int) (wk : Int) (ms : Bool) (be : Int) (wo : Int) : Option (Bool × Int × Int) :=
    (nY book pl wk).bind fun r1 =>
    (bif ms then (some true) else (some (decide (r1 = 0)))).bind fun b2 =>
    some (b2, min be r1, max wo r1)

def oB (n_1 : Int) : Option ((List Int)) :=
    bif decide (n_1 < 0) then (none)
    else (bif decide (0 < (w64 (n_1 - (w64 (0 - 0))))) then ((chk (decide (0 ≤ 0))).bind fun u2 =>
    (chk (decide (0 < (w64 (n_1 - (w64 (0 - 0))))) && decide ((w64 (n_1 - (w64 (0 - 0)))) * ((8 : Nat) : Int) ≤ 140737488355328))).bind fun u3 =>
    (chk (decide (0 ≤ 0))).bind fun u5 =>
    some ([] : List Int))
    else (some ([] : List Int)))

def sO (o24_102 : List Int) : Option ((List Int)) :=
    some o24_102

def gF (t25_2 : List (List Int)) (t26_2 : Int) : Nat → Int → (List Int) → Option ((List Int))
  | 0, _, _ => none
  | k2 + 1, t27_2, o24_2 =>
    bif decide (t27_2 < t26_2) then ((idx t25_2 t27_2).bind fun x4 =>
    (app 8 o24_2 x4).bind fun x5 =>
    (gF t25_2 t26_2 k2) (w64 (t27_2 + 1)) x5)
    else (sO o24_2)

def pH (slices_100 : List (List Int)) (size_100 : Int) : Option ((List Int)) :=
    (oB size_100).bind fun r2 =>
    gF slices_100 (slices_100.length : Int) BIG 0 r2

def hZ (slices_0 : List (List Int)) (t9_0 : List (List Int)) (t10_0 : Int) : Nat → Int → Int → Option ((List Int))
  | 0, _, _ => none
  | k0 + 1, size_0, t11_0 =>
    bif decide (t11_0 < t10_0) then ((idx t9_0 t11_0).bind fun x1 =>
    bif decide ((w64 (size_0 + (x1.length : Int))) < 0) then (none)
    else ((hZ slices_0 t9_0 t10_0 k0) (w64 (size_0 + (x1.length : Int))) (w64 (t11_0 + 1))))
    else (pH slices_0 size_0)

def kV (slices_0 : List (List Int)) : Option ((List Int)) :=
    hZ slices_0 slices_0 (slices_0.length : Int) BIG 0 0

def pF (againR : cB → Int → Int → Bool → Int → Int → Int → (List Int) → (List Int) → Option (cB × Bool × Int × Int)) (many_100 : Int) (b_100 : cB) (b_100_2 : Int) (b_100_3 : Int) (b_100_4 : Bool) (b_100_5 : Int) (b_100_6 : Int) : Option (cB × Bool × Int × Int) :=
    (sub b_100.Ledger.Reports 0 many_100).bind fun x12 =>
    some ((cB.mk (aL.mk b_100.Ledger.Players b_100.Ledger.Counts x12 b_100.Ledger.Bans b_100.Ledger.Frozen)), b_100_4, b_100_5, b_100_6)

def hY (againR : cB → Int → Int → Bool → Int → Int → Int → (List Int) → (List Int) → Option (cB × Bool × Int × Int)) (week_0 : Int) (prizes_0 : List Int) (free_0 : List Int) (many_0 : Int) (t29_0 : List Int) (t30_0 : Int) (b_0_2 : Int) (b_0_3 : Int) : Nat → Int → cB → Bool → Int → Int → Option (cB × Bool × Int × Int)
  | 0, _, _, _, _, _ => none
  | k0 + 1, t31_0, b_0, b_0_4, b_0_5, b_0_6 =>
    bif decide (t31_0 < t30_0) then ((idx t29_0 t31_0).bind fun x3 =>
    (sub b_0.Ledger.Reports 0 many_0).bind fun x4 =>
    (idx prizes_0 0).bind fun x5 =>
    (app 40 x4 ([(aD.mk (w64 (100 + many_0)) x3 week_0 x5 false)])).bind fun x6 =>
    (sub prizes_0 1 (prizes_0.length : Int)).bind fun x7 =>
    (sub free_0 0 t31_0).bind fun x8 =>
    (sub free_0 (w64 (t31_0 + 1)) (free_0.length : Int)).bind fun x9 =>
    (kV ([x8, x9])).bind fun r10 =>
    (againR (cB.mk (aL.mk b_0.Ledger.Players b_0.Ledger.Counts x6 b_0.Ledger.Bans b_0.Ledger.Frozen)) b_0_2 b_0_3 b_0_4 b_0_5 b_0_6 week_0 x7 r10).bind fun r11 =>
    (hY againR week_0 prizes_0 free_0 many_0 t29_0 t30_0 b_0_2 b_0_3 k0) (w64 (t31_0 + 1)) r11.1 r11.2.1 r11.2.2.1 r11.2.2.2)
    else (pF againR many_0 b_0 b_0_2 b_0_3 b_0_4 b_0_5 b_0_6)

def eK : Nat → cB → Int → Int → Bool → Int → Int → Int → (List Int) → (List Int) → Option (cB × Bool × Int × Int)
  | 0, _, _, _, _, _, _, _, _, _ => none
  | kr + 1, book, pl, wk, ms, be, wo, week_1, prizes_2, free_3 =>
    (bif decide ((prizes_2.length : Int) = 0) then (some true) else (some (decide ((free_3.length : Int) = 0)))).bind fun b1 =>
    bif b1 then ((qJ book pl wk ms be wo).bind fun r2 =>
    some (book, r2.1, r2.2.1, r2.2.2))
    else (hY (eK kr) week_1 prizes_2 free_3 (book.Ledger.Reports.length : Int) free_3 (free_3.length : Int) pl wk BIG 0 book ms be wo)

def rB : cB → Int → Int → Bool → Int → Int → Int → (List Int) → (List Int) → Option (cB × Bool × Int × Int) := eK BIG

def rQ (prizes_100 : List Int) (player_100 : Int) (week_100 : Int) (best_100 : Int) (worst_100 : Int) (free_100 : List Int) (o19_100 : List aD) (o19_100_2 : Int) (o19_100_3 : Int) (o19_100_4 : List bA) (o19_100_5 : List bA) : Option (Int × Int × Int) :=
    (rB (cB.mk (aL.mk o19_100_2 o19_100_3 o19_100 o19_100_4 o19_100_5)) player_100 week_100 false (w64 (o19_100_2 + 1)) 0 week_100 prizes_100 free_100).bind fun r24 =>
    bif r24.2.1 then (some (0, 0, 3))
    else (some (r24.2.2.1, r24.2.2.2, 0))

def kX (prizes_0 : List Int) (t36_0 : Int) (player_0 : Int) (week_0 : Int) (best_0 : Int) (worst_0 : Int) (o19_0 : List aD) (o19_0_2 : Int) (o19_0_3 : Int) (o19_0_4 : List bA) (o19_0_5 : List bA) : Nat → Int → (List Int) → Option (Int × Int × Int)
  | 0, _, _ => none
  | k0 + 1, t37_0, free_0 =>
    bif decide (t37_0 < t36_0) then ((mU o19_0_4 t37_0 week_0).bind fun r20 =>
    bif !r20 then ((app 8 free_0 ([t37_0])).bind fun x21 =>
    (kX prizes_0 t36_0 player_0 week_0 best_0 worst_0 o19_0 o19_0_2 o19_0_3 o19_0_4 o19_0_5 k0) (w64 (t37_0 + 1)) x21)
    else ((kX prizes_0 t36_0 player_0 week_0 best_0 worst_0 o19_0 o19_0_2 o19_0_3 o19_0_4 o19_0_5 k0) (w64 (t37_0 + 1)) free_0))
    else (rQ prizes_0 player_0 week_0 best_0 worst_0 free_0 o19_0 o19_0_2 o19_0_3 o19_0_4 o19_0_5)

def mR (l_0 : aL) (player_1 : Int) (week_2 : Int) (prizes_3 : List Int) : Option (Int × Int × Int) :=
    (pE l_0 player_1 week_2).bind fun r6 =>
    uY r6.1 (bif !decide (r6.2 = 0) then (some (0, 0, r6.2))
    else ((bif decide (4 < (prizes_3.length : Int)) then (some true) else ((gA prizes_3 (fun y11 => nF y11)).bind fun r12 =>
    some r12)).bind fun b13 =>
    bif b13 then (some (0, 0, 42))
    else (none))) fun y7 =>
    bif !decide (r6.2 = 0) then (some (0, 0, r6.2))
    else ((bif decide (4 < (prizes_3.length : Int)) then (some true) else ((gA prizes_3 (fun y16 => nF y16)).bind fun r17 =>
    some r17)).bind fun b18 =>
    bif b18 then (some (0, 0, 42))
    else (kX prizes_3 y7.Ledger.Players player_1 week_2 0 0 y7.Ledger.Reports y7.Ledger.Players y7.Ledger.Counts y7.Ledger.Bans y7.Ledger.Frozen BIG 0 ([] : List Int)))

def pG (b_0 : cB) (player_1 : Int) (week_2 : Int) : Option Int :=
    (mE b_0 player_1 week_2).bind fun r1 =>
    (mF b_0 r1).bind fun r2 =>
    (tD r2).bind fun r3 =>
    some r3

def oC : Option Int :=
    some (-1)

def iP (s_0 : List aD) (f_0 : aD → Option Bool) (t7_0 : Int) : Nat → Int → Option Int
  | 0, _ => none
  | k0 + 1, t8_0 =>
    bif decide (t8_0 < t7_0) then ((idx s_0 t8_0).bind fun x1 =>
    (f_0 x1).bind fun r2 =>
    bif r2 then (some t8_0)
    else ((iP s_0 f_0 t7_0 k0) (w64 (t8_0 + 1))))
    else (oC)

def lX (s_0 : List aD) (f_1 : aD → Option Bool) : Option Int :=
    iP s_0 f_1 (s_0.length : Int) BIG 0

def nN (i_100 : Int) (s_100 : List aD) : Option ((List aD)) :=
    (chk (decide (0 ≤ i_100) && decide (i_100 ≤ (s_100.length : Int)))).bind fun u7 =>
    (chk (decide (i_100.toNat ≤ s_100.length))).bind fun u8 =>
    (chk (decide (0 ≤ i_100))).bind fun u9 =>
    some (s_100.take i_100.toNat)

def fX (del_0 : aD → Option Bool) : Nat → Int → Int → (List aD) → Option ((List aD))
  | 0, _, _, _ => none
  | k0 + 1, i_0, j_0, s_0 =>
    bif decide (j_0 < (s_0.length : Int)) then ((idx s_0 j_0).bind fun x3 =>
    (del_0 x3).bind fun r5 =>
    bif !r5 then ((idx s_0 i_0).bind fun x6 =>
    (fX del_0 k0) (w64 (i_0 + 1)) (w64 (j_0 + 1)) (s_0.set i_0.toNat x3))
    else ((fX del_0 k0) i_0 (w64 (j_0 + 1)) s_0))
    else (nN i_0 s_0)

def lO (s_0 : List aD) (del_1 : aD → Option Bool) : Option ((List aD)) :=
    (lX s_0 del_1).bind fun r2 =>
    bif decide (r2 = (-1)) then (some s_0)
    else (fX del_1 BIG r2 (w64 (r2 + 1)) s_0)

def qV (r_0 : aD) (c_1 : Int) : Option Bool :=
    some (decide (c_1 < r_0.Week))

def uZ (l_0 : aL) (player_1 : Int) (week_2 : Int) : Option (Int × Int) :=
    (pE l_0 player_1 week_2).bind fun r3 =>
    uY r3.1 (bif !decide (r3.2 = 0) then (some (0, r3.2))
    else (bif decide (400 ≤ week_2) then (some (0, 1))
    else (none))) fun y4 =>
    bif !decide (r3.2 = 0) then (some (0, r3.2))
    else (bif decide (400 ≤ week_2) then (some (0, 1))
    else ((pG y4 player_1 week_2).bind fun r7 =>
    (lO y4.Ledger.Reports (fun y8 => qV y8 week_2)).bind fun r9 =>
    (pG (cB.mk (aL.mk y4.Ledger.Players y4.Ledger.Counts r9 y4.Ledger.Bans y4.Ledger.Frozen)) player_1 (w64 (week_2 + 1))).bind fun r11 =>
    some (w64 (r7 - r11), 0)))

def rE : Option Bool :=
    some true

def lQ (a_0 : List Int) (b_0 : List Int) : Nat → Int → Option Bool
  | 0, _ => none
  | k0 + 1, i_0 =>
    bif decide (i_0 < (a_0.length : Int)) then ((idx a_0 i_0).bind fun x1 =>
    (idx b_0 i_0).bind fun x2 =>
    bif !decide (x1 = x2) then (some false)
    else ((lQ a_0 b_0 k0) (w64 (i_0 + 1))))
    else (rE)

def pP (a_0 : List Int) (b_1 : List Int) : Option Bool :=
    bif !decide ((a_0.length : Int) = (b_1.length : Int)) then (some false)
    else (lQ a_0 b_1 BIG 0)

def lF : Option Bool :=
    (qD).bind fun r1 =>
    (yW r1 40).bind fun r3 =>
    (mR r1 1 40 ([300])).bind fun r4 =>
    (uZ r1 0 61).bind fun r5 =>
    (bif decide (r3.2 = 0) then (some (decide (r4.2.2 = 0))) else (some false)).bind fun b6 =>
    (bif b6 then (some (decide (r5.2 = 0))) else (some false)).bind fun b7 =>
    (bif b7 then ((pP r3.1 ([0, 2, 1])).bind fun r8 =>
    some r8) else (some false)).bind fun b9 =>
    (bif b9 then (some (decide (r4.1 = 1))) else (some false)).bind fun b10 =>
    (bif b10 then (some (decide (r4.2.1 = 3))) else (some false)).bind fun b11 =>
    (bif b11 then (some (decide (r5.1 = 200))) else (some false)).bind fun b12 =>
    some b12

def jU (l_0 : aL) : Option aL :=
    (app 40 ([] : List aD) l_0.Reports).bind fun x4 =>
    (app 24 ([] : List bA) l_0.Bans).bind fun x5 =>
    (app 24 ([] : List bA) l_0.Frozen).bind fun x6 =>
    some (aL.mk l_0.Players l_0.Counts x4 x5 x6)

def lA (l_0 : aL) (player_1 : Int) (week_2 : Int) : Option Int :=
    (jZ l_0).bind fun r2 =>
    bif !decide (r2 = 0) then (some r2)
    else ((dZ player_1 0 (w64 (l_0.Players - 1))).bind fun r3 =>
    (bif !r3 then (some true) else ((dZ week_2 0 400).bind fun r4 =>
    some (!r4))).bind fun b5 =>
    bif b5 then (some 1)
    else (some 0))

def kZ (prizes_100 : List Int) : Option Bool :=
    some (decide ((prizes_100.length : Int) ≤ 4))

def fY (prizes_0 : List Int) : Nat → Int → Option Bool
  | 0, _ => none
  | k0 + 1, i_0 =>
    bif decide (i_0 < (prizes_0.length : Int)) then ((idx prizes_0 i_0).bind fun x1 =>
    (dZ x1 0 2000).bind fun r2 =>
    bif !r2 then (some false)
    else ((fY prizes_0 k0) (w64 (i_0 + 1))))
    else (kZ prizes_0)

def kF (prizes_0 : List Int) : Option Bool :=
    fY prizes_0 BIG 0

def qE : Option Bool :=
    some false

def iV (l_0 : List bA) (player_0 : Int) (week_0 : Int) : Nat → Int → Option Bool
  | 0, _ => none
  | k0 + 1, i_0 =>
    bif decide (i_0 < (l_0.length : Int)) then ((idx l_0 i_0).bind fun x1 =>
    (bif decide (x1.Player = player_0) then ((idx l_0 i_0).bind fun x2 =>
    (idx l_0 i_0).bind fun x3 =>
    (dZ week_0 x2.From x3.To).bind fun r4 =>
    some r4) else (some false)).bind fun b5 =>
    bif b5 then (some true)
    else ((iV l_0 player_0 week_0 k0) (w64 (i_0 + 1))))
    else (qE)

def gZ (l_0 : List bA) (player_1 : Int) (week_2 : Int) : Option Bool :=
    iV l_0 player_1 week_2 BIG 0

def nT (player_100 : Int) (week_100 : Int) (points_100 : Int) (id_100 : Int) (o8_100 : aL) (o_100 : Int) (o_100_2 : Int) (o13_100 : List aD) (o13_100_2 : List bA) (o13_100_3 : List bA) : Option aL :=
    (app 40 o13_100 ([(aD.mk id_100 player_100 week_100 points_100 false)])).bind fun x9 =>
    some (aL.mk o_100 o_100_2 x9 o13_100_2 o13_100_3)

def iX (player_0 : Int) (week_0 : Int) (points_0 : Int) (l_0 : aL) (o8_0 : aL) (o_0 : Int) (o_0_2 : Int) (o13_0 : List aD) (o13_0_2 : List bA) (o13_0_3 : List bA) : Nat → Int → Int → Option aL
  | 0, _, _ => none
  | k0 + 1, id_0, i_0 =>
    bif decide (i_0 < (l_0.Reports.length : Int)) then ((idx l_0.Reports i_0).bind fun x8 =>
    (iX player_0 week_0 points_0 l_0 o8_0 o_0 o_0_2 o13_0 o13_0_2 o13_0_3 k0) (max id_0 (w64 (x8.Id + 1))) (w64 (i_0 + 1)))
    else (nT player_0 week_0 points_0 id_0 o8_0 o_0 o_0_2 o13_0 o13_0_2 o13_0_3)

def mC (l_0 : aL) (player_1 : Int) (week_2 : Int) (points_3 : Int) : Option aL :=
    (jU l_0).bind fun r3 =>
    iX player_1 week_2 points_3 l_0 (aL.mk 0 0 ([] : List aD) ([] : List bA) ([] : List bA)) r3.Players r3.Counts r3.Reports r3.Bans r3.Frozen BIG 0 0

def mB (againR : aL → Int → (List Int) → (List Bool) → Option ((List aL))) (l_100 : aL) (out_100 : List aL) : Option ((List aL)) :=
    bif decide ((out_100.length : Int) = 0) then (some ([l_100]))
    else (some out_100)

def fU (againR : aL → Int → (List Int) → (List Bool) → Option ((List aL))) (week_0 : Int) (prizes_0 : List Int) (used_0 : List Bool) (l_0 : aL) : Nat → Int → (List aL) → Option ((List aL))
  | 0, _, _ => none
  | k0 + 1, p_0, out_0 =>
    bif decide (p_0 < l_0.Players) then ((idx used_0 p_0).bind fun x3 =>
    (bif x3 then (some true) else ((gZ l_0.Bans p_0 week_0).bind fun r4 =>
    some r4)).bind fun b5 =>
    bif b5 then ((fU againR week_0 prizes_0 used_0 l_0 k0) (w64 (p_0 + 1)) out_0)
    else ((app 1 ([] : List Bool) used_0).bind fun x7 =>
    (idx x7 p_0).bind fun x9 =>
    (idx prizes_0 0).bind fun x10 =>
    (mC l_0 p_0 week_0 x10).bind fun r11 =>
    (sub prizes_0 1 (prizes_0.length : Int)).bind fun x12 =>
    (againR r11 week_0 x12 (x7.set p_0.toNat true)).bind fun r13 =>
    (app 88 out_0 r13).bind fun x14 =>
    (fU againR week_0 prizes_0 used_0 l_0 k0) (w64 (p_0 + 1)) x14))
    else (mB againR l_0 out_0)

def eE : Nat → aL → Int → (List Int) → (List Bool) → Option ((List aL))
  | 0, _, _, _, _ => none
  | kr + 1, l_0, week_1, prizes_2, used_3 =>
    bif decide ((prizes_2.length : Int) = 0) then (some ([l_0]))
    else (fU (eE kr) week_1 prizes_2 used_3 l_0 BIG 0 ([] : List aL))

def tP : aL → Int → (List Int) → (List Bool) → Option ((List aL)) := eE BIG

def iD (again0 : (List aD) → Int → Option ((List aD))) (l_101 : List aD) (out_101 : List aD) (i_101 : Int) : Option ((List aD)) :=
    again0 out_101 (w64 (i_101 + 1))

def jX (again0 : (List aD) → Int → Option ((List aD))) (l_102 : List aD) (out_102 : List aD) (i_102 : Int) (atv_102 : Int) (known_102 : Bool) : Option ((List aD)) :=
    bif !known_102 then ((idx l_102 i_102).bind fun x6 =>
    (sub out_102 atv_102 (out_102.length : Int)).bind fun x7 =>
    (app 40 ([x6]) x7).bind fun x8 =>
    (sub out_102 0 atv_102).bind fun x10 =>
    (app 40 ([] : List aD) x10).bind fun x11 =>
    (app 40 x11 x8).bind fun x13 =>
    iD again0 l_102 x13 i_102)
    else (iD again0 l_102 out_102 i_102)

def eT (again0 : (List aD) → Int → Option ((List aD))) (l_2 : List aD) (out_2 : List aD) (i_2 : Int) : Nat → Int → Bool → Int → Option ((List aD))
  | 0, _, _, _ => none
  | k2 + 1, atv_2, known_2, k_2 =>
    bif decide (k_2 < (out_2.length : Int)) then ((bif known_2 then (some true) else ((idx out_2 k_2).bind fun x1 =>
    (idx l_2 i_2).bind fun x2 =>
    some (decide (x1 = x2)))).bind fun b3 =>
    (idx out_2 k_2).bind fun x4 =>
    (idx l_2 i_2).bind fun x5 =>
    bif decide (x4.Id ≤ x5.Id) then ((eT again0 l_2 out_2 i_2 k2) (w64 (k_2 + 1)) b3 (w64 (k_2 + 1)))
    else ((eT again0 l_2 out_2 i_2 k2) atv_2 b3 (w64 (k_2 + 1))))
    else (jX again0 l_2 out_2 i_2 atv_2 known_2)

def oH (out_100 : List aD) : Option ((List aD)) :=
    some out_100

def eS (l_0 : List aD) : Nat → (List aD) → Int → Option ((List aD))
  | 0, _, _ => none
  | k0 + 1, out_0, i_0 =>
    bif decide (i_0 < (l_0.length : Int)) then (eT (eS l_0 k0) l_0 out_0 i_0 BIG 0 false 0)
    else (oH out_0)

def iI (l_0 : List aD) : Option ((List aD)) :=
    eS l_0 BIG ([] : List aD) 0

def qY (n_100 : Int) : Option Int :=
    some n_100

def iE (week_0 : Int) (l_0 : aL) (r_0 : aD) : Nat → Int → Int → Option Int
  | 0, _, _ => none
  | k0 + 1, n_0, w_0 =>
    bif decide (w_0 ≤ week_0) then ((gZ l_0.Frozen r_0.Player w_0).bind fun r3 =>
    bif !r3 then ((iE week_0 l_0 r_0 k0) (w64 (n_0 + 1)) (w64 (w_0 + 1)))
    else ((iE week_0 l_0 r_0 k0) n_0 (w64 (w_0 + 1))))
    else (qY n_0)

def mW (l_0 : aL) (r_1 : aD) (week_2 : Int) : Option Int :=
    iE week_2 l_0 r_1 BIG 0 (w64 (r_1.Week + 1))

def oG (out_100 : List aD) : Option ((List aD)) :=
    some out_100

def eR (player_0 : Int) (week_0 : Int) (allv_0 : List aD) (l_0 : aL) : Nat → Int → (List aD) → Option ((List aD))
  | 0, _, _ => none
  | k0 + 1, i_0, out_0 =>
    bif decide (i_0 < (allv_0.length : Int)) then ((idx allv_0 i_0).bind fun x4 =>
    (bif decide (x4.Player = player_0) then (some (decide (x4.Week ≤ week_0))) else (some false)).bind fun b6 =>
    (bif b6 then ((mW l_0 x4 week_0).bind fun r7 =>
    some (decide (r7 < 52))) else (some false)).bind fun b8 =>
    (bif b8 then ((gZ l_0.Bans player_0 x4.Week).bind fun r9 =>
    some (!r9)) else (some false)).bind fun b10 =>
    bif b10 then ((app 40 out_0 ([x4])).bind fun x11 =>
    (eR player_0 week_0 allv_0 l_0 k0) (w64 (i_0 + 1)) x11)
    else ((eR player_0 week_0 allv_0 l_0 k0) (w64 (i_0 + 1)) out_0))
    else (oG out_0)

def gO (l_0 : aL) (player_1 : Int) (week_2 : Int) : Option ((List aD)) :=
    (iI l_0.Reports).bind fun r3 =>
    eR player_1 week_2 r3 l_0 BIG 0 ([] : List aD)

def mK (l_0 : aL) (player_1 : Int) (week_2 : Int) : Option Bool :=
    (gZ l_0.Bans player_1 week_2).bind fun r2 =>
    (bif !r2 then ((gO l_0 player_1 week_2).bind fun r3 =>
    some (decide (0 < (r3.length : Int)))) else (some false)).bind fun b4 =>
    some b4

def lD (again2 : Int → (List aD) → Option ((List aD))) (allv_103 : List aD) (must_103 : Int) (i_103 : Int) (l_103 : aL) (out_103 : List aD) : Option ((List aD)) :=
    again2 (w64 (i_103 + 1)) out_103

def nK (again2 : Int → (List aD) → Option ((List aD))) (allv_104 : List aD) (must_104 : Int) (i_104 : Int) (better_104 : Int) (l_104 : aL) (out_104 : List aD) : Option ((List aD)) :=
    (idx allv_104 i_104).bind fun x13 =>
    (bif x13.Must then (some true) else (some (decide (better_104 < (w64 (l_104.Counts - must_104)))))).bind fun b14 =>
    bif b14 then ((idx allv_104 i_104).bind fun x15 =>
    (app 40 out_104 ([x15])).bind fun x16 =>
    lD again2 allv_104 must_104 i_104 l_104 x16)
    else (lD again2 allv_104 must_104 i_104 l_104 out_104)

def gP (again2 : Int → (List aD) → Option ((List aD))) (allv_4 : List aD) (must_4 : Int) (i_4 : Int) (l_4 : aL) (out_4 : List aD) : Nat → Int → Int → Option ((List aD))
  | 0, _, _ => none
  | k4 + 1, better_4, k_4 =>
    bif decide (k_4 < (allv_4.length : Int)) then ((idx allv_4 k_4).bind fun x5 =>
    (bif !x5.Must then ((idx allv_4 k_4).bind fun x6 =>
    (idx allv_4 i_4).bind fun x7 =>
    (bif decide (x7.Points < x6.Points) then (some true) else ((idx allv_4 k_4).bind fun x8 =>
    (idx allv_4 i_4).bind fun x9 =>
    (bif decide (x8.Points = x9.Points) then (some (decide (k_4 < i_4))) else (some false)).bind fun b10 =>
    some b10)).bind fun b11 =>
    some b11) else (some false)).bind fun b12 =>
    bif b12 then ((gP again2 allv_4 must_4 i_4 l_4 out_4 k4) (w64 (better_4 + 1)) (w64 (k_4 + 1)))
    else ((gP again2 allv_4 must_4 i_4 l_4 out_4 k4) better_4 (w64 (k_4 + 1))))
    else (nK again2 allv_4 must_4 i_4 better_4 l_4 out_4)

def pW (out_102 : List aD) : Option ((List aD)) :=
    some out_102

def fB (allv_2 : List aD) (must_2 : Int) (l_2 : aL) : Nat → Int → (List aD) → Option ((List aD))
  | 0, _, _ => none
  | k2 + 1, i_2, out_2 =>
    bif decide (i_2 < (allv_2.length : Int)) then (gP (fB allv_2 must_2 l_2 k2) allv_2 must_2 i_2 l_2 out_2 BIG 0 0)
    else (pW out_2)

def nJ (allv_100 : List aD) (must_100 : Int) (l_100 : aL) : Option ((List aD)) :=
    fB allv_100 must_100 l_100 BIG 0 ([] : List aD)

def fS (allv_0 : List aD) (l_0 : aL) : Nat → Int → Int → Option ((List aD))
  | 0, _, _ => none
  | k0 + 1, must_0, i_0 =>
    bif decide (i_0 < (allv_0.length : Int)) then ((idx allv_0 i_0).bind fun x3 =>
    bif x3.Must then ((fS allv_0 l_0 k0) (w64 (must_0 + 1)) (w64 (i_0 + 1)))
    else ((fS allv_0 l_0 k0) must_0 (w64 (i_0 + 1))))
    else (nJ allv_0 must_0 l_0)

def nB (l_0 : aL) (player_1 : Int) (week_2 : Int) : Option ((List aD)) :=
    (gO l_0 player_1 week_2).bind fun r2 =>
    fS r2 l_0 BIG 0 0

def oY (sum_100 : Int) (must_100 : Int) : Option (Int × Int) :=
    some (sum_100, must_100)

def gD (allv_0 : List aD) : Nat → Int → Int → Int → Option (Int × Int)
  | 0, _, _, _ => none
  | k0 + 1, sum_0, must_0, i_0 =>
    bif decide (i_0 < (allv_0.length : Int)) then ((idx allv_0 i_0).bind fun x3 =>
    (idx allv_0 i_0).bind fun x4 =>
    bif x4.Must then ((idx allv_0 i_0).bind fun x5 =>
    (gD allv_0 k0) (w64 (sum_0 + x3.Points)) (w64 (must_0 + x5.Points)) (w64 (i_0 + 1)))
    else ((gD allv_0 k0) (w64 (sum_0 + x3.Points)) must_0 (w64 (i_0 + 1))))
    else (oY sum_0 must_0)

def kQ (l_0 : aL) (player_1 : Int) (week_2 : Int) : Option (Int × Int) :=
    (nB l_0 player_1 week_2).bind fun r2 =>
    gD r2 BIG 0 0 0

def mL (l_0 : aL) (a_1 : Int) (b_2 : Int) (week_3 : Int) : Option Bool :=
    (kQ l_0 a_1 week_3).bind fun r2 =>
    (kQ l_0 b_2 week_3).bind fun r3 =>
    bif !decide (r2.1 = r3.1) then (some (decide (r3.1 < r2.1)))
    else (bif !decide (r2.2 = r3.2) then (some (decide (r3.2 < r2.2)))
    else ((gO l_0 a_1 week_3).bind fun r4 =>
    (gO l_0 b_2 week_3).bind fun r5 =>
    bif !decide ((r4.length : Int) = (r5.length : Int)) then (some (decide ((r4.length : Int) < (r5.length : Int))))
    else (some (decide (a_1 < b_2)))))

def iY (again0 : (List Int) → Int → Option ((List Int))) (week_101 : Int) (out_101 : List Int) (p_101 : Int) (l_101 : aL) : Option ((List Int)) :=
    again0 out_101 (w64 (p_101 + 1))

def nU (again0 : (List Int) → Int → Option ((List Int))) (week_102 : Int) (out_102 : List Int) (p_102 : Int) (atv_102 : Int) (l_102 : aL) : Option ((List Int)) :=
    (sub out_102 atv_102 (out_102.length : Int)).bind fun x6 =>
    (app 8 ([p_102]) x6).bind fun x7 =>
    (sub out_102 0 atv_102).bind fun x9 =>
    (app 8 ([] : List Int) x9).bind fun x10 =>
    (app 8 x10 x7).bind fun x12 =>
    iY again0 week_102 x12 p_102 l_102

def hJ (again0 : (List Int) → Int → Option ((List Int))) (week_2 : Int) (out_2 : List Int) (p_2 : Int) (l_2 : aL) : Nat → Int → Option ((List Int))
  | 0, _ => none
  | k2 + 1, atv_2 =>
    (bif decide (atv_2 < (out_2.length : Int)) then ((idx out_2 atv_2).bind fun x3 =>
    (mL l_2 x3 p_2 week_2).bind fun r4 =>
    some r4) else (some false)).bind fun b5 =>
    bif b5 then ((hJ again0 week_2 out_2 p_2 l_2 k2) (w64 (atv_2 + 1)))
    else (nU again0 week_2 out_2 p_2 atv_2 l_2)

def qG (out_100 : List Int) : Option ((List Int)) :=
    some out_100

def fP (week_0 : Int) (l_0 : aL) : Nat → (List Int) → Int → Option ((List Int))
  | 0, _, _ => none
  | k0 + 1, out_0, p_0 =>
    bif decide (p_0 < l_0.Players) then ((mK l_0 p_0 week_0).bind fun r2 =>
    bif !r2 then (iY (fP week_0 l_0 k0) week_0 out_0 p_0 l_0)
    else (hJ (fP week_0 l_0 k0) week_0 out_0 p_0 l_0 BIG 0))
    else (qG out_0)

def mD (l_0 : aL) (week_1 : Int) : Option ((List Int)) :=
    fP week_1 l_0 BIG ([] : List Int) 0

def pT : Option Int :=
    some 0

def fR (player_0 : Int) (allv_0 : List Int) : Nat → Int → Option Int
  | 0, _ => none
  | k0 + 1, i_0 =>
    bif decide (i_0 < (allv_0.length : Int)) then ((idx allv_0 i_0).bind fun x3 =>
    bif decide (x3 = player_0) then (some (w64 (i_0 + 1)))
    else ((fR player_0 allv_0 k0) (w64 (i_0 + 1))))
    else (pT)

def gK (l_0 : aL) (player_1 : Int) (week_2 : Int) : Option Int :=
    (mD l_0 week_2).bind fun r2 =>
    fR player_1 r2 BIG 0

def sT (best_100 : Int) (worst_100 : Int) : Option (Int × Int × Int) :=
    some (best_100, worst_100, 0)

def fQ (player_0 : Int) (week_0 : Int) (allv_0 : List aL) : Nat → Int → Int → Int → Option (Int × Int × Int)
  | 0, _, _, _ => none
  | k0 + 1, best_0, worst_0, i_0 =>
    bif decide (i_0 < (allv_0.length : Int)) then ((idx allv_0 i_0).bind fun x7 =>
    (gK x7 player_0 week_0).bind fun r8 =>
    bif decide (r8 = 0) then (some (0, 0, 3))
    else ((bif decide (best_0 = 0) then (some true) else (some (decide (r8 < best_0)))).bind fun b9 =>
    bif b9 then ((fQ player_0 week_0 allv_0 k0) r8 (max worst_0 r8) (w64 (i_0 + 1)))
    else ((fQ player_0 week_0 allv_0 k0) best_0 (max worst_0 r8) (w64 (i_0 + 1)))))
    else (sT best_0 worst_0)

def iW (l_0 : aL) (player_1 : Int) (week_2 : Int) (prizes_3 : List Int) : Option (Int × Int × Int) :=
    (lA l_0 player_1 week_2).bind fun r2 =>
    bif !decide (r2 = 0) then (some (0, 0, r2))
    else ((kF prizes_3).bind fun r3 =>
    bif !r3 then (some (0, 0, 42))
    else ((mk 1 l_0.Players false).bind fun x4 =>
    (tP l_0 week_2 prizes_3 x4).bind fun r6 =>
    fQ player_1 week_2 r6 BIG 0 0 0))

def mQ (l_0 : aL) (x_1 : pI) (prizes_2 : List Int) : Option Bool :=
    (gV l_0).bind fun r3 =>
    (bif r3 then (some true) else ((nS x_1.Week).bind fun r4 =>
    some r4)).bind fun b5 =>
    (bif b5 then (some true) else (some (decide (20 < (prizes_2.length : Int))))).bind fun b6 =>
    (bif b6 then (some true) else ((bif decide (2 < (prizes_2.length : Int)) then (some (decide ((prizes_2.length : Int) ≤ 4))) else (some false)).bind fun b7 =>
    some b7)).bind fun b8 =>
    (bif b8 then (some true) else ((bif decide (4 < l_0.Players) then ((jZ l_0).bind fun r9 =>
    some (decide (r9 = 0))) else (some false)).bind fun b10 =>
    some b10)).bind fun b11 =>
    bif b11 then ((lF).bind fun r12 =>
    some r12)
    else ((jU l_0).bind fun r13 =>
    (app 8 ([] : List Int) prizes_2).bind fun x14 =>
    (mR r13 x_1.Player x_1.Week x14).bind fun r15 =>
    (iW l_0 x_1.Player x_1.Week prizes_2).bind fun r16 =>
    (bif decide (r15.1 = r16.1) then (some (decide (r15.2.1 = r16.2.1))) else (some false)).bind fun b17 =>
    (bif b17 then (some (decide (r15.2.2 = r16.2.2))) else (some false)).bind fun b18 =>
    (bif b18 then ((lF).bind fun r19 =>
    some r19) else (some false)).bind fun b20 =>
    some b20)

end Go.Am
