/- Shallow functions, printed by program. -/
import Derived.Test.YtaocljlhapoieaaAmFull
import Derived.Test.YtaocljlhapoieaaAmPrim
import Derived.Test.YtaocljlhapoieaaAmSort
namespace Go.Am

structure aZ where
  Player : Int
  From : Int
  To : Int
  deriving DecidableEq, Inhabited
def aK (x : aZ) : List D := [.lit (.int .i64 x.Player), .lit (.int .i64 x.From), .lit (.int .i64 x.To)]

def yZ (x : List aZ) : List D := [.sl 3 (x.map aK)]

structure aC where
  Id : Int
  Player : Int
  Week : Int
  Points : Int
  Must : Bool
  deriving DecidableEq, Inhabited
def aB (x : aC) : List D := [.lit (.int .i64 x.Id), .lit (.int .i64 x.Player), .lit (.int .i64 x.Week), .lit (.int .i64 x.Points), .lit (.bool x.Must)]

def zL (x : List aC) : List D := [.sl 5 (x.map aB)]

structure aP where
  Players : Int
  Counts : Int
  Reports : List aC
  Bans : List aZ
  Frozen : List aZ
  deriving DecidableEq, Inhabited
def aV (x : aP) : List D := [.lit (.int .i64 x.Players), .lit (.int .i64 x.Counts), .sl 5 (x.Reports.map aB), .sl 3 (x.Bans.map aK), .sl 3 (x.Frozen.map aK)]

structure bY where
  Ledger : aP
  deriving DecidableEq, Inhabited
def cH (x : bY) : List D := [.lit (.int .i64 x.Ledger.Players), .lit (.int .i64 x.Ledger.Counts), .sl 5 (x.Ledger.Reports.map aB), .sl 3 (x.Ledger.Bans.map aK), .sl 3 (x.Ledger.Frozen.map aK)]

def qS (x : List Int) : List D := [.sl 1 (x.map cB)]

structure bD where
  player : Int
  points : Int
  musts : Int
  many : Int
  deriving DecidableEq, Inhabited
def bN (x : bD) : List D := [.lit (.int .i64 x.player), .lit (.int .i64 x.points), .lit (.int .i64 x.musts), .lit (.int .i64 x.many)]

structure kC where
  Player : Int
  Week : Int
  Id : Int
  deriving DecidableEq, Inhabited
def nR (x : kC) : List D := [.lit (.int .i64 x.Player), .lit (.int .i64 x.Week), .lit (.int .i64 x.Id)]

def uX (x : aC) : Prop := okI x.Id ∧ okI x.Player ∧ okI x.Week ∧ okI x.Points ∧ okB x.Must

def qX (x : aZ) : Prop := okI x.Player ∧ okI x.From ∧ okI x.To

def yN (x : aP) : Prop := okI x.Players ∧ okI x.Counts ∧ (okL uX) x.Reports ∧ (okL qX) x.Bans ∧ (okL qX) x.Frozen

def uP (x : kC) : Prop := okI x.Player ∧ okI x.Week ∧ okI x.Id

def eK (n_0 : Int) (low_1 : Int) (high_2 : Int) : Option Bool :=
    (bif decide (low_1 ≤ n_0) then (some (decide (n_0 ≤ high_2))) else (some false)).bind fun b1 =>
    some b1

def mK (l_100 : List aZ) : Option Bool :=
    some (decide ((l_100.length : Int) ≤ 8))

def fN (players_0 : Int) (l_0 : List aZ) : Nat → Int → Option Bool
  | 0, _ => none
  | k0 + 1, i_0 =>
    bif decide (i_0 < (l_0.length : Int)) then ((idx l_0 i_0).bind fun x1 =>
    (eK x1.Player 0 (w64 (players_0 - 1))).bind fun r2 =>
    (bif !r2 then (some true) else ((idx l_0 i_0).bind fun x3 =>
    some (decide (x3.From < 0)))).bind fun b4 =>
    (bif b4 then (some true) else ((idx l_0 i_0).bind fun x5 =>
    (idx l_0 i_0).bind fun x6 =>
    some (decide (x6.To < x5.From)))).bind fun b7 =>
    (bif b7 then (some true) else ((idx l_0 i_0).bind fun x8 =>
    some (decide (400 < x8.To)))).bind fun b9 =>
    bif b9 then (some false)
    else ((fN players_0 l_0 k0) (w64 (i_0 + 1))))
    else (mK l_0)

def iL (players_0 : Int) (l_1 : List aZ) : Option Bool :=
    fN players_0 l_1 BIG 0

def kJ (players_0 : Int) (r_1 : aC) : Option Bool :=
    (eK r_1.Id 0 99).bind fun r2 =>
    (bif r2 then ((eK r_1.Player 0 (w64 (players_0 - 1))).bind fun r3 =>
    some r3) else (some false)).bind fun b4 =>
    (bif b4 then ((eK r_1.Week 0 400).bind fun r5 =>
    some r5) else (some false)).bind fun b6 =>
    (bif b6 then ((eK r_1.Points 0 2000).bind fun r7 =>
    some r7) else (some false)).bind fun b8 =>
    some b8

def nD (again2 : Int → Option Bool) (i_103 : Int) (l_103 : aP) : Option Bool :=
    again2 (w64 (i_103 + 1))

def nE (again2 : Int → Option Bool) (i_104 : Int) (l_104 : aP) : Option Bool :=
    nD again2 i_104 l_104

def fW (again2 : Int → Option Bool) (i_4 : Int) (l_4 : aP) : Nat → Int → Option Bool
  | 0, _ => none
  | k4 + 1, k_4 =>
    bif decide (k_4 < i_4) then ((idx l_4.Frozen i_4).bind fun x12 =>
    (idx l_4.Frozen k_4).bind fun x13 =>
    (bif decide (x12.Player = x13.Player) then (some (decide (x12.From ≤ x13.To))) else (some false)).bind fun b16 =>
    (bif b16 then (some (decide (x13.From ≤ x12.To))) else (some false)).bind fun b17 =>
    bif b17 then (some false)
    else ((fW again2 i_4 l_4 k4) (w64 (k_4 + 1))))
    else (nE again2 i_4 l_4)

def nC : Option Bool :=
    some true

def dY (l_2 : aP) : Nat → Int → Option Bool
  | 0, _ => none
  | k2 + 1, i_2 =>
    bif decide (i_2 < (l_2.Frozen.length : Int)) then (fW (dY l_2 k2) i_2 l_2 BIG 0)
    else (nC)

def nB (l_100 : aP) : Option Bool :=
    dY l_100 BIG 0

def fG (l_0 : aP) : Nat → Int → Option Bool
  | 0, _ => none
  | k0 + 1, i_0 =>
    bif decide (i_0 < (l_0.Reports.length : Int)) then ((idx l_0.Reports i_0).bind fun x10 =>
    (kJ l_0.Players x10).bind fun r11 =>
    bif !r11 then (some false)
    else ((fG l_0 k0) (w64 (i_0 + 1))))
    else (nB l_0)

def kI (l_0 : aP) : Option Bool :=
    (eK l_0.Players 1 16).bind fun r2 =>
    (bif !r2 then (some true) else ((eK l_0.Counts 1 20).bind fun r3 =>
    some (!r3))).bind fun b4 =>
    (bif b4 then (some true) else (some (decide (40 < (l_0.Reports.length : Int))))).bind fun b5 =>
    (bif b5 then (some true) else ((iL l_0.Players l_0.Bans).bind fun r6 =>
    some (!r6))).bind fun b7 =>
    (bif b7 then (some true) else ((iL l_0.Players l_0.Frozen).bind fun r8 =>
    some (!r8))).bind fun b9 =>
    bif b9 then (some false)
    else (fG l_0 BIG 0)

def oJ (again0 : Int → Option Bool) (l_101 : List aC) (i_101 : Int) : Option Bool :=
    again0 (w64 (i_101 + 1))

def oK (again0 : Int → Option Bool) (l_102 : List aC) (i_102 : Int) : Option Bool :=
    oJ again0 l_102 i_102

def gS (again0 : Int → Option Bool) (l_2 : List aC) (i_2 : Int) : Nat → Int → Option Bool
  | 0, _ => none
  | k2 + 1, k_2 =>
    bif decide (k_2 < i_2) then ((idx l_2 i_2).bind fun x1 =>
    (idx l_2 k_2).bind fun x2 =>
    (bif decide (x1.Id = x2.Id) then ((idx l_2 i_2).bind fun x3 =>
    (idx l_2 k_2).bind fun x4 =>
    some (!decide (x3 = x4))) else (some false)).bind fun b5 =>
    bif b5 then (some true)
    else ((gS again0 l_2 i_2 k2) (w64 (k_2 + 1))))
    else (oK again0 l_2 i_2)

def oI : Option Bool :=
    some false

def eS (l_0 : List aC) : Nat → Int → Option Bool
  | 0, _ => none
  | k0 + 1, i_0 =>
    bif decide (i_0 < (l_0.length : Int)) then (gS (eS l_0 k0) l_0 i_0 BIG 0)
    else (oI)

def mB (l_0 : List aC) : Option Bool :=
    eS l_0 BIG 0

def jH (l_0 : aP) : Option Int :=
    (kI l_0).bind fun r2 =>
    bif !r2 then (some 40)
    else ((mB l_0.Reports).bind fun r3 =>
    bif r3 then (some 41)
    else (some 0))

def jY (l_100 : aP) : Option Bool :=
    (bif decide (5 < l_100.Players) then (some true) else (some (decide (10 < (l_100.Reports.length : Int))))).bind fun b6 =>
    some b6

def fL (l_0 : aP) : Nat → Int → Option Bool
  | 0, _ => none
  | k0 + 1, i_0 =>
    bif decide (i_0 < (l_0.Reports.length : Int)) then ((idx l_0.Reports i_0).bind fun x5 =>
    bif decide (150 < x5.Week) then (some true)
    else ((fL l_0 k0) (w64 (i_0 + 1))))
    else (jY l_0)

def iK (l_0 : aP) : Option Bool :=
    (bif decide (60 < (l_0.Reports.length : Int)) then (some true) else (some (decide (20 < (l_0.Bans.length : Int))))).bind fun b2 =>
    (bif b2 then (some true) else (some (decide (20 < (l_0.Frozen.length : Int))))).bind fun b3 =>
    bif b3 then (some true)
    else ((jH l_0).bind fun r4 =>
    bif !decide (r4 = 0) then (some false)
    else (fL l_0 BIG 0))

def oW : Option aP :=
    some (aP.mk 3 2 ([(aC.mk 1 0 10 500 false), (aC.mk 2 0 20 300 false), (aC.mk 3 0 30 100 true), (aC.mk 4 1 12 400 false), (aC.mk 5 1 40 200 false), (aC.mk 6 2 15 600 false)]) ([(aZ.mk 1 50 55)]) ([(aZ.mk 2 20 29)]))

def eO (n_0 : Int) (low_1 : Int) (high_2 : Int) : Option Bool :=
    (bif decide (low_1 ≤ n_0) then (some (decide (n_0 ≤ high_2))) else (some false)).bind fun b1 =>
    some b1

def jR : Option Int :=
    some (-1)

def eD (s_0 : List aZ) (f_0 : aZ → Option Bool) (t7_0 : Int) : Nat → Int → Option Int
  | 0, _ => none
  | k0 + 1, t8_0 =>
    bif decide (t8_0 < t7_0) then ((idx s_0 t8_0).bind fun x1 =>
    (f_0 x1).bind fun r2 =>
    bif r2 then (some t8_0)
    else ((eD s_0 f_0 t7_0 k0) (w64 (t8_0 + 1))))
    else (jR)

def gF (s_0 : List aZ) (f_1 : aZ → Option Bool) : Option Int :=
    eD s_0 f_1 (s_0.length : Int) BIG 0

def eC (s_0 : List aZ) (f_1 : aZ → Option Bool) : Option Bool :=
    (gF s_0 f_1).bind fun r1 =>
    some (decide (0 ≤ r1))

def mF (a_0 : aZ) (c_1 : aP) : Option Bool :=
    (eO a_0.Player 0 (w64 (c_1.Players - 1))).bind fun r2 =>
    (bif !r2 then (some true) else (some (decide (a_0.To < a_0.From)))).bind fun b3 =>
    (bif b3 then (some true) else ((eO a_0.From 0 400).bind fun r4 =>
    some (!r4))).bind fun b5 =>
    (bif b5 then (some true) else ((eO a_0.To 0 400).bind fun r6 =>
    some (!r6))).bind fun b7 =>
    some b7

def lY (l_0 : aP) (all_1 : List aZ) : Option Bool :=
    (bif decide ((all_1.length : Int) ≤ 8) then ((eC all_1 (fun y2 => mF y2 l_0)).bind fun r3 =>
    some (!r3)) else (some false)).bind fun b4 =>
    some b4

def mT (b_0 : aZ) (c_1 : aZ) : Option Bool :=
    (bif decide (c_1.Player = b_0.Player) then (some (decide (c_1.From ≤ b_0.To))) else (some false)).bind fun b2 =>
    (bif b2 then (some (decide (b_0.From ≤ c_1.To))) else (some false)).bind fun b3 =>
    some b3

def qQ : Option Bool :=
    some true

def iF (t69_2 : List aZ) (t70_2 : Int) (l_2 : aP) : Nat → Int → Option Bool
  | 0, _ => none
  | k2 + 1, t71_2 =>
    bif decide (t71_2 < t70_2) then ((idx t69_2 t71_2).bind fun x18 =>
    (sub l_2.Frozen 0 t71_2).bind fun x20 =>
    (eC x20 (fun y21 => mT y21 x18)).bind fun r22 =>
    bif r22 then (some false)
    else ((iF t69_2 t70_2 l_2 k2) (w64 (t71_2 + 1))))
    else (qQ)

def qP (l_100 : aP) : Option Bool :=
    (lY l_100 l_100.Bans).bind fun r15 =>
    (bif !r15 then (some true) else ((lY l_100 l_100.Frozen).bind fun r16 =>
    some (!r16))).bind fun b17 =>
    bif b17 then (some false)
    else (iF l_100.Frozen (l_100.Frozen.length : Int) l_100 BIG 0)

def iE (t24_0 : List aC) (t25_0 : Int) (l_0 : aP) : Nat → Int → Option Bool
  | 0, _ => none
  | k0 + 1, t26_0 =>
    bif decide (t26_0 < t25_0) then ((idx t24_0 t26_0).bind fun x6 =>
    (eO x6.Id 0 99).bind fun r8 =>
    (bif !r8 then (some true) else ((eO x6.Player 0 (w64 (l_0.Players - 1))).bind fun r9 =>
    some (!r9))).bind fun b10 =>
    (bif b10 then (some true) else ((eO x6.Week 0 400).bind fun r11 =>
    some (!r11))).bind fun b12 =>
    (bif b12 then (some true) else ((eO x6.Points 0 2000).bind fun r13 =>
    some (!r13))).bind fun b14 =>
    bif b14 then (some false)
    else ((iE t24_0 t25_0 l_0 k0) (w64 (t26_0 + 1))))
    else (qP l_0)

def oC (l_0 : aP) : Option Bool :=
    (eO l_0.Players 1 16).bind fun r2 =>
    (bif !r2 then (some true) else ((eO l_0.Counts 1 20).bind fun r3 =>
    some (!r3))).bind fun b4 =>
    (bif b4 then (some true) else (some (decide (40 < (l_0.Reports.length : Int))))).bind fun b5 =>
    bif b5 then (some false)
    else (iE l_0.Reports (l_0.Reports.length : Int) l_0 BIG 0)

def eW (s_0 : List aC) : Option ((List aC)) :=
    (app 40 ([] : List aC) s_0).bind fun x5 =>
    some x5

def eZ (again0 : Int → (List aC) → Option ((List aC))) (a_101 : Int) (b_101 : Int) (cmp_101 : aC → aC → Option Int) (i_101 : Int) (data_101 : List aC) : Option ((List aC)) :=
    again0 (w64 (i_101 + 1)) data_101

def fA (again0 : Int → (List aC) → Option ((List aC))) (a_102 : Int) (b_102 : Int) (cmp_102 : aC → aC → Option Int) (i_102 : Int) (data_102 : List aC) : Option ((List aC)) :=
    eZ again0 a_102 b_102 cmp_102 i_102 data_102

def cV (again0 : Int → (List aC) → Option ((List aC))) (a_2 : Int) (b_2 : Int) (cmp_2 : aC → aC → Option Int) (i_2 : Int) : Nat → Int → (List aC) → Option ((List aC))
  | 0, _, _ => none
  | k2 + 1, j_2, data_2 =>
    (bif decide (a_2 < j_2) then ((idx data_2 j_2).bind fun x1 =>
    (idx data_2 (w64 (j_2 - 1))).bind fun x2 =>
    (cmp_2 x1 x2).bind fun r3 =>
    some (decide (r3 < 0))) else (some false)).bind fun b4 =>
    bif b4 then ((idx data_2 (w64 (j_2 - 1))).bind fun x5 =>
    (idx data_2 j_2).bind fun x6 =>
    (idx data_2 j_2).bind fun x7 =>
    (idx (data_2.set j_2.toNat x5) (w64 (j_2 - 1))).bind fun x8 =>
    (cV again0 a_2 b_2 cmp_2 i_2 k2) (w64 (j_2 - 1)) ((data_2.set j_2.toNat x5).set (w64 (j_2 - 1)).toNat x6))
    else (fA again0 a_2 b_2 cmp_2 i_2 data_2)

def eY (data_100 : List aC) : Option ((List aC)) :=
    some data_100

def cJ (a_0 : Int) (b_0 : Int) (cmp_0 : aC → aC → Option Int) : Nat → Int → (List aC) → Option ((List aC))
  | 0, _, _ => none
  | k0 + 1, i_0, data_0 =>
    bif decide (i_0 < b_0) then (cV (cJ a_0 b_0 cmp_0 k0) a_0 b_0 cmp_0 i_0 BIG i_0 data_0)
    else (eY data_0)

def dG (data_0 : List aC) (a_1 : Int) (b_2 : Int) (cmp_3 : aC → aC → Option Int) : Option ((List aC)) :=
    cJ a_1 b_2 cmp_3 BIG (w64 (a_1 + 1)) data_0

def hJ (data_100 : List aC) : Option ((List aC)) :=
    some data_100

def dJ (a_0 : Int) (b_0 : Int) (n_0 : Int) : Nat → Int → (List aC) → Option ((List aC))
  | 0, _, _ => none
  | k0 + 1, i_0, data_0 =>
    bif decide (i_0 < n_0) then ((idx data_0 (w64 (b_0 + i_0))).bind fun x1 =>
    (idx data_0 (w64 (a_0 + i_0))).bind fun x2 =>
    (idx data_0 (w64 (a_0 + i_0))).bind fun x3 =>
    (idx (data_0.set (w64 (a_0 + i_0)).toNat x1) (w64 (b_0 + i_0))).bind fun x4 =>
    (dJ a_0 b_0 n_0 k0) (w64 (i_0 + 1)) ((data_0.set (w64 (a_0 + i_0)).toNat x1).set (w64 (b_0 + i_0)).toNat x2))
    else (hJ data_0)

def dT (data_0 : List aC) (a_1 : Int) (b_2 : Int) (n_3 : Int) (cmp_4 : aC → aC → Option Int) : Option ((List aC)) :=
    dJ a_1 b_2 n_3 BIG 0 data_0

def iT (m_100 : Int) (cmp_100 : aC → aC → Option Int) (i_100 : Int) (data_100 : List aC) : Option ((List aC)) :=
    (dT data_100 (w64 (m_100 - i_100)) m_100 i_100 cmp_100).bind fun r3 =>
    some r3

def cY (m_0 : Int) (cmp_0 : aC → aC → Option Int) : Nat → Int → Int → (List aC) → Option ((List aC))
  | 0, _, _, _ => none
  | k0 + 1, i_0, j_0, data_0 =>
    bif !decide (i_0 = j_0) then (bif decide (j_0 < i_0) then ((dT data_0 (w64 (m_0 - i_0)) m_0 j_0 cmp_0).bind fun r1 =>
    (cY m_0 cmp_0 k0) (w64 (i_0 - j_0)) j_0 r1)
    else ((dT data_0 (w64 (m_0 - i_0)) (w64 ((w64 (m_0 + j_0)) - i_0)) i_0 cmp_0).bind fun r2 =>
    (cY m_0 cmp_0 k0) i_0 (w64 (j_0 - i_0)) r2))
    else (iT m_0 cmp_0 i_0 data_0)

def eP (data_0 : List aC) (a_1 : Int) (m_2 : Int) (b_3 : Int) (cmp_4 : aC → aC → Option Int) : Option ((List aC)) :=
    cY m_2 cmp_4 BIG (w64 (m_2 - a_1)) (w64 (b_3 - m_2)) data_0

def iH (againR : (List aC) → Int → Int → Int → Option ((List aC))) (data_102 : List aC) : Option ((List aC)) :=
    some data_102

def dN (againR : (List aC) → Int → Int → Int → Option ((List aC))) (i_2 : Int) : Nat → Int → (List aC) → Option ((List aC))
  | 0, _, _ => none
  | k2 + 1, k_2, data_2 =>
    bif decide (k_2 < (w64 (i_2 - 1))) then ((idx data_2 (w64 (k_2 + 1))).bind fun x4 =>
    (idx data_2 k_2).bind fun x5 =>
    (idx data_2 k_2).bind fun x6 =>
    (idx (data_2.set k_2.toNat x4) (w64 (k_2 + 1))).bind fun x7 =>
    (dN againR i_2 k2) (w64 (k_2 + 1)) ((data_2.set k_2.toNat x4).set (w64 (k_2 + 1)).toNat x5))
    else (iH againR data_2)

def fT (againR : (List aC) → Int → Int → Int → Option ((List aC))) (a_100 : Int) (i_100 : Int) (data_100 : List aC) : Option ((List aC)) :=
    dN againR i_100 BIG a_100 data_100

def cR (againR : (List aC) → Int → Int → Int → Option ((List aC))) (a_0 : Int) (cmp_0 : aC → aC → Option Int) (data_0 : List aC) : Nat → Int → Int → Option ((List aC))
  | 0, _, _ => none
  | k0 + 1, i_0, j_0 =>
    bif decide (i_0 < j_0) then ((idx data_0 (w64 ((IntKind.u64.wrap (w64 (i_0 + j_0))).fdiv (2 ^ (min (1 : Int).toNat 64))))).bind fun x1 =>
    (idx data_0 a_0).bind fun x2 =>
    (cmp_0 x1 x2).bind fun r3 =>
    bif decide (r3 < 0) then ((cR againR a_0 cmp_0 data_0 k0) (w64 ((w64 ((IntKind.u64.wrap (w64 (i_0 + j_0))).fdiv (2 ^ (min (1 : Int).toNat 64)))) + 1)) j_0)
    else ((cR againR a_0 cmp_0 data_0 k0) i_0 (w64 ((IntKind.u64.wrap (w64 (i_0 + j_0))).fdiv (2 ^ (min (1 : Int).toNat 64))))))
    else (fT againR a_0 i_0 data_0)

def iI (againR : (List aC) → Int → Int → Int → Option ((List aC))) (data_106 : List aC) : Option ((List aC)) :=
    some data_106

def dO (againR : (List aC) → Int → Int → Int → Option ((List aC))) (i_6 : Int) : Nat → Int → (List aC) → Option ((List aC))
  | 0, _, _ => none
  | k6 + 1, k_6, data_6 =>
    bif decide (i_6 < k_6) then ((idx data_6 (w64 (k_6 - 1))).bind fun x11 =>
    (idx data_6 k_6).bind fun x12 =>
    (idx data_6 k_6).bind fun x13 =>
    (idx (data_6.set k_6.toNat x11) (w64 (k_6 - 1))).bind fun x14 =>
    (dO againR i_6 k6) (w64 (k_6 - 1)) ((data_6.set k_6.toNat x11).set (w64 (k_6 - 1)).toNat x12))
    else (iI againR data_6)

def fU (againR : (List aC) → Int → Int → Int → Option ((List aC))) (m_104 : Int) (i_104 : Int) (data_104 : List aC) : Option ((List aC)) :=
    dO againR i_104 BIG m_104 data_104

def cS (againR : (List aC) → Int → Int → Int → Option ((List aC))) (m_4 : Int) (cmp_4 : aC → aC → Option Int) (data_4 : List aC) : Nat → Int → Int → Option ((List aC))
  | 0, _, _ => none
  | k4 + 1, i_4, j_4 =>
    bif decide (i_4 < j_4) then ((idx data_4 m_4).bind fun x8 =>
    (idx data_4 (w64 ((IntKind.u64.wrap (w64 (i_4 + j_4))).fdiv (2 ^ (min (1 : Int).toNat 64))))).bind fun x9 =>
    (cmp_4 x8 x9).bind fun r10 =>
    bif !(decide (r10 < 0)) then ((cS againR m_4 cmp_4 data_4 k4) (w64 ((w64 ((IntKind.u64.wrap (w64 (i_4 + j_4))).fdiv (2 ^ (min (1 : Int).toNat 64)))) + 1)) j_4)
    else ((cS againR m_4 cmp_4 data_4 k4) i_4 (w64 ((IntKind.u64.wrap (w64 (i_4 + j_4))).fdiv (2 ^ (min (1 : Int).toNat 64))))))
    else (fU againR m_4 i_4 data_4)

def dC (againR : (List aC) → Int → Int → Int → Option ((List aC))) (a_108 : Int) (m_108 : Int) (b_108 : Int) (cmp_108 : aC → aC → Option Int) (mid_108 : Int) (n_108 : Int) (start_108 : Int) (data_108 : List aC) : Option ((List aC)) :=
    (bif decide (start_108 < m_108) then (some (decide (m_108 < (w64 (n_108 - start_108))))) else (some false)).bind fun b18 =>
    bif b18 then ((eP data_108 start_108 m_108 (w64 (n_108 - start_108)) cmp_108).bind fun r19 =>
    (bif decide (a_108 < start_108) then (some (decide (start_108 < mid_108))) else (some false)).bind fun b20 =>
    bif b20 then ((againR r19 a_108 start_108 mid_108).bind fun r21 =>
    (bif decide (mid_108 < (w64 (n_108 - start_108))) then (some (decide ((w64 (n_108 - start_108)) < b_108))) else (some false)).bind fun b22 =>
    bif b22 then ((againR r21 mid_108 (w64 (n_108 - start_108)) b_108).bind fun r23 =>
    some r23)
    else (some r21))
    else ((bif decide (mid_108 < (w64 (n_108 - start_108))) then (some (decide ((w64 (n_108 - start_108)) < b_108))) else (some false)).bind fun b24 =>
    bif b24 then ((againR r19 mid_108 (w64 (n_108 - start_108)) b_108).bind fun r25 =>
    some r25)
    else (some r19)))
    else ((bif decide (a_108 < start_108) then (some (decide (start_108 < mid_108))) else (some false)).bind fun b26 =>
    bif b26 then ((againR data_108 a_108 start_108 mid_108).bind fun r27 =>
    (bif decide (mid_108 < (w64 (n_108 - start_108))) then (some (decide ((w64 (n_108 - start_108)) < b_108))) else (some false)).bind fun b28 =>
    bif b28 then ((againR r27 mid_108 (w64 (n_108 - start_108)) b_108).bind fun r29 =>
    some r29)
    else (some r27))
    else ((bif decide (mid_108 < (w64 (n_108 - start_108))) then (some (decide ((w64 (n_108 - start_108)) < b_108))) else (some false)).bind fun b30 =>
    bif b30 then ((againR data_108 mid_108 (w64 (n_108 - start_108)) b_108).bind fun r31 =>
    some r31)
    else (some data_108)))

def cD (againR : (List aC) → Int → Int → Int → Option ((List aC))) (a_8 : Int) (m_8 : Int) (b_8 : Int) (cmp_8 : aC → aC → Option Int) (mid_8 : Int) (n_8 : Int) (p_8 : Int) (data_8 : List aC) : Nat → Int → Int → Option ((List aC))
  | 0, _, _ => none
  | k8 + 1, start_8, r_8 =>
    bif decide (start_8 < r_8) then ((idx data_8 (w64 (p_8 - (w64 ((IntKind.u64.wrap (w64 (start_8 + r_8))).fdiv (2 ^ (min (1 : Int).toNat 64))))))).bind fun x15 =>
    (idx data_8 (w64 ((IntKind.u64.wrap (w64 (start_8 + r_8))).fdiv (2 ^ (min (1 : Int).toNat 64))))).bind fun x16 =>
    (cmp_8 x15 x16).bind fun r17 =>
    bif !(decide (r17 < 0)) then ((cD againR a_8 m_8 b_8 cmp_8 mid_8 n_8 p_8 data_8 k8) (w64 ((w64 ((IntKind.u64.wrap (w64 (start_8 + r_8))).fdiv (2 ^ (min (1 : Int).toNat 64)))) + 1)) r_8)
    else ((cD againR a_8 m_8 b_8 cmp_8 mid_8 n_8 p_8 data_8 k8) start_8 (w64 ((IntKind.u64.wrap (w64 (start_8 + r_8))).fdiv (2 ^ (min (1 : Int).toNat 64))))))
    else (dC againR a_8 m_8 b_8 cmp_8 mid_8 n_8 start_8 data_8)

def bH (cmp_4 : aC → aC → Option Int) : Nat → (List aC) → Int → Int → Int → Option ((List aC))
  | 0, _, _, _, _ => none
  | kr + 1, data_0, a_1, m_2, b_3 =>
    bif decide ((w64 (m_2 - a_1)) = 1) then (cR (bH cmp_4 kr) a_1 cmp_4 data_0 BIG m_2 b_3)
    else (bif decide ((w64 (b_3 - m_2)) = 1) then (cS (bH cmp_4 kr) m_2 cmp_4 data_0 BIG a_1 m_2)
    else (bif decide ((w64 ((IntKind.u64.wrap (w64 (a_1 + b_3))).fdiv (2 ^ (min (1 : Int).toNat 64)))) < m_2) then (cD (bH cmp_4 kr) a_1 m_2 b_3 cmp_4 (w64 ((IntKind.u64.wrap (w64 (a_1 + b_3))).fdiv (2 ^ (min (1 : Int).toNat 64)))) (w64 ((w64 ((IntKind.u64.wrap (w64 (a_1 + b_3))).fdiv (2 ^ (min (1 : Int).toNat 64)))) + m_2)) (w64 ((w64 ((w64 ((IntKind.u64.wrap (w64 (a_1 + b_3))).fdiv (2 ^ (min (1 : Int).toNat 64)))) + m_2)) - 1)) data_0 BIG (w64 ((w64 ((w64 ((IntKind.u64.wrap (w64 (a_1 + b_3))).fdiv (2 ^ (min (1 : Int).toNat 64)))) + m_2)) - b_3)) (w64 ((IntKind.u64.wrap (w64 (a_1 + b_3))).fdiv (2 ^ (min (1 : Int).toNat 64)))))
    else (cD (bH cmp_4 kr) a_1 m_2 b_3 cmp_4 (w64 ((IntKind.u64.wrap (w64 (a_1 + b_3))).fdiv (2 ^ (min (1 : Int).toNat 64)))) (w64 ((w64 ((IntKind.u64.wrap (w64 (a_1 + b_3))).fdiv (2 ^ (min (1 : Int).toNat 64)))) + m_2)) (w64 ((w64 ((w64 ((IntKind.u64.wrap (w64 (a_1 + b_3))).fdiv (2 ^ (min (1 : Int).toNat 64)))) + m_2)) - 1)) data_0 BIG a_1 m_2)))

def gH (data_0 : List aC) (a_1 : Int) (m_2 : Int) (b_3 : Int) (cmp_4 : aC → aC → Option Int) : Option ((List aC)) := bH cmp_4 BIG data_0 a_1 m_2 b_3

def fC (again2 : Int → (List aC) → Option ((List aC))) (n_103 : Int) (cmp_103 : aC → aC → Option Int) (blockSize_103 : Int) (data_103 : List aC) : Option ((List aC)) :=
    again2 blockSize_103 data_103

def iW (again2 : Int → (List aC) → Option ((List aC))) (n_104 : Int) (cmp_104 : aC → aC → Option Int) (blockSize_104 : Int) (a_104 : Int) (data_104 : List aC) : Option ((List aC)) :=
    bif decide ((w64 (a_104 + blockSize_104)) < n_104) then ((gH data_104 a_104 (w64 (a_104 + blockSize_104)) n_104 cmp_104).bind fun r4 =>
    fC again2 n_104 cmp_104 (w64 (blockSize_104 * 2)) r4)
    else (fC again2 n_104 cmp_104 (w64 (blockSize_104 * 2)) data_104)

def dS (again2 : Int → (List aC) → Option ((List aC))) (n_4 : Int) (cmp_4 : aC → aC → Option Int) (blockSize_4 : Int) : Nat → Int → Int → (List aC) → Option ((List aC))
  | 0, _, _, _ => none
  | k4 + 1, a_4, b_4, data_4 =>
    bif decide (b_4 ≤ n_4) then ((gH data_4 a_4 (w64 (a_4 + blockSize_4)) b_4 cmp_4).bind fun r3 =>
    (dS again2 n_4 cmp_4 blockSize_4 k4) b_4 (w64 (b_4 + (w64 (2 * blockSize_4)))) r3)
    else (iW again2 n_4 cmp_4 blockSize_4 a_4 data_4)

def iV (data_102 : List aC) : Option ((List aC)) :=
    some data_102

def cZ (n_2 : Int) (cmp_2 : aC → aC → Option Int) : Nat → Int → (List aC) → Option ((List aC))
  | 0, _, _ => none
  | k2 + 1, blockSize_2, data_2 =>
    bif decide (blockSize_2 < n_2) then (dS (cZ n_2 cmp_2 k2) n_2 cmp_2 blockSize_2 BIG 0 (w64 (2 * blockSize_2)) data_2)
    else (iV data_2)

def iU (n_100 : Int) (cmp_100 : aC → aC → Option Int) (blockSize_100 : Int) (a_100 : Int) (data_100 : List aC) : Option ((List aC)) :=
    (dG data_100 a_100 n_100 cmp_100).bind fun r2 =>
    cZ n_100 cmp_100 BIG blockSize_100 r2

def dR (n_0 : Int) (cmp_0 : aC → aC → Option Int) (blockSize_0 : Int) : Nat → Int → Int → (List aC) → Option ((List aC))
  | 0, _, _, _ => none
  | k0 + 1, a_0, b_0, data_0 =>
    bif decide (b_0 ≤ n_0) then ((dG data_0 a_0 b_0 cmp_0).bind fun r1 =>
    (dR n_0 cmp_0 blockSize_0 k0) b_0 (w64 (b_0 + blockSize_0)) r1)
    else (iU n_0 cmp_0 blockSize_0 a_0 data_0)

def gN (data_0 : List aC) (n_1 : Int) (cmp_2 : aC → aC → Option Int) : Option ((List aC)) :=
    dR n_1 cmp_2 20 BIG 0 20 data_0

def eJ (x_0 : List aC) (cmp_1 : aC → aC → Option Int) : Option ((List aC)) :=
    (gN x_0 (x_0.length : Int) cmp_1).bind fun r1 =>
    some r1

def oG (a_0 : aC) (b_1 : aC) : Option Int :=
    some (w64 (a_0.Id - b_1.Id))

def kR (again0 : Int → (List aC) → Option ((List aC))) (k_102 : Int) (s_102 : List aC) : Option ((List aC)) :=
    (chk (decide (0 ≤ k_102) && decide (k_102 ≤ (s_102.length : Int)))).bind fun u9 =>
    (chk (decide (k_102.toNat ≤ s_102.length))).bind fun u10 =>
    (chk (decide (0 ≤ k_102))).bind fun u11 =>
    some (s_102.take k_102.toNat)

def eB (again0 : Int → (List aC) → Option ((List aC))) (s2_2 : Int) : Nat → Int → Int → (List aC) → Option ((List aC))
  | 0, _, _, _ => none
  | k2 + 1, k_2, k2_2, s_2 =>
    bif decide (k2_2 < ((s_2.drop s2_2.toNat).length : Int)) then ((idx (s_2.drop s2_2.toNat) k2_2).bind fun x5 =>
    (idx (s_2.drop s2_2.toNat) (w64 (k2_2 - 1))).bind fun x6 =>
    bif !decide (x5 = x6) then ((idx (s_2.drop s2_2.toNat) k2_2).bind fun x7 =>
    (idx s_2 k_2).bind fun x8 =>
    (eB again0 s2_2 k2) (w64 (k_2 + 1)) (w64 (k2_2 + 1)) (s_2.set k_2.toNat x7))
    else ((eB again0 s2_2 k2) k_2 (w64 (k2_2 + 1)) s_2))
    else (kR again0 k_2 s_2)

def kQ (again0 : Int → (List aC) → Option ((List aC))) (k_101 : Int) (s_101 : List aC) : Option ((List aC)) :=
    again0 (w64 (k_101 + 1)) s_101

def kP (s_100 : List aC) : Option ((List aC)) :=
    some s_100

def dF : Nat → Int → (List aC) → Option ((List aC))
  | 0, _, _ => none
  | k0 + 1, k_0, s_0 =>
    bif decide (k_0 < (s_0.length : Int)) then ((idx s_0 k_0).bind fun x2 =>
    (idx s_0 (w64 (k_0 - 1))).bind fun x3 =>
    bif decide (x2 = x3) then ((chk (decide (0 ≤ k_0) && decide (k_0 ≤ (s_0.length : Int)))).bind fun u4 =>
    eB (dF k0) k_0 BIG k_0 1 s_0)
    else (kQ (dF k0) k_0 s_0))
    else (kP s_0)

def gY (s_0 : List aC) : Option ((List aC)) :=
    bif decide ((s_0.length : Int) < 2) then (some s_0)
    else (dF BIG 1 s_0)

def uF (o7_100 : List aC) : Option ((List aC) × Bool) :=
    some (o7_100, true)

def gL (o7_0 : List aC) : Nat → Int → Option ((List aC) × Bool)
  | 0, _ => none
  | k0 + 1, i_0 =>
    bif decide (i_0 < (o7_0.length : Int)) then ((idx o7_0 i_0).bind fun x9 =>
    (idx o7_0 (w64 (i_0 - 1))).bind fun x10 =>
    bif decide (x9.Id = x10.Id) then (some (([] : List aC), false))
    else ((gL o7_0 k0) (w64 (i_0 + 1))))
    else (uF o7_0)

def mU (all_0 : List aC) : Option ((List aC) × Bool) :=
    (eW all_0).bind fun r2 =>
    (eJ r2 (fun y4 y5 => oG y4 y5)).bind fun r6 =>
    (gY r6).bind fun r7 =>
    gL r7 BIG 1

def rA (l_0 : aP) : Option Int :=
    (oC l_0).bind fun r2 =>
    bif !r2 then (some 40)
    else ((mU l_0.Reports).bind fun r3 =>
    bif !r3.2 then (some 41)
    else (some 0))

def sL (l_0 : aP) : Option ((Option bY) × Int) :=
    (rA l_0).bind fun r2 =>
    bif !decide (r2 = 0) then (some (none, r2))
    else ((mU l_0.Reports).bind fun r3 =>
    some (some (bY.mk (aP.mk l_0.Players l_0.Counts r3.1 l_0.Bans l_0.Frozen)), 0))

def nX (l_0 : aP) (player_1 : Int) (week_2 : Int) : Option ((Option bY) × Int) :=
    (sL l_0).bind fun r2 =>
    sX r2.1 (bif !decide (r2.2 = 0) then (some (none, r2.2))
    else ((eO player_1 0 (w64 (l_0.Players - 1))).bind fun r6 =>
    (bif !r6 then (some true) else ((eO week_2 0 400).bind fun r7 =>
    some (!r7))).bind fun b8 =>
    bif b8 then (some (none, 1))
    else (some (none, 0)))) fun y3 =>
    bif !decide (r2.2 = 0) then (some (none, r2.2))
    else ((eO player_1 0 (w64 (l_0.Players - 1))).bind fun r9 =>
    (bif !r9 then (some true) else ((eO week_2 0 400).bind fun r10 =>
    some (!r10))).bind fun b11 =>
    bif b11 then (some (none, 1))
    else (some (some y3, 0)))

def qO (n_100 : Int) : Option Int :=
    some n_100

def iD (week_0 : Int) (t18_0 : List aZ) (t19_0 : Int) (r_0 : aC) : Nat → Int → Int → Option Int
  | 0, _, _ => none
  | k0 + 1, n_0, t20_0 =>
    bif decide (t20_0 < t19_0) then ((idx t18_0 t20_0).bind fun x2 =>
    bif decide (x2.Player = r_0.Player) then ((iD week_0 t18_0 t19_0 r_0 k0) (w64 (n_0 - (max 0 (w64 ((w64 ((min x2.To week_0) - (max x2.From (w64 (r_0.Week + 1))))) + 1))))) (w64 (t20_0 + 1)))
    else ((iD week_0 t18_0 t19_0 r_0 k0) n_0 (w64 (t20_0 + 1))))
    else (qO n_0)

def mL (b_0 : bY) (r_1 : aC) (week_2 : Int) : Option Int :=
    iD week_2 b_0.Ledger.Frozen (b_0.Ledger.Frozen.length : Int) r_1 BIG (w64 (week_2 - r_1.Week)) 0

def qC (a_0 : aZ) (c_1 : Int) (c_2 : Int) : Option Bool :=
    (bif decide (a_0.Player = c_1) then ((eO c_2 a_0.From a_0.To).bind fun r2 =>
    some r2) else (some false)).bind fun b3 =>
    some b3

def mS (all_0 : List aZ) (player_1 : Int) (week_2 : Int) : Option Bool :=
    (eC all_0 (fun y3 => qC y3 player_1 week_2)).bind fun r4 =>
    some r4

def pC (out_100 : List aC) : Option ((List aC)) :=
    some out_100

def gI (b_0 : bY) (player_0 : Int) (week_0 : Int) (t14_0 : List aC) (t15_0 : Int) : Nat → Int → (List aC) → Option ((List aC))
  | 0, _, _ => none
  | k0 + 1, t16_0, out_0 =>
    bif decide (t16_0 < t15_0) then ((idx t14_0 t16_0).bind fun x2 =>
    (bif decide (x2.Player = player_0) then (some (decide (x2.Week ≤ week_0))) else (some false)).bind fun b4 =>
    (bif b4 then ((mL b_0 x2 week_0).bind fun r5 =>
    some (decide (r5 < 52))) else (some false)).bind fun b6 =>
    (bif b6 then ((mS b_0.Ledger.Bans player_0 x2.Week).bind fun r7 =>
    some (!r7)) else (some false)).bind fun b8 =>
    bif b8 then ((app 40 out_0 ([x2])).bind fun x9 =>
    (gI b_0 player_0 week_0 t14_0 t15_0 k0) (w64 (t16_0 + 1)) x9)
    else ((gI b_0 player_0 week_0 t14_0 t15_0 k0) (w64 (t16_0 + 1)) out_0))
    else (pC out_0)

def lF (b_0 : bY) (player_1 : Int) (week_2 : Int) : Option ((List aC)) :=
    gI b_0 player_1 week_2 b_0.Ledger.Reports (b_0.Ledger.Reports.length : Int) BIG 0 ([] : List aC)

def sV (zero_100 : Int) : Option Int :=
    some zero_100

def lJ (zero_0 : Int) (t6_0 : List Int) (t7_0 : Int) : Nat → Int → Option Int
  | 0, _ => none
  | k0 + 1, t8_0 =>
    bif decide (t8_0 < t7_0) then ((idx t6_0 t8_0).bind fun x1 =>
    bif !decide (x1 = zero_0) then (some x1)
    else ((lJ zero_0 t6_0 t7_0 k0) (w64 (t8_0 + 1))))
    else (sV zero_0)

def pI (vals_0 : List Int) : Option Int :=
    lJ 0 vals_0 (vals_0.length : Int) BIG 0

def kA (x_0 : aC) (y_1 : aC) : Option Int :=
    (bif !decide (x_0.Must = y_1.Must) then (some x_0.Must) else (some false)).bind fun b3 =>
    bif b3 then (some (-1))
    else (bif !decide (x_0.Must = y_1.Must) then (some 1)
    else ((pI ([w64 (y_1.Points - x_0.Points), w64 (x_0.Id - y_1.Id)])).bind fun r4 =>
    some r4))

def kZ (b_100 : bY) (musts_100 : Int) (o10_100 : List aC) : Option ((List aC)) :=
    (sub o10_100 0 (min (o10_100.length : Int) (max musts_100 b_100.Ledger.Counts))).bind fun x8 =>
    some x8

def fR (b_0 : bY) (t14_0 : Int) (o10_0 : List aC) : Nat → Int → Int → Option ((List aC))
  | 0, _, _ => none
  | k0 + 1, musts_0, t15_0 =>
    bif decide (t15_0 < t14_0) then ((idx o10_0 t15_0).bind fun x6 =>
    bif x6.Must then ((fR b_0 t14_0 o10_0 k0) (w64 (musts_0 + 1)) (w64 (t15_0 + 1)))
    else ((fR b_0 t14_0 o10_0 k0) musts_0 (w64 (t15_0 + 1))))
    else (kZ b_0 musts_0 o10_0)

def lH (b_0 : bY) (all_1 : List aC) : Option ((List aC)) :=
    (eW all_1).bind fun r1 =>
    (eJ r1 (fun y3 y4 => kA y3 y4)).bind fun r5 =>
    fR b_0 (r5.length : Int) r5 BIG 0 0

def vB (n_100 : Int) : Option Int :=
    some n_100

def nL (t5_0 : List aC) (t6_0 : Int) : Nat → Int → Int → Option Int
  | 0, _, _ => none
  | k0 + 1, n_0, t7_0 =>
    bif decide (t7_0 < t6_0) then ((idx t5_0 t7_0).bind fun x1 =>
    (nL t5_0 t6_0 k0) (w64 (n_0 + x1.Points)) (w64 (t7_0 + 1)))
    else (vB n_0)

def rY (l_0 : List aC) : Option Int :=
    nL l_0 (l_0.length : Int) BIG 0 0

def qG (x : Int) : Option Int := yA x

def fE (again0 : Int → (List bD) → Option ((List bD))) (a_101 : Int) (b_101 : Int) (cmp_101 : bD → bD → Option Int) (i_101 : Int) (data_101 : List bD) : Option ((List bD)) :=
    again0 (w64 (i_101 + 1)) data_101

def fF (again0 : Int → (List bD) → Option ((List bD))) (a_102 : Int) (b_102 : Int) (cmp_102 : bD → bD → Option Int) (i_102 : Int) (data_102 : List bD) : Option ((List bD)) :=
    fE again0 a_102 b_102 cmp_102 i_102 data_102

def cX (again0 : Int → (List bD) → Option ((List bD))) (a_2 : Int) (b_2 : Int) (cmp_2 : bD → bD → Option Int) (i_2 : Int) : Nat → Int → (List bD) → Option ((List bD))
  | 0, _, _ => none
  | k2 + 1, j_2, data_2 =>
    (bif decide (a_2 < j_2) then ((idx data_2 j_2).bind fun x1 =>
    (idx data_2 (w64 (j_2 - 1))).bind fun x2 =>
    (cmp_2 x1 x2).bind fun r3 =>
    some (decide (r3 < 0))) else (some false)).bind fun b4 =>
    bif b4 then ((idx data_2 (w64 (j_2 - 1))).bind fun x5 =>
    (idx data_2 j_2).bind fun x6 =>
    (idx data_2 j_2).bind fun x7 =>
    (idx (data_2.set j_2.toNat x5) (w64 (j_2 - 1))).bind fun x8 =>
    (cX again0 a_2 b_2 cmp_2 i_2 k2) (w64 (j_2 - 1)) ((data_2.set j_2.toNat x5).set (w64 (j_2 - 1)).toNat x6))
    else (fF again0 a_2 b_2 cmp_2 i_2 data_2)

def fD (data_100 : List bD) : Option ((List bD)) :=
    some data_100

def cM (a_0 : Int) (b_0 : Int) (cmp_0 : bD → bD → Option Int) : Nat → Int → (List bD) → Option ((List bD))
  | 0, _, _ => none
  | k0 + 1, i_0, data_0 =>
    bif decide (i_0 < b_0) then (cX (cM a_0 b_0 cmp_0 k0) a_0 b_0 cmp_0 i_0 BIG i_0 data_0)
    else (fD data_0)

def dI (data_0 : List bD) (a_1 : Int) (b_2 : Int) (cmp_3 : bD → bD → Option Int) : Option ((List bD)) :=
    cM a_1 b_2 cmp_3 BIG (w64 (a_1 + 1)) data_0

def gB (cmp_0 : bD → bD → Option Int) : Nat → Int → Int → Int → Bool → Bool → (List bD) → Option ((List bD))
  | 0, _, _, _, _, _, _ => none
  | k0 + 1, a_0, b_0, limit_0, wasBalanced_0, wasPartitioned_0, data_0 =>
    bif decide ((w64 (b_0 - a_0)) ≤ 12) then ((dI data_0 a_0 b_0 cmp_0).bind fun r1 =>
    some r1)
    else (none)

def gM (data_0 : List bD) (a_1 : Int) (b_2 : Int) (limit_3 : Int) (cmp_4 : bD → bD → Option Int) : Option ((List bD)) :=
    gB cmp_4 BIG a_1 b_2 limit_3 true true data_0

def hG (x_0 : List bD) (cmp_1 : bD → bD → Option Int) : Option ((List bD)) :=
    (qG (IntKind.u64.wrap (x_0.length : Int))).bind fun r1 =>
    (gM x_0 0 (x_0.length : Int) r1 cmp_1).bind fun r2 =>
    some r2

def kB (x_0 : bD) (y_1 : bD) : Option Int :=
    (pI ([w64 (y_1.points - x_0.points), w64 (y_1.musts - x_0.musts), w64 (x_0.many - y_1.many), w64 (x_0.player - y_1.player)])).bind fun r3 =>
    some r3

def jZ (again0 : Int → (List bD) → Option ((List Int))) (b_101 : bY) (week_101 : Int) (t18_101 : Int) (t19_101 : Int) (lines_101 : List bD) : Option ((List Int)) :=
    again0 (w64 (t19_101 + 1)) lines_101

def nO (again0 : Int → (List bD) → Option ((List Int))) (b_102 : bY) (week_102 : Int) (t18_102 : Int) (t19_102 : Int) (lines_102 : List bD) (x_102 : bD) : Option ((List Int)) :=
    (app 32 lines_102 ([x_102])).bind fun x10 =>
    jZ again0 b_102 week_102 t18_102 t19_102 x10

def gR (again0 : Int → (List bD) → Option ((List Int))) (b_2 : bY) (week_2 : Int) (t18_2 : Int) (t19_2 : Int) (t47_2 : List aC) (t48_2 : Int) (lines_2 : List bD) : Nat → Int → bD → Option ((List Int))
  | 0, _, _ => none
  | k2 + 1, t49_2, x_2 =>
    bif decide (t49_2 < t48_2) then ((idx t47_2 t49_2).bind fun x8 =>
    bif x8.Must then ((gR again0 b_2 week_2 t18_2 t19_2 t47_2 t48_2 lines_2 k2) (w64 (t49_2 + 1)) (bD.mk x_2.player x_2.points (w64 (x_2.musts + x8.Points)) x_2.many))
    else ((gR again0 b_2 week_2 t18_2 t19_2 t47_2 t48_2 lines_2 k2) (w64 (t49_2 + 1)) x_2))
    else (nO again0 b_2 week_2 t18_2 t19_2 lines_2 x_2)

def pW (out_104 : List Int) : Option ((List Int)) :=
    some out_104

def iS (t70_4 : Int) (lines_4 : List bD) : Nat → Int → (List Int) → Option ((List Int))
  | 0, _, _ => none
  | k4 + 1, t71_4, out_4 =>
    bif decide (t71_4 < t70_4) then ((idx lines_4 t71_4).bind fun x16 =>
    (app 8 out_4 ([x16.player])).bind fun x18 =>
    (iS t70_4 lines_4 k4) (w64 (t71_4 + 1)) x18)
    else (pW out_4)

def lM (lines_100 : List bD) : Option ((List Int)) :=
    (hG lines_100 (fun y12 y13 => kB y12 y13)).bind fun r14 =>
    iS (r14.length : Int) r14 BIG 0 ([] : List Int)

def fB (b_0 : bY) (week_0 : Int) (t18_0 : Int) : Nat → Int → (List bD) → Option ((List Int))
  | 0, _, _ => none
  | k0 + 1, t19_0, lines_0 =>
    bif decide (t19_0 < t18_0) then ((lF b_0 t19_0 week_0).bind fun r2 =>
    (mS b_0.Ledger.Bans t19_0 week_0).bind fun r3 =>
    (bif r3 then (some true) else (some (decide ((r2.length : Int) = 0)))).bind fun b4 =>
    bif b4 then (jZ (fB b_0 week_0 t18_0 k0) b_0 week_0 t18_0 t19_0 lines_0)
    else ((lH b_0 r2).bind fun r5 =>
    (rY r5).bind fun r6 =>
    gR (fB b_0 week_0 t18_0 k0) b_0 week_0 t18_0 t19_0 r2 (r2.length : Int) lines_0 BIG 0 (bD.mk t19_0 r6 0 (r2.length : Int))))
    else (lM lines_0)

def gE (b_0 : bY) (week_1 : Int) : Option ((List Int)) :=
    fB b_0 week_1 b_0.Ledger.Players BIG 0 ([] : List bD)

def qT (l_0 : aP) (week_1 : Int) : Option ((List Int) × Int) :=
    (nX l_0 0 week_1).bind fun r2 =>
    sX r2.1 (bif !decide (r2.2 = 0) then (some (([] : List Int), r2.2))
    else (none)) fun y3 =>
    bif !decide (r2.2 = 0) then (some (([] : List Int), r2.2))
    else ((gE y3 week_1).bind fun r6 =>
    some (r6, 0))

def pP : Option Int :=
    some (-1)

def kH (s_0 : List Int) (f_0 : Int → Option Bool) (t7_0 : Int) : Nat → Int → Option Int
  | 0, _ => none
  | k0 + 1, t8_0 =>
    bif decide (t8_0 < t7_0) then ((idx s_0 t8_0).bind fun x1 =>
    (f_0 x1).bind fun r2 =>
    bif r2 then (some t8_0)
    else ((kH s_0 f_0 t7_0 k0) (w64 (t8_0 + 1))))
    else (pP)

def nZ (s_0 : List Int) (f_1 : Int → Option Bool) : Option Int :=
    kH s_0 f_1 (s_0.length : Int) BIG 0

def kG (s_0 : List Int) (f_1 : Int → Option Bool) : Option Bool :=
    (nZ s_0 f_1).bind fun r1 =>
    some (decide (0 ≤ r1))

def rB (n_0 : Int) : Option Bool :=
    (eO n_0 0 2000).bind fun r1 =>
    some (!r1)

def oQ : Option Int :=
    some (-1)

def gW (s_0 : List Int) (v_0 : Int) (t7_0 : Int) : Nat → Int → Option Int
  | 0, _ => none
  | k0 + 1, t8_0 =>
    bif decide (t8_0 < t7_0) then ((idx s_0 t8_0).bind fun x1 =>
    bif decide (v_0 = x1) then (some t8_0)
    else ((gW s_0 v_0 t7_0 k0) (w64 (t8_0 + 1))))
    else (oQ)

def mG (s_0 : List Int) (v_1 : Int) : Option Int :=
    gW s_0 v_1 (s_0.length : Int) BIG 0

def lG (b_0 : bY) (player_1 : Int) (week_2 : Int) : Option Int :=
    (gE b_0 week_2).bind fun r1 =>
    (mG r1 player_1).bind fun r2 =>
    some (w64 (r2 + 1))

def uC (book : bY) (pl : Int) (wk : Int) (ms : Bool) (be : Int) (wo : Int) : Option (Bool × Int × Int) :=
    (lG book pl wk).bind fun r1 =>
    (bif ms then (some true) else (some (decide (r1 = 0)))).bind fun b2 =>
    some (b2, min be r1, max wo r1)

def rJ (n_1 : Int) : Option ((List Int)) :=
    bif decide (n_1 < 0) then (none)
    else (bif decide (0 < (w64 (n_1 - (w64 (0 - 0))))) then ((chk (decide (0 ≤ 0))).bind fun u2 =>
    (chk (decide (0 < (w64 (n_1 - (w64 (0 - 0))))) && decide ((w64 (n_1 - (w64 (0 - 0)))) * ((8 : Nat) : Int) ≤ 140737488355328))).bind fun u3 =>
    (chk (decide (0 ≤ 0))).bind fun u5 =>
    some ([] : List Int))
    else (some ([] : List Int)))

def rH (o24_102 : List Int) : Option ((List Int)) :=
    some o24_102

def lV (t25_2 : List (List Int)) (t26_2 : Int) : Nat → Int → (List Int) → Option ((List Int))
  | 0, _, _ => none
  | k2 + 1, t27_2, o24_2 =>
    bif decide (t27_2 < t26_2) then ((idx t25_2 t27_2).bind fun x4 =>
    (app 8 o24_2 x4).bind fun x5 =>
    (lV t25_2 t26_2 k2) (w64 (t27_2 + 1)) x5)
    else (rH o24_2)

def rG (slices_100 : List (List Int)) (size_100 : Int) : Option ((List Int)) :=
    (rJ size_100).bind fun r2 =>
    lV slices_100 (slices_100.length : Int) BIG 0 r2

def lU (slices_0 : List (List Int)) (t9_0 : List (List Int)) (t10_0 : Int) : Nat → Int → Int → Option ((List Int))
  | 0, _, _ => none
  | k0 + 1, size_0, t11_0 =>
    bif decide (t11_0 < t10_0) then ((idx t9_0 t11_0).bind fun x1 =>
    bif decide ((w64 (size_0 + (x1.length : Int))) < 0) then (none)
    else ((lU slices_0 t9_0 t10_0 k0) (w64 (size_0 + (x1.length : Int))) (w64 (t11_0 + 1))))
    else (rG slices_0 size_0)

def pX (slices_0 : List (List Int)) : Option ((List Int)) :=
    lU slices_0 slices_0 (slices_0.length : Int) BIG 0 0

def rD (againR : bY → Int → Int → Bool → Int → Int → Int → (List Int) → (List Int) → Option (bY × Bool × Int × Int)) (many_100 : Int) (b_100 : bY) (b_100_2 : Int) (b_100_3 : Int) (b_100_4 : Bool) (b_100_5 : Int) (b_100_6 : Int) : Option (bY × Bool × Int × Int) :=
    (sub b_100.Ledger.Reports 0 many_100).bind fun x12 =>
    some ((bY.mk (aP.mk b_100.Ledger.Players b_100.Ledger.Counts x12 b_100.Ledger.Bans b_100.Ledger.Frozen)), b_100_4, b_100_5, b_100_6)

def lS (againR : bY → Int → Int → Bool → Int → Int → Int → (List Int) → (List Int) → Option (bY × Bool × Int × Int)) (week_0 : Int) (prizes_0 : List Int) (free_0 : List Int) (many_0 : Int) (t29_0 : List Int) (t30_0 : Int) (b_0_2 : Int) (b_0_3 : Int) : Nat → Int → bY → Bool → Int → Int → Option (bY × Bool × Int × Int)
  | 0, _, _, _, _, _ => none
  | k0 + 1, t31_0, b_0, b_0_4, b_0_5, b_0_6 =>
    bif decide (t31_0 < t30_0) then ((idx t29_0 t31_0).bind fun x3 =>
    (sub b_0.Ledger.Reports 0 many_0).bind fun x4 =>
    (idx prizes_0 0).bind fun x5 =>
    (app 40 x4 ([(aC.mk (w64 (100 + many_0)) x3 week_0 x5 false)])).bind fun x6 =>
    (sub prizes_0 1 (prizes_0.length : Int)).bind fun x7 =>
    (sub free_0 0 t31_0).bind fun x8 =>
    (sub free_0 (w64 (t31_0 + 1)) (free_0.length : Int)).bind fun x9 =>
    (pX ([x8, x9])).bind fun r10 =>
    (againR (bY.mk (aP.mk b_0.Ledger.Players b_0.Ledger.Counts x6 b_0.Ledger.Bans b_0.Ledger.Frozen)) b_0_2 b_0_3 b_0_4 b_0_5 b_0_6 week_0 x7 r10).bind fun r11 =>
    (lS againR week_0 prizes_0 free_0 many_0 t29_0 t30_0 b_0_2 b_0_3 k0) (w64 (t31_0 + 1)) r11.1 r11.2.1 r11.2.2.1 r11.2.2.2)
    else (rD againR many_0 b_0 b_0_2 b_0_3 b_0_4 b_0_5 b_0_6)

def kK : Nat → bY → Int → Int → Bool → Int → Int → Int → (List Int) → (List Int) → Option (bY × Bool × Int × Int)
  | 0, _, _, _, _, _, _, _, _, _ => none
  | kr + 1, book, pl, wk, ms, be, wo, week_1, prizes_2, free_3 =>
    (bif decide ((prizes_2.length : Int) = 0) then (some true) else (some (decide ((free_3.length : Int) = 0)))).bind fun b1 =>
    bif b1 then ((uC book pl wk ms be wo).bind fun r2 =>
    some (book, r2.1, r2.2.1, r2.2.2))
    else (lS (kK kr) week_1 prizes_2 free_3 (book.Ledger.Reports.length : Int) free_3 (free_3.length : Int) pl wk BIG 0 book ms be wo)

def tB : bY → Int → Int → Bool → Int → Int → Int → (List Int) → (List Int) → Option (bY × Bool × Int × Int) := kK BIG

def wN (prizes_100 : List Int) (player_100 : Int) (week_100 : Int) (best_100 : Int) (worst_100 : Int) (free_100 : List Int) (o19_100 : List aC) (o19_100_2 : Int) (o19_100_3 : Int) (o19_100_4 : List aZ) (o19_100_5 : List aZ) : Option (Int × Int × Int) :=
    (tB (bY.mk (aP.mk o19_100_2 o19_100_3 o19_100 o19_100_4 o19_100_5)) player_100 week_100 false (w64 (o19_100_2 + 1)) 0 week_100 prizes_100 free_100).bind fun r24 =>
    bif r24.2.1 then (some (0, 0, 3))
    else (some (r24.2.2.1, r24.2.2.2, 0))

def oB (prizes_0 : List Int) (t36_0 : Int) (player_0 : Int) (week_0 : Int) (best_0 : Int) (worst_0 : Int) (o19_0 : List aC) (o19_0_2 : Int) (o19_0_3 : Int) (o19_0_4 : List aZ) (o19_0_5 : List aZ) : Nat → Int → (List Int) → Option (Int × Int × Int)
  | 0, _, _ => none
  | k0 + 1, t37_0, free_0 =>
    bif decide (t37_0 < t36_0) then ((mS o19_0_4 t37_0 week_0).bind fun r20 =>
    bif !r20 then ((app 8 free_0 ([t37_0])).bind fun x21 =>
    (oB prizes_0 t36_0 player_0 week_0 best_0 worst_0 o19_0 o19_0_2 o19_0_3 o19_0_4 o19_0_5 k0) (w64 (t37_0 + 1)) x21)
    else ((oB prizes_0 t36_0 player_0 week_0 best_0 worst_0 o19_0 o19_0_2 o19_0_3 o19_0_4 o19_0_5 k0) (w64 (t37_0 + 1)) free_0))
    else (wN prizes_0 player_0 week_0 best_0 worst_0 free_0 o19_0 o19_0_2 o19_0_3 o19_0_4 o19_0_5)

def wD (l_0 : aP) (player_1 : Int) (week_2 : Int) (prizes_3 : List Int) : Option (Int × Int × Int) :=
    (nX l_0 player_1 week_2).bind fun r6 =>
    sX r6.1 (bif !decide (r6.2 = 0) then (some (0, 0, r6.2))
    else ((bif decide (4 < (prizes_3.length : Int)) then (some true) else ((kG prizes_3 (fun y11 => rB y11)).bind fun r12 =>
    some r12)).bind fun b13 =>
    bif b13 then (some (0, 0, 42))
    else (none))) fun y7 =>
    bif !decide (r6.2 = 0) then (some (0, 0, r6.2))
    else ((bif decide (4 < (prizes_3.length : Int)) then (some true) else ((kG prizes_3 (fun y16 => rB y16)).bind fun r17 =>
    some r17)).bind fun b18 =>
    bif b18 then (some (0, 0, 42))
    else (oB prizes_3 y7.Ledger.Players player_1 week_2 0 0 y7.Ledger.Reports y7.Ledger.Players y7.Ledger.Counts y7.Ledger.Bans y7.Ledger.Frozen BIG 0 ([] : List Int)))

def jJ (b_0 : bY) (player_1 : Int) (week_2 : Int) : Option Int :=
    (lF b_0 player_1 week_2).bind fun r1 =>
    (lH b_0 r1).bind fun r2 =>
    (rY r2).bind fun r3 =>
    some r3

def mW : Option Int :=
    some (-1)

def gZ (s_0 : List aC) (f_0 : aC → Option Bool) (t7_0 : Int) : Nat → Int → Option Int
  | 0, _ => none
  | k0 + 1, t8_0 =>
    bif decide (t8_0 < t7_0) then ((idx s_0 t8_0).bind fun x1 =>
    (f_0 x1).bind fun r2 =>
    bif r2 then (some t8_0)
    else ((gZ s_0 f_0 t7_0 k0) (w64 (t8_0 + 1))))
    else (mW)

def lA (s_0 : List aC) (f_1 : aC → Option Bool) : Option Int :=
    gZ s_0 f_1 (s_0.length : Int) BIG 0

def mJ (i_100 : Int) (s_100 : List aC) : Option ((List aC)) :=
    (chk (decide (0 ≤ i_100) && decide (i_100 ≤ (s_100.length : Int)))).bind fun u7 =>
    (chk (decide (i_100.toNat ≤ s_100.length))).bind fun u8 =>
    (chk (decide (0 ≤ i_100))).bind fun u9 =>
    some (s_100.take i_100.toNat)

def fM (del_0 : aC → Option Bool) : Nat → Int → Int → (List aC) → Option ((List aC))
  | 0, _, _, _ => none
  | k0 + 1, i_0, j_0, s_0 =>
    bif decide (j_0 < (s_0.length : Int)) then ((idx s_0 j_0).bind fun x3 =>
    (del_0 x3).bind fun r5 =>
    bif !r5 then ((idx s_0 i_0).bind fun x6 =>
    (fM del_0 k0) (w64 (i_0 + 1)) (w64 (j_0 + 1)) (s_0.set i_0.toNat x3))
    else ((fM del_0 k0) i_0 (w64 (j_0 + 1)) s_0))
    else (mJ i_0 s_0)

def kS (s_0 : List aC) (del_1 : aC → Option Bool) : Option ((List aC)) :=
    (lA s_0 del_1).bind fun r2 =>
    bif decide (r2 = (-1)) then (some s_0)
    else (fM del_1 BIG r2 (w64 (r2 + 1)) s_0)

def pL (r_0 : aC) (c_1 : Int) : Option Bool :=
    some (decide (c_1 < r_0.Week))

def uA (l_0 : aP) (player_1 : Int) (week_2 : Int) : Option (Int × Int) :=
    (nX l_0 player_1 week_2).bind fun r3 =>
    sX r3.1 (bif !decide (r3.2 = 0) then (some (0, r3.2))
    else (bif decide (400 ≤ week_2) then (some (0, 1))
    else (none))) fun y4 =>
    bif !decide (r3.2 = 0) then (some (0, r3.2))
    else (bif decide (400 ≤ week_2) then (some (0, 1))
    else ((jJ y4 player_1 week_2).bind fun r7 =>
    (kS y4.Ledger.Reports (fun y8 => pL y8 week_2)).bind fun r9 =>
    (jJ (bY.mk (aP.mk y4.Ledger.Players y4.Ledger.Counts r9 y4.Ledger.Bans y4.Ledger.Frozen)) player_1 (w64 (week_2 + 1))).bind fun r11 =>
    some (w64 (r7 - r11), 0)))

def pZ : Option Bool :=
    some true

def kT (a_0 : List Int) (b_0 : List Int) : Nat → Int → Option Bool
  | 0, _ => none
  | k0 + 1, i_0 =>
    bif decide (i_0 < (a_0.length : Int)) then ((idx a_0 i_0).bind fun x1 =>
    (idx b_0 i_0).bind fun x2 =>
    bif !decide (x1 = x2) then (some false)
    else ((kT a_0 b_0 k0) (w64 (i_0 + 1))))
    else (pZ)

def oH (a_0 : List Int) (b_1 : List Int) : Option Bool :=
    bif !decide ((a_0.length : Int) = (b_1.length : Int)) then (some false)
    else (kT a_0 b_1 BIG 0)

def jG : Option Bool :=
    (oW).bind fun r1 =>
    (qT r1 40).bind fun r3 =>
    (wD r1 1 40 ([300])).bind fun r4 =>
    (uA r1 0 61).bind fun r5 =>
    (bif decide (r3.2 = 0) then (some (decide (r4.2.2 = 0))) else (some false)).bind fun b6 =>
    (bif b6 then (some (decide (r5.2 = 0))) else (some false)).bind fun b7 =>
    (bif b7 then ((oH r3.1 ([0, 2, 1])).bind fun r8 =>
    some r8) else (some false)).bind fun b9 =>
    (bif b9 then (some (decide (r4.1 = 1))) else (some false)).bind fun b10 =>
    (bif b10 then (some (decide (r4.2.1 = 3))) else (some false)).bind fun b11 =>
    (bif b11 then (some (decide (r5.1 = 200))) else (some false)).bind fun b12 =>
    some b12

def mO (l_0 : aP) : Option aP :=
    (app 40 ([] : List aC) l_0.Reports).bind fun x4 =>
    (app 24 ([] : List aZ) l_0.Bans).bind fun x5 =>
    (app 24 ([] : List aZ) l_0.Frozen).bind fun x6 =>
    some (aP.mk l_0.Players l_0.Counts x4 x5 x6)

def oY : Option Bool :=
    some false

def hY (l_0 : List aZ) (player_0 : Int) (week_0 : Int) : Nat → Int → Option Bool
  | 0, _ => none
  | k0 + 1, i_0 =>
    bif decide (i_0 < (l_0.length : Int)) then ((idx l_0 i_0).bind fun x1 =>
    (bif decide (x1.Player = player_0) then ((idx l_0 i_0).bind fun x2 =>
    (idx l_0 i_0).bind fun x3 =>
    (eK week_0 x2.From x3.To).bind fun r4 =>
    some r4) else (some false)).bind fun b5 =>
    bif b5 then (some true)
    else ((hY l_0 player_0 week_0 k0) (w64 (i_0 + 1))))
    else (oY)

def iX (l_0 : List aZ) (player_1 : Int) (week_2 : Int) : Option Bool :=
    hY l_0 player_1 week_2 BIG 0

def mQ (player_100 : Int) (week_100 : Int) (points_100 : Int) (id_100 : Int) (o8_100 : aP) (o_100 : Int) (o_100_2 : Int) (o13_100 : List aC) (o13_100_2 : List aZ) (o13_100_3 : List aZ) : Option aP :=
    (app 40 o13_100 ([(aC.mk id_100 player_100 week_100 points_100 false)])).bind fun x9 =>
    some (aP.mk o_100 o_100_2 x9 o13_100_2 o13_100_3)

def hZ (player_0 : Int) (week_0 : Int) (points_0 : Int) (l_0 : aP) (o8_0 : aP) (o_0 : Int) (o_0_2 : Int) (o13_0 : List aC) (o13_0_2 : List aZ) (o13_0_3 : List aZ) : Nat → Int → Int → Option aP
  | 0, _, _ => none
  | k0 + 1, id_0, i_0 =>
    bif decide (i_0 < (l_0.Reports.length : Int)) then ((idx l_0.Reports i_0).bind fun x8 =>
    (hZ player_0 week_0 points_0 l_0 o8_0 o_0 o_0_2 o13_0 o13_0_2 o13_0_3 k0) (max id_0 (w64 (x8.Id + 1))) (w64 (i_0 + 1)))
    else (mQ player_0 week_0 points_0 id_0 o8_0 o_0 o_0_2 o13_0 o13_0_2 o13_0_3)

def mP (l_0 : aP) (player_1 : Int) (week_2 : Int) (points_3 : Int) : Option aP :=
    (mO l_0).bind fun r3 =>
    hZ player_1 week_2 points_3 l_0 (aP.mk 0 0 ([] : List aC) ([] : List aZ) ([] : List aZ)) r3.Players r3.Counts r3.Reports r3.Bans r3.Frozen BIG 0 0

def gO (again0 : (List aC) → Int → Option ((List aC))) (l_101 : List aC) (out_101 : List aC) (i_101 : Int) : Option ((List aC)) :=
    again0 out_101 (w64 (i_101 + 1))

def jD (again0 : (List aC) → Int → Option ((List aC))) (l_102 : List aC) (out_102 : List aC) (i_102 : Int) (atv_102 : Int) (known_102 : Bool) : Option ((List aC)) :=
    bif !known_102 then ((idx l_102 i_102).bind fun x6 =>
    (sub out_102 atv_102 (out_102.length : Int)).bind fun x7 =>
    (app 40 ([x6]) x7).bind fun x8 =>
    (sub out_102 0 atv_102).bind fun x10 =>
    (app 40 ([] : List aC) x10).bind fun x11 =>
    (app 40 x11 x8).bind fun x13 =>
    gO again0 l_102 x13 i_102)
    else (gO again0 l_102 out_102 i_102)

def eN (again0 : (List aC) → Int → Option ((List aC))) (l_2 : List aC) (out_2 : List aC) (i_2 : Int) : Nat → Int → Bool → Int → Option ((List aC))
  | 0, _, _, _ => none
  | k2 + 1, atv_2, known_2, k_2 =>
    bif decide (k_2 < (out_2.length : Int)) then ((bif known_2 then (some true) else ((idx out_2 k_2).bind fun x1 =>
    (idx l_2 i_2).bind fun x2 =>
    some (decide (x1 = x2)))).bind fun b3 =>
    (idx out_2 k_2).bind fun x4 =>
    (idx l_2 i_2).bind fun x5 =>
    bif decide (x4.Id ≤ x5.Id) then ((eN again0 l_2 out_2 i_2 k2) (w64 (k_2 + 1)) b3 (w64 (k_2 + 1)))
    else ((eN again0 l_2 out_2 i_2 k2) atv_2 b3 (w64 (k_2 + 1))))
    else (jD again0 l_2 out_2 i_2 atv_2 known_2)

def nA (out_100 : List aC) : Option ((List aC)) :=
    some out_100

def eM (l_0 : List aC) : Nat → (List aC) → Int → Option ((List aC))
  | 0, _, _ => none
  | k0 + 1, out_0, i_0 =>
    bif decide (i_0 < (l_0.length : Int)) then (eN (eM l_0 k0) l_0 out_0 i_0 BIG 0 false 0)
    else (nA out_0)

def iY (l_0 : List aC) : Option ((List aC)) :=
    eM l_0 BIG ([] : List aC) 0

def pR (n_100 : Int) : Option Int :=
    some n_100

def gP (week_0 : Int) (l_0 : aP) (r_0 : aC) : Nat → Int → Int → Option Int
  | 0, _, _ => none
  | k0 + 1, n_0, w_0 =>
    bif decide (w_0 ≤ week_0) then ((iX l_0.Frozen r_0.Player w_0).bind fun r3 =>
    bif !r3 then ((gP week_0 l_0 r_0 k0) (w64 (n_0 + 1)) (w64 (w_0 + 1)))
    else ((gP week_0 l_0 r_0 k0) n_0 (w64 (w_0 + 1))))
    else (pR n_0)

def lX (l_0 : aP) (r_1 : aC) (week_2 : Int) : Option Int :=
    gP week_2 l_0 r_1 BIG 0 (w64 (r_1.Week + 1))

def mZ (out_100 : List aC) : Option ((List aC)) :=
    some out_100

def eL (player_0 : Int) (week_0 : Int) (allv_0 : List aC) (l_0 : aP) : Nat → Int → (List aC) → Option ((List aC))
  | 0, _, _ => none
  | k0 + 1, i_0, out_0 =>
    bif decide (i_0 < (allv_0.length : Int)) then ((idx allv_0 i_0).bind fun x4 =>
    (bif decide (x4.Player = player_0) then (some (decide (x4.Week ≤ week_0))) else (some false)).bind fun b6 =>
    (bif b6 then ((lX l_0 x4 week_0).bind fun r7 =>
    some (decide (r7 < 52))) else (some false)).bind fun b8 =>
    (bif b8 then ((iX l_0.Bans player_0 x4.Week).bind fun r9 =>
    some (!r9)) else (some false)).bind fun b10 =>
    bif b10 then ((app 40 out_0 ([x4])).bind fun x11 =>
    (eL player_0 week_0 allv_0 l_0 k0) (w64 (i_0 + 1)) x11)
    else ((eL player_0 week_0 allv_0 l_0 k0) (w64 (i_0 + 1)) out_0))
    else (mZ out_0)

def fZ (l_0 : aP) (player_1 : Int) (week_2 : Int) : Option ((List aC)) :=
    (iY l_0.Reports).bind fun r3 =>
    eL player_1 week_2 r3 l_0 BIG 0 ([] : List aC)

def iQ (l_0 : aP) (player_1 : Int) (week_2 : Int) : Option Bool :=
    (iX l_0.Bans player_1 week_2).bind fun r2 =>
    (bif !r2 then ((fZ l_0 player_1 week_2).bind fun r3 =>
    some (decide (0 < (r3.length : Int)))) else (some false)).bind fun b4 =>
    some b4

def oM (again2 : Int → (List aC) → Option ((List aC))) (allv_103 : List aC) (must_103 : Int) (i_103 : Int) (l_103 : aP) (out_103 : List aC) : Option ((List aC)) :=
    again2 (w64 (i_103 + 1)) out_103

def oN (again2 : Int → (List aC) → Option ((List aC))) (allv_104 : List aC) (must_104 : Int) (i_104 : Int) (better_104 : Int) (l_104 : aP) (out_104 : List aC) : Option ((List aC)) :=
    (idx allv_104 i_104).bind fun x13 =>
    (bif x13.Must then (some true) else (some (decide (better_104 < (w64 (l_104.Counts - must_104)))))).bind fun b14 =>
    bif b14 then ((idx allv_104 i_104).bind fun x15 =>
    (app 40 out_104 ([x15])).bind fun x16 =>
    oM again2 allv_104 must_104 i_104 l_104 x16)
    else (oM again2 allv_104 must_104 i_104 l_104 out_104)

def iZ (again2 : Int → (List aC) → Option ((List aC))) (allv_4 : List aC) (must_4 : Int) (i_4 : Int) (l_4 : aP) (out_4 : List aC) : Nat → Int → Int → Option ((List aC))
  | 0, _, _ => none
  | k4 + 1, better_4, k_4 =>
    bif decide (k_4 < (allv_4.length : Int)) then ((idx allv_4 k_4).bind fun x5 =>
    (bif !x5.Must then ((idx allv_4 k_4).bind fun x6 =>
    (idx allv_4 i_4).bind fun x7 =>
    (bif decide (x7.Points < x6.Points) then (some true) else ((idx allv_4 k_4).bind fun x8 =>
    (idx allv_4 i_4).bind fun x9 =>
    (bif decide (x8.Points = x9.Points) then (some (decide (k_4 < i_4))) else (some false)).bind fun b10 =>
    some b10)).bind fun b11 =>
    some b11) else (some false)).bind fun b12 =>
    bif b12 then ((iZ again2 allv_4 must_4 i_4 l_4 out_4 k4) (w64 (better_4 + 1)) (w64 (k_4 + 1)))
    else ((iZ again2 allv_4 must_4 i_4 l_4 out_4 k4) better_4 (w64 (k_4 + 1))))
    else (oN again2 allv_4 must_4 i_4 better_4 l_4 out_4)

def rO (out_102 : List aC) : Option ((List aC)) :=
    some out_102

def gV (allv_2 : List aC) (must_2 : Int) (l_2 : aP) : Nat → Int → (List aC) → Option ((List aC))
  | 0, _, _ => none
  | k2 + 1, i_2, out_2 =>
    bif decide (i_2 < (allv_2.length : Int)) then (iZ (gV allv_2 must_2 l_2 k2) allv_2 must_2 i_2 l_2 out_2 BIG 0 0)
    else (rO out_2)

def oL (allv_100 : List aC) (must_100 : Int) (l_100 : aP) : Option ((List aC)) :=
    gV allv_100 must_100 l_100 BIG 0 ([] : List aC)

def gU (allv_0 : List aC) (l_0 : aP) : Nat → Int → Int → Option ((List aC))
  | 0, _, _ => none
  | k0 + 1, must_0, i_0 =>
    bif decide (i_0 < (allv_0.length : Int)) then ((idx allv_0 i_0).bind fun x3 =>
    bif x3.Must then ((gU allv_0 l_0 k0) (w64 (must_0 + 1)) (w64 (i_0 + 1)))
    else ((gU allv_0 l_0 k0) must_0 (w64 (i_0 + 1))))
    else (oL allv_0 must_0 l_0)

def qK (l_0 : aP) (player_1 : Int) (week_2 : Int) : Option ((List aC)) :=
    (fZ l_0 player_1 week_2).bind fun r2 =>
    gU r2 l_0 BIG 0 0

def qW (sum_100 : Int) (must_100 : Int) : Option (Int × Int) :=
    some (sum_100, must_100)

def iM (allv_0 : List aC) : Nat → Int → Int → Int → Option (Int × Int)
  | 0, _, _, _ => none
  | k0 + 1, sum_0, must_0, i_0 =>
    bif decide (i_0 < (allv_0.length : Int)) then ((idx allv_0 i_0).bind fun x3 =>
    (idx allv_0 i_0).bind fun x4 =>
    bif x4.Must then ((idx allv_0 i_0).bind fun x5 =>
    (iM allv_0 k0) (w64 (sum_0 + x3.Points)) (w64 (must_0 + x5.Points)) (w64 (i_0 + 1)))
    else ((iM allv_0 k0) (w64 (sum_0 + x3.Points)) must_0 (w64 (i_0 + 1))))
    else (qW sum_0 must_0)

def nN (l_0 : aP) (player_1 : Int) (week_2 : Int) : Option (Int × Int) :=
    (qK l_0 player_1 week_2).bind fun r2 =>
    iM r2 BIG 0 0 0

def pS (l_0 : aP) (a_1 : Int) (b_2 : Int) (week_3 : Int) : Option Bool :=
    (nN l_0 a_1 week_3).bind fun r2 =>
    (nN l_0 b_2 week_3).bind fun r3 =>
    bif !decide (r2.1 = r3.1) then (some (decide (r3.1 < r2.1)))
    else (bif !decide (r2.2 = r3.2) then (some (decide (r3.2 < r2.2)))
    else ((fZ l_0 a_1 week_3).bind fun r4 =>
    (fZ l_0 b_2 week_3).bind fun r5 =>
    bif !decide ((r4.length : Int) = (r5.length : Int)) then (some (decide ((r4.length : Int) < (r5.length : Int))))
    else (some (decide (a_1 < b_2)))))

def kW (again0 : (List Int) → Int → Option ((List Int))) (week_101 : Int) (out_101 : List Int) (p_101 : Int) (l_101 : aP) : Option ((List Int)) :=
    again0 out_101 (w64 (p_101 + 1))

def pA (again0 : (List Int) → Int → Option ((List Int))) (week_102 : Int) (out_102 : List Int) (p_102 : Int) (atv_102 : Int) (l_102 : aP) : Option ((List Int)) :=
    (sub out_102 atv_102 (out_102.length : Int)).bind fun x6 =>
    (app 8 ([p_102]) x6).bind fun x7 =>
    (sub out_102 0 atv_102).bind fun x9 =>
    (app 8 ([] : List Int) x9).bind fun x10 =>
    (app 8 x10 x7).bind fun x12 =>
    kW again0 week_102 x12 p_102 l_102

def jN (again0 : (List Int) → Int → Option ((List Int))) (week_2 : Int) (out_2 : List Int) (p_2 : Int) (l_2 : aP) : Nat → Int → Option ((List Int))
  | 0, _ => none
  | k2 + 1, atv_2 =>
    (bif decide (atv_2 < (out_2.length : Int)) then ((idx out_2 atv_2).bind fun x3 =>
    (pS l_2 x3 p_2 week_2).bind fun r4 =>
    some r4) else (some false)).bind fun b5 =>
    bif b5 then ((jN again0 week_2 out_2 p_2 l_2 k2) (w64 (atv_2 + 1)))
    else (pA again0 week_2 out_2 p_2 atv_2 l_2)

def sJ (out_100 : List Int) : Option ((List Int)) :=
    some out_100

def iA (week_0 : Int) (l_0 : aP) : Nat → (List Int) → Int → Option ((List Int))
  | 0, _, _ => none
  | k0 + 1, out_0, p_0 =>
    bif decide (p_0 < l_0.Players) then ((iQ l_0 p_0 week_0).bind fun r2 =>
    bif !r2 then (kW (iA week_0 l_0 k0) week_0 out_0 p_0 l_0)
    else (jN (iA week_0 l_0 k0) week_0 out_0 p_0 l_0 BIG 0))
    else (sJ out_0)

def oS (l_0 : aP) (week_1 : Int) : Option ((List Int)) :=
    iA week_1 l_0 BIG ([] : List Int) 0

def rN : Option Int :=
    some 0

def gT (player_0 : Int) (allv_0 : List Int) : Nat → Int → Option Int
  | 0, _ => none
  | k0 + 1, i_0 =>
    bif decide (i_0 < (allv_0.length : Int)) then ((idx allv_0 i_0).bind fun x3 =>
    bif decide (x3 = player_0) then (some (w64 (i_0 + 1)))
    else ((gT player_0 allv_0 k0) (w64 (i_0 + 1))))
    else (rN)

def tT (l_0 : aP) (player_1 : Int) (week_2 : Int) : Option Int :=
    (oS l_0 week_2).bind fun r2 =>
    gT player_1 r2 BIG 0

def kL (l_0 : aP) (player_1 : Int) (week_2 : Int) : Option Bool :=
    (iK l_0).bind fun r2 =>
    (bif !r2 then ((jH l_0).bind fun r3 =>
    some (decide (r3 = 0))) else (some false)).bind fun b4 =>
    (bif b4 then (some (decide (0 ≤ player_1))) else (some false)).bind fun b5 =>
    (bif b5 then (some (decide (player_1 < l_0.Players))) else (some false)).bind fun b6 =>
    (bif b6 then (some (decide (0 ≤ week_2))) else (some false)).bind fun b7 =>
    (bif b7 then (some (decide (week_2 ≤ 250))) else (some false)).bind fun b8 =>
    some b8

def nK (l_0 : aP) (player_1 : Int) (week_2 : Int) : Option (Int × Int) :=
    (nX l_0 player_1 week_2).bind fun r2 =>
    sX r2.1 (bif !decide (r2.2 = 0) then (some (0, r2.2))
    else (none)) fun y3 =>
    bif !decide (r2.2 = 0) then (some (0, r2.2))
    else ((jJ y3 player_1 week_2).bind fun r6 =>
    some (r6, 0))

def nW (l_0 : aP) (player_1 : Int) (week_2 : Int) : Option (Int × Int) :=
    (nX l_0 player_1 week_2).bind fun r2 =>
    sX r2.1 (bif !decide (r2.2 = 0) then (some (0, r2.2))
    else (none)) fun y3 =>
    bif !decide (r2.2 = 0) then (some (0, r2.2))
    else ((lG y3 player_1 week_2).bind fun r6 =>
    bif decide (r6 = 0) then (some (0, 3))
    else (some (r6, 0)))

def jC (points_100 : Int) (l_100 : aP) (x_100 : kC) : Option Bool :=
    (mP l_100 x_100.Player x_100.Week points_100).bind fun r24 =>
    (jH r24).bind fun r26 =>
    bif !decide (r26 = 0) then ((jG).bind fun r27 =>
    some r27)
    else ((nK l_100 x_100.Player x_100.Week).bind fun r28 =>
    (nK r24 x_100.Player x_100.Week).bind fun r29 =>
    (bif !decide (r28.2 = 0) then (some true) else (some (!decide (r29.2 = 0)))).bind fun b30 =>
    (bif b30 then (some true) else (some (decide (r29.1 < r28.1)))).bind fun b31 =>
    bif b31 then (some false)
    else ((nW l_100 x_100.Player x_100.Week).bind fun r32 =>
    (nW r24 x_100.Player x_100.Week).bind fun r33 =>
    (bif decide (r32.2 = 0) then ((bif !decide (r33.2 = 0) then (some true) else ((bif decide (r28.1 < r29.1) then (some (decide (r32.1 < r33.1))) else (some false)).bind fun b34 =>
    some b34)).bind fun b35 =>
    some b35) else (some false)).bind fun b36 =>
    bif b36 then (some false)
    else ((jG).bind fun r37 =>
    some r37)))

def fV (points_0 : Int) (allv_0 : List Int) (l_0 : aP) (x_0 : kC) : Nat → Int → Int → Option Bool
  | 0, _, _ => none
  | k0 + 1, last_0, i_0 =>
    bif decide (i_0 < (allv_0.length : Int)) then ((idx allv_0 i_0).bind fun x10 =>
    (bif decide (x10 < 0) then (some true) else ((idx allv_0 i_0).bind fun x11 =>
    some (decide (l_0.Players ≤ x11)))).bind fun b12 =>
    (bif b12 then (some true) else ((idx allv_0 i_0).bind fun x13 =>
    (iQ l_0 x13 x_0.Week).bind fun r14 =>
    some (!r14))).bind fun b15 =>
    bif b15 then (some false)
    else ((idx allv_0 i_0).bind fun x16 =>
    (nK l_0 x16 x_0.Week).bind fun r17 =>
    (idx allv_0 i_0).bind fun x18 =>
    (nW l_0 x18 x_0.Week).bind fun r19 =>
    (bif !decide (r17.2 = 0) then (some true) else (some (!decide (r19.2 = 0)))).bind fun b20 =>
    (bif b20 then (some true) else (some (!decide (r19.1 = (w64 (i_0 + 1)))))).bind fun b21 =>
    (bif b21 then (some true) else ((bif decide (0 ≤ last_0) then (some (decide (last_0 < r17.1))) else (some false)).bind fun b22 =>
    some b22)).bind fun b23 =>
    bif b23 then (some false)
    else ((fV points_0 allv_0 l_0 x_0 k0) r17.1 (w64 (i_0 + 1)))))
    else (jC points_0 l_0 x_0)

def mI (l_0 : aP) (x_1 : kC) (points_2 : Int) : Option Bool :=
    (kL l_0 x_1.Player x_1.Week).bind fun r3 =>
    (bif !r3 then (some true) else (some (decide (9 < (l_0.Reports.length : Int))))).bind fun b4 =>
    (bif b4 then (some true) else (some (decide (points_2 < 0)))).bind fun b5 =>
    (bif b5 then (some true) else (some (decide (2000 < points_2)))).bind fun b6 =>
    bif b6 then ((jG).bind fun r7 =>
    some r7)
    else ((qT l_0 x_1.Week).bind fun r8 =>
    (bif !decide (r8.2 = 0) then (some true) else (some (decide (l_0.Players < (r8.1.length : Int))))).bind fun b9 =>
    bif b9 then (some false)
    else (fV points_2 r8.1 l_0 x_1 BIG (-1) 0))

end Go.Am
