/- Shallow functions, printed by program. -/
import Derived.Test.YtoflekecpkjghaaGreatAmFull
import Derived.Test.YtoflekecpkjghaaGreatAmNd
import Derived.Test.YtoflekecpkjghaaGreatAmSort
namespace Go.Am

def iV (x : List Int) : List D := [.sl 1 (x.map aM)]

structure aV where
  Rounds : Int
  Slots : List Int
  deriving DecidableEq, Inhabited
def bC (x : aV) : List D := [.lit (.int .i64 x.Rounds), .sl 1 (x.Slots.map aM)]

structure aF where
  Kind : Int
  Round : Int
  Place : Int
  Player : Int
  Old : Int
  deriving DecidableEq, Inhabited
def aL (x : aF) : List D := [.lit (.int .i64 x.Kind), .lit (.int .i64 x.Round), .lit (.int .i64 x.Place), .lit (.int .i64 x.Player), .lit (.int .i64 x.Old)]

def aNc (x : List aF) : List D := [.sl 5 (x.map aL)]

structure bZ where
  Player : Int
  One : Int
  Two : Int
  deriving DecidableEq, Inhabited
def bM (x : bZ) : List D := [.lit (.int .i64 x.Player), .lit (.int .i64 x.One), .lit (.int .i64 x.Two)]

def aNd (x : List bZ) : List D := [.sl 3 (x.map bM)]

structure eS where
  Person : Int
  Mille : Int
  deriving DecidableEq, Inhabited
def cS (x : eS) : List D := [.lit (.int .i64 x.Person), .lit (.int .i64 x.Mille)]

def aNa (x : List eS) : List D := [.sl 2 (x.map cS)]

structure dZ where
  Person : Int
  Num : Int
  Den : Int
  deriving DecidableEq, Inhabited
def dB (x : dZ) : List D := [.lit (.int .i64 x.Person), .lit (.int .i64 x.Num), .lit (.int .i64 x.Den)]

def aNb (x : List dZ) : List D := [.sl 3 (x.map dB)]

structure aG where
  Id : Int
  Kind : Int
  Person : Int
  Amount : Int
  deriving DecidableEq, Inhabited
def aE (x : aG) : List D := [.lit (.int .i64 x.Id), .lit (.int .i64 x.Kind), .lit (.int .i64 x.Person), .lit (.int .i64 x.Amount)]

def aMz (x : List aG) : List D := [.sl 4 (x.map aE)]

structure aR where
  Tree : aV
  Slips : List aF
  Prizes : List Int
  Daily : Int
  Teams : List bZ
  Levies : List eS
  Rates : List dZ
  Items : List aG
  deriving DecidableEq, Inhabited
def aP (x : aR) : List D := [.lit (.int .i64 x.Tree.Rounds), .sl 1 (x.Tree.Slots.map aM), .sl 5 (x.Slips.map aL), .sl 1 (x.Prizes.map aM), .lit (.int .i64 x.Daily), .sl 3 (x.Teams.map bM), .sl 2 (x.Levies.map cS), .sl 3 (x.Rates.map dB), .sl 4 (x.Items.map aE)]

structure aS where
  Slots : List Int
  Must : List (List Int)
  deriving DecidableEq, Inhabited
def bN (x : aS) : List D := [.sl 1 (x.Slots.map aM), .sl 1 (x.Must.map iV)]

structure aH where
  round : Int
  place : Int
  deriving DecidableEq, Inhabited
def aT (x : aH) : List D := [.lit (.int .i64 x.round), .lit (.int .i64 x.place)]

structure bI where
  Tree : aV
  players : List Int
  won : List (aH × Int)
  deriving DecidableEq, Inhabited
def bX (x : bI) : List D := [.lit (.int .i64 x.Tree.Rounds), .sl 1 (x.Tree.Slots.map aM), .sl 1 (x.players.map aM), .mp false (x.won.map fun p : aH × Int => ((fun a : aH => Value.agg ((aT a).map cC).toArray) p.1, aM p.2))]

structure bQ where
  Low : Int
  High : Int
  deriving DecidableEq, Inhabited
def bG (x : bQ) : List D := [.lit (.int .i64 x.Low), .lit (.int .i64 x.High)]

structure bD where
  Person : Int
  Gross : Int
  Tax : Int
  Daily : Int
  Fines : Int
  Debt : Int
  Units : Int
  Used : Int
  Rest : Int
  deriving DecidableEq, Inhabited
def bP (x : bD) : List D := [.lit (.int .i64 x.Person), .lit (.int .i64 x.Gross), .lit (.int .i64 x.Tax), .lit (.int .i64 x.Daily), .lit (.int .i64 x.Fines), .lit (.int .i64 x.Debt), .lit (.int .i64 x.Units), .lit (.int .i64 x.Used), .lit (.int .i64 x.Rest)]

def aMo (x : aV) : Prop := okI x.Rounds ∧ (okL okI) x.Slots

def aGt (x : aF) : Prop := okI x.Kind ∧ okI x.Round ∧ okI x.Place ∧ okI x.Player ∧ okI x.Old

def aGu (x : bZ) : Prop := okI x.Player ∧ okI x.One ∧ okI x.Two

def aGr (x : eS) : Prop := okI x.Person ∧ okI x.Mille

def aGs (x : dZ) : Prop := okI x.Person ∧ okI x.Num ∧ okI x.Den

def aGq (x : aG) : Prop := okI x.Id ∧ okI x.Kind ∧ okI x.Person ∧ okI x.Amount

def aKt (x : aR) : Prop := aMo x.Tree ∧ (okL aGt) x.Slips ∧ (okL okI) x.Prizes ∧ okI x.Daily ∧ (okL aGu) x.Teams ∧ (okL aGr) x.Levies ∧ (okL aGs) x.Rates ∧ (okL aGq) x.Items

def mY (p_0 : aR) : Option Bool :=
    (bif decide (8 < (p_0.Tree.Slots.length : Int)) then (some true) else (some (decide (20 < (p_0.Slips.length : Int))))).bind fun b2 =>
    (bif b2 then (some true) else (some (decide (20 < (p_0.Prizes.length : Int))))).bind fun b3 =>
    (bif b3 then (some true) else (some (decide (40 < (p_0.Teams.length : Int))))).bind fun b4 =>
    (bif b4 then (some true) else (some (decide (40 < (p_0.Levies.length : Int))))).bind fun b5 =>
    (bif b5 then (some true) else (some (decide (40 < (p_0.Rates.length : Int))))).bind fun b6 =>
    (bif b6 then (some true) else (some (decide (60 < (p_0.Items.length : Int))))).bind fun b7 =>
    some b7

def eT (n_0 : Int) (low_1 : Int) (high_2 : Int) : Option Bool :=
    (bif decide (low_1 ≤ n_0) then (some (decide (n_0 ≤ high_2))) else (some false)).bind fun b1 =>
    some b1

def sN (again0 : Int → Option Bool) (i_101 : Int) (t_101 : aV) : Option Bool :=
    again0 (w64 (i_101 + 1))

def sO (again0 : Int → Option Bool) (i_102 : Int) (t_102 : aV) : Option Bool :=
    sN again0 i_102 t_102

def gY (again0 : Int → Option Bool) (i_2 : Int) (t_2 : aV) : Nat → Int → Option Bool
  | 0, _ => none
  | k2 + 1, k_2 =>
    bif decide (k_2 < i_2) then ((idx t_2.Slots k_2).bind fun x12 =>
    (idx t_2.Slots i_2).bind fun x13 =>
    (bif decide (x12 = x13) then ((idx t_2.Slots i_2).bind fun x14 =>
    some (!decide (x14 = (-1)))) else (some false)).bind fun b15 =>
    bif b15 then (some false)
    else ((gY again0 i_2 t_2 k2) (w64 (k_2 + 1))))
    else (sO again0 i_2 t_2)

def sM : Option Bool :=
    some true

def gX (t_0 : aV) : Nat → Int → Option Bool
  | 0, _ => none
  | k0 + 1, i_0 =>
    bif decide (i_0 < (t_0.Slots.length : Int)) then ((idx t_0.Slots i_0).bind fun x5 =>
    (eT x5 (-1) 999).bind fun r6 =>
    (bif !r6 then (some true) else ((bif decide ((i_0.tmod 2) = 1) then ((idx t_0.Slots i_0).bind fun x7 =>
    some (decide (x7 = (-1)))) else (some false)).bind fun b8 =>
    (bif b8 then ((idx t_0.Slots (w64 (i_0 - 1))).bind fun x9 =>
    some (decide (x9 = (-1)))) else (some false)).bind fun b10 =>
    some b10)).bind fun b11 =>
    bif b11 then (some false)
    else (gY (gX t_0 k0) i_0 t_0 BIG 0))
    else (sM)

def mE (t_0 : aV) : Option Bool :=
    (eT t_0.Rounds 1 5).bind fun r2 =>
    (bif !r2 then (some true) else ((chk (decide (0 ≤ (IntKind.u64.wrap t_0.Rounds)))).bind fun u3 =>
    some (!decide ((t_0.Slots.length : Int) = (w64 (1 * 2 ^ (min (IntKind.u64.wrap t_0.Rounds).toNat 64))))))).bind fun b4 =>
    bif b4 then (some false)
    else (gX t_0 BIG 0)

def mF (t_0 : aV) (round_1 : Int) : Option Int :=
    (chk (decide (0 ≤ (IntKind.u64.wrap (w64 ((w64 (t_0.Rounds - 1)) - round_1)))))).bind fun u2 =>
    some (w64 (1 * 2 ^ (min (IntKind.u64.wrap (w64 ((w64 (t_0.Rounds - 1)) - round_1))).toNat 64)))

def nS (t_0 : aV) (round_1 : Int) (place_2 : Int) : Option Bool :=
    (eT round_1 0 (w64 (t_0.Rounds - 1))).bind fun r2 =>
    (bif r2 then ((mF t_0 round_1).bind fun r3 =>
    (eT place_2 0 (w64 (r3 - 1))).bind fun r4 =>
    some r4) else (some false)).bind fun b5 =>
    some b5

def oP (t_0 : aV) (x_1 : aF) : Option Bool :=
    (eT x_1.Player 0 999).bind fun r3 =>
    bif !r3 then (some false)
    else (bif decide (x_1.Kind = 5) then ((bif decide (x_1.Round = 0) then ((eT x_1.Place 0 (w64 ((t_0.Slots.length : Int) - 1))).bind fun r4 =>
    some r4) else (some false)).bind fun b5 =>
    (bif b5 then ((eT x_1.Old 0 999).bind fun r6 =>
    some r6) else (some false)).bind fun b7 =>
    some b7)
    else ((eT x_1.Kind 1 4).bind fun r8 =>
    (bif !r8 then (some true) else ((nS t_0 x_1.Round x_1.Place).bind fun r9 =>
    some (!r9))).bind fun b10 =>
    (bif b10 then (some true) else (some (!decide (x_1.Old = 0)))).bind fun b11 =>
    bif b11 then (some false)
    else ((bif decide (0 < x_1.Round) then (some true) else ((idx t_0.Slots (w64 (2 * x_1.Place))).bind fun x12 =>
    (bif !decide (x12 = (-1)) then ((idx t_0.Slots (w64 ((w64 (2 * x_1.Place)) + 1))).bind fun x13 =>
    some (!decide (x13 = (-1)))) else (some false)).bind fun b14 =>
    some b14)).bind fun b15 =>
    some b15)))

def lP (again0 : Int → (List aF) → Option ((List aF))) (l_101 : List aF) (i_101 : Int) (out_101 : List aF) : Option ((List aF)) :=
    again0 (w64 (i_101 + 1)) out_101

def nU (again0 : Int → (List aF) → Option ((List aF))) (l_102 : List aF) (i_102 : Int) (twin_102 : Bool) (out_102 : List aF) : Option ((List aF)) :=
    bif !twin_102 then ((idx l_102 i_102).bind fun x5 =>
    (app 40 out_102 ([x5])).bind fun x6 =>
    lP again0 l_102 i_102 x6)
    else (lP again0 l_102 i_102 out_102)

def iS (again0 : Int → (List aF) → Option ((List aF))) (l_2 : List aF) (i_2 : Int) (out_2 : List aF) : Nat → Bool → Int → Option ((List aF))
  | 0, _, _ => none
  | k2 + 1, twin_2, k_2 =>
    bif decide (k_2 < (out_2.length : Int)) then ((bif twin_2 then (some true) else ((idx out_2 k_2).bind fun x2 =>
    (idx l_2 i_2).bind fun x3 =>
    some (decide (x2 = x3)))).bind fun b4 =>
    (iS again0 l_2 i_2 out_2 k2) b4 (w64 (k_2 + 1)))
    else (nU again0 l_2 i_2 twin_2 out_2)

def tX (out_100 : List aF) : Option ((List aF)) :=
    some out_100

def eZ (l_0 : List aF) : Nat → Int → (List aF) → Option ((List aF))
  | 0, _, _ => none
  | k0 + 1, i_0, out_0 =>
    bif decide (i_0 < (l_0.length : Int)) then (iS (eZ l_0 k0) l_0 i_0 out_0 BIG false 0)
    else (tX out_0)

def oB (l_0 : List aF) : Option ((List aF)) :=
    eZ l_0 BIG 0 ([] : List aF)

def vQ : Option Bool :=
    some false

def lC (l_0 : List Int) (n_0 : Int) : Nat → Int → Option Bool
  | 0, _ => none
  | k0 + 1, i_0 =>
    bif decide (i_0 < (l_0.length : Int)) then ((idx l_0 i_0).bind fun x1 =>
    bif decide (x1 = n_0) then (some true)
    else ((lC l_0 n_0 k0) (w64 (i_0 + 1))))
    else (vQ)

def sV (l_0 : List Int) (n_1 : Int) : Option Bool :=
    lC l_0 n_1 BIG 0

def jP (again0 : Int → Int → (List Int) → (List Int) → Option ((List Int) × Bool)) (again2 : Int → Int → Bool → (List Int) → Option ((List Int) × Bool)) (allv_103 : List aF) (used_103 : Int) (i_103 : Int) (now_103 : Int) (again_103 : Bool) (t_103 : aV) (out_103 : List Int) (o18_103 : List Int) : Option ((List Int) × Bool) :=
    again2 used_103 now_103 again_103 o18_103

def lL (again0 : Int → Int → (List Int) → (List Int) → Option ((List Int) × Bool)) (again2 : Int → Int → Bool → (List Int) → Option ((List Int) × Bool)) (allv_104 : List aF) (used_104 : Int) (i_104 : Int) (now_104 : Int) (again_104 : Bool) (t_104 : aV) (out_104 : List Int) (nextv_104 : List Int) (o18_104 : List Int) : Option ((List Int) × Bool) :=
    (bif decide (1 < (nextv_104.length : Int)) then (some true) else ((bif decide ((nextv_104.length : Int) = 1) then ((idx nextv_104 0).bind fun x17 =>
    (sV o18_104 x17).bind fun r18 =>
    some r18) else (some false)).bind fun b19 =>
    some b19)).bind fun b20 =>
    bif b20 then (some (([] : List Int), false))
    else (bif decide ((nextv_104.length : Int) = 1) then ((idx nextv_104 0).bind fun x21 =>
    (app 8 o18_104 ([x21])).bind fun x22 =>
    jP again0 again2 allv_104 (w64 (used_104 + 1)) i_104 x21 true t_104 out_104 x22)
    else (jP again0 again2 allv_104 used_104 i_104 now_104 again_104 t_104 out_104 o18_104))

def fK (again0 : Int → Int → (List Int) → (List Int) → Option ((List Int) × Bool)) (again2 : Int → Int → Bool → (List Int) → Option ((List Int) × Bool)) (allv_4 : List aF) (used_4 : Int) (i_4 : Int) (now_4 : Int) (again_4 : Bool) (t_4 : aV) (out_4 : List Int) (o18_4 : List Int) : Nat → Int → (List Int) → Option ((List Int) × Bool)
  | 0, _, _ => none
  | k4 + 1, k_4, nextv_4 =>
    bif decide (k_4 < (allv_4.length : Int)) then ((idx allv_4 k_4).bind fun x9 =>
    (bif decide (x9.Kind = 5) then ((idx allv_4 k_4).bind fun x10 =>
    some (decide (x10.Place = i_4))) else (some false)).bind fun b11 =>
    (bif b11 then ((idx allv_4 k_4).bind fun x12 =>
    some (decide (x12.Old = now_4))) else (some false)).bind fun b13 =>
    bif b13 then ((idx allv_4 k_4).bind fun x14 =>
    (app 8 nextv_4 ([x14.Player])).bind fun x15 =>
    (fK again0 again2 allv_4 used_4 i_4 now_4 again_4 t_4 out_4 o18_4 k4) (w64 (k_4 + 1)) x15)
    else ((fK again0 again2 allv_4 used_4 i_4 now_4 again_4 t_4 out_4 o18_4 k4) (w64 (k_4 + 1)) nextv_4))
    else (lL again0 again2 allv_4 used_4 i_4 now_4 again_4 t_4 out_4 nextv_4 o18_4)

def rP (again0 : Int → Int → (List Int) → (List Int) → Option ((List Int) × Bool)) (allv_101 : List aF) (used_101 : Int) (i_101 : Int) (t_101 : aV) (out_101 : List Int) (o18_101 : List Int) : Option ((List Int) × Bool) :=
    again0 used_101 (w64 (i_101 + 1)) out_101 o18_101

def oA (again0 : Int → Int → (List Int) → (List Int) → Option ((List Int) × Bool)) (allv_102 : List aF) (used_102 : Int) (i_102 : Int) (now_102 : Int) (t_102 : aV) (out_102 : List Int) (o18_102 : List Int) : Option ((List Int) × Bool) :=
    (app 8 out_102 ([now_102])).bind fun x24 =>
    rP again0 allv_102 used_102 i_102 t_102 x24 o18_102

def gN (again0 : Int → Int → (List Int) → (List Int) → Option ((List Int) × Bool)) (allv_2 : List aF) (i_2 : Int) (t_2 : aV) (out_2 : List Int) : Nat → Int → Int → Bool → (List Int) → Option ((List Int) × Bool)
  | 0, _, _, _, _ => none
  | k2 + 1, used_2, now_2, again_2, o18_2 =>
    bif again_2 then (fK again0 (gN again0 allv_2 i_2 t_2 out_2 k2) allv_2 used_2 i_2 now_2 false t_2 out_2 o18_2 BIG 0 ([] : List Int))
    else (oA again0 allv_2 used_2 i_2 now_2 t_2 out_2 o18_2)

def rQ (used_106 : Int) (out_106 : List Int) : Option ((List Int) × Bool) :=
    some (out_106, decide (used_106 = 0))

def fL (allv_6 : List aF) (out_6 : List Int) : Nat → Int → Int → Option ((List Int) × Bool)
  | 0, _, _ => none
  | k6 + 1, used_6, k_6 =>
    bif decide (k_6 < (allv_6.length : Int)) then ((idx allv_6 k_6).bind fun x26 =>
    bif decide (x26.Kind = 5) then ((fL allv_6 out_6 k6) (w64 (used_6 - 1)) (w64 (k_6 + 1)))
    else ((fL allv_6 out_6 k6) used_6 (w64 (k_6 + 1))))
    else (rQ used_6 out_6)

def rO (allv_100 : List aF) (used_100 : Int) (out_100 : List Int) : Option ((List Int) × Bool) :=
    fL allv_100 out_100 BIG used_100 0

def eO (allv_0 : List aF) (t_0 : aV) : Nat → Int → Int → (List Int) → (List Int) → Option ((List Int) × Bool)
  | 0, _, _, _, _ => none
  | k0 + 1, used_0, i_0, out_0, o18_0 =>
    bif decide (i_0 < (t_0.Slots.length : Int)) then ((idx t_0.Slots i_0).bind fun x7 =>
    gN (eO allv_0 t_0 k0) allv_0 i_0 t_0 out_0 BIG used_0 x7 true o18_0)
    else (rO allv_0 used_0 out_0)

def nT (t_0 : aV) (l_1 : List aF) : Option ((List Int) × Bool) :=
    (oB l_1).bind fun r2 =>
    (app 8 ([] : List Int) t_0.Slots).bind fun x4 =>
    eO r2 t_0 BIG 0 0 ([] : List Int) x4

def tV (again0 : Int → (List (List Int)) → (List Int) → Option (aS × Bool)) (l_101 : List aF) (slots_101 : List Int) (r_101 : Int) (t_101 : aV) (o4_101 : aS) (d_101 : List (List Int)) (d_101_2 : List Int) : Option (aS × Bool) :=
    again0 (w64 (r_101 + 1)) d_101 d_101_2

def lN (again0 : Int → (List (List Int)) → (List Int) → Option (aS × Bool)) (l_102 : List aF) (slots_102 : List Int) (r_102 : Int) (t_102 : aV) (o4_102 : aS) (d_102 : List (List Int)) (d_102_2 : List Int) (row_102 : List Int) : Option (aS × Bool) :=
    (app 24 d_102 [row_102]).bind fun x24 =>
    tV again0 l_102 slots_102 r_102 t_102 o4_102 x24 d_102_2

def eY (again0 : Int → (List (List Int)) → (List Int) → Option (aS × Bool)) (l_2 : List aF) (slots_2 : List Int) (r_2 : Int) (t_2 : aV) (o4_2 : aS) (d_2 : List (List Int)) (d_2_2 : List Int) : Nat → Int → (List Int) → Option (aS × Bool)
  | 0, _, _ => none
  | k2 + 1, p_2, row_2 =>
    (mF t_2 r_2).bind fun r6 =>
    bif decide (p_2 < r6) then ((bif decide (r_2 = 0) then ((idx slots_2 (w64 (2 * p_2))).bind fun x7 =>
    some (decide (x7 = (-1)))) else (some false)).bind fun b8 =>
    bif b8 then ((idx slots_2 (w64 ((w64 (2 * p_2)) + 1))).bind fun x9 =>
    (bif decide (r_2 = 0) then ((idx slots_2 (w64 ((w64 (2 * p_2)) + 1))).bind fun x10 =>
    some (decide (x10 = (-1)))) else (some false)).bind fun b11 =>
    bif b11 then ((idx slots_2 (w64 (2 * p_2))).bind fun x12 =>
    (app 8 row_2 ([x12])).bind fun x13 =>
    (eY again0 l_2 slots_2 r_2 t_2 o4_2 d_2 d_2_2 k2) (w64 (p_2 + 1)) x13)
    else ((app 8 row_2 ([x9])).bind fun x15 =>
    (eY again0 l_2 slots_2 r_2 t_2 o4_2 d_2 d_2_2 k2) (w64 (p_2 + 1)) x15))
    else ((bif decide (r_2 = 0) then ((idx slots_2 (w64 ((w64 (2 * p_2)) + 1))).bind fun x17 =>
    some (decide (x17 = (-1)))) else (some false)).bind fun b18 =>
    bif b18 then ((idx slots_2 (w64 (2 * p_2))).bind fun x19 =>
    (app 8 row_2 ([x19])).bind fun x20 =>
    (eY again0 l_2 slots_2 r_2 t_2 o4_2 d_2 d_2_2 k2) (w64 (p_2 + 1)) x20)
    else ((app 8 row_2 ([(-2)])).bind fun x22 =>
    (eY again0 l_2 slots_2 r_2 t_2 o4_2 d_2 d_2_2 k2) (w64 (p_2 + 1)) x22)))
    else (lN again0 l_2 slots_2 r_2 t_2 o4_2 d_2 d_2_2 row_2)

def lO (again4 : Int → aS → (List (List Int)) → Option (aS × Bool)) (slots_105 : List Int) (allv_105 : List aF) (i_105 : Int) (o4_105 : aS) (d_105 : List (List Int)) (d_105_2 : List Int) : Option (aS × Bool) :=
    again4 (w64 (i_105 + 1)) o4_105 d_105

def tH (again4 : Int → aS → (List (List Int)) → Option (aS × Bool)) (slots_110 : List Int) (allv_110 : List aF) (i_110 : Int) (o4_110 : aS) (d_110 : List (List Int)) (d_110_2 : List Int) : Option (aS × Bool) :=
    lO again4 slots_110 allv_110 i_110 o4_110 d_110 d_110_2

def iG (again4 : Int → aS → (List (List Int)) → Option (aS × Bool)) (slots_10 : List Int) (allv_10 : List aF) (i_10 : Int) (atv_10 : Int) (d_10_2 : List Int) (x_10 : aF) : Nat → Int → aS → (List (List Int)) → Option (aS × Bool)
  | 0, _, _, _ => none
  | k10 + 1, r_10, o4_10, d_10 =>
    bif decide (r_10 ≤ x_10.Round) then ((chk (decide (0 ≤ (IntKind.u64.wrap (w64 (r_10 + 1)))))).bind fun u36 =>
    (idx d_10 r_10).bind fun x37 =>
    (idx x37 (atv_10.fdiv (2 ^ (min (IntKind.u64.wrap (w64 (r_10 + 1))).toNat 64)))).bind fun x38 =>
    (bif !decide (x38 = (-2)) then ((idx d_10 r_10).bind fun x39 =>
    (idx x39 (atv_10.fdiv (2 ^ (min (IntKind.u64.wrap (w64 (r_10 + 1))).toNat 64)))).bind fun x40 =>
    some (!decide (x40 = x_10.Player))) else (some false)).bind fun b41 =>
    bif b41 then (some ((aS.mk ([] : List Int) ([] : List (List Int))), false))
    else ((idx d_10 r_10).bind fun x42 =>
    (idx x42 (atv_10.fdiv (2 ^ (min (IntKind.u64.wrap (w64 (r_10 + 1))).toNat 64)))).bind fun x43 =>
    (iG again4 slots_10 allv_10 i_10 atv_10 d_10_2 x_10 k10) (w64 (r_10 + 1)) o4_10 (d_10.set r_10.toNat (x42.set (atv_10.fdiv (2 ^ (min (IntKind.u64.wrap (w64 (r_10 + 1))).toNat 64))).toNat x_10.Player))))
    else (tH again4 slots_10 allv_10 i_10 o4_10 d_10 d_10_2)

def iQ (again4 : Int → aS → (List (List Int)) → Option (aS × Bool)) (slots_108 : List Int) (allv_108 : List aF) (i_108 : Int) (atv_108 : Int) (o4_108 : aS) (d_108 : List (List Int)) (d_108_2 : List Int) (x_108 : aF) : Option (aS × Bool) :=
    (bif decide (atv_108 < 0) then (some true) else ((chk (decide (0 ≤ (IntKind.u64.wrap (w64 (x_108.Round + 1)))))).bind fun u34 =>
    some (!decide ((atv_108.fdiv (2 ^ (min (IntKind.u64.wrap (w64 (x_108.Round + 1))).toNat 64))) = x_108.Place)))).bind fun b35 =>
    bif b35 then (some ((aS.mk ([] : List Int) ([] : List (List Int))), false))
    else (iG again4 slots_108 allv_108 i_108 atv_108 d_108_2 x_108 BIG 0 o4_108 d_108)

def eP (again4 : Int → aS → (List (List Int)) → Option (aS × Bool)) (slots_8 : List Int) (allv_8 : List aF) (i_8 : Int) (o4_8 : aS) (d_8 : List (List Int)) (d_8_2 : List Int) (x_8 : aF) : Nat → Int → Int → Option (aS × Bool)
  | 0, _, _ => none
  | k8 + 1, atv_8, s_8 =>
    bif decide (s_8 < (slots_8.length : Int)) then ((idx slots_8 s_8).bind fun x33 =>
    bif decide (x33 = x_8.Player) then ((eP again4 slots_8 allv_8 i_8 o4_8 d_8 d_8_2 x_8 k8) s_8 (w64 (s_8 + 1)))
    else ((eP again4 slots_8 allv_8 i_8 o4_8 d_8 d_8_2 x_8 k8) atv_8 (w64 (s_8 + 1))))
    else (iQ again4 slots_8 allv_8 i_8 atv_8 o4_8 d_8 d_8_2 x_8)

def qK (again4 : Int → aS → (List (List Int)) → Option (aS × Bool)) (slots_106 : List Int) (allv_106 : List aF) (i_106 : Int) (o4_106 : aS) (d_106 : List (List Int)) (d_106_2 : List Int) (x_106 : aF) : Option (aS × Bool) :=
    eP again4 slots_106 allv_106 i_106 o4_106 d_106 d_106_2 x_106 BIG (-1) 0

def iR (again4 : Int → aS → (List (List Int)) → Option (aS × Bool)) (slots_6 : List Int) (allv_6 : List aF) (i_6 : Int) (d_6 : List (List Int)) (d_6_2 : List Int) (x_6 : aF) : Nat → Int → aS → Option (aS × Bool)
  | 0, _, _ => none
  | k6 + 1, k_6, o4_6 =>
    bif decide (k_6 < i_6) then ((idx allv_6 k_6).bind fun x29 =>
    (bif !decide (x29.Kind = 5) then (some (decide (x29.Round = x_6.Round))) else (some false)).bind fun b31 =>
    (bif b31 then (some (decide (x29.Place = x_6.Place))) else (some false)).bind fun b32 =>
    bif b32 then (some ((aS.mk ([] : List Int) ([] : List (List Int))), false))
    else ((iR again4 slots_6 allv_6 i_6 d_6 d_6_2 x_6 k6) (w64 (k_6 + 1)) o4_6))
    else (qK again4 slots_6 allv_6 i_6 o4_6 d_6 d_6_2 x_6)

def tW (o4_104 : aS) (d_104 : List (List Int)) (d_104_2 : List Int) : Option (aS × Bool) :=
    some ((aS.mk d_104_2 d_104), true)

def dO (slots_4 : List Int) (allv_4 : List aF) (d_4_2 : List Int) : Nat → Int → aS → (List (List Int)) → Option (aS × Bool)
  | 0, _, _, _ => none
  | k4 + 1, i_4, o4_4, d_4 =>
    bif decide (i_4 < (allv_4.length : Int)) then ((idx allv_4 i_4).bind fun x27 =>
    bif decide (x27.Kind = 5) then (lO (dO slots_4 allv_4 d_4_2 k4) slots_4 allv_4 i_4 o4_4 d_4 d_4_2)
    else (iR (dO slots_4 allv_4 d_4_2 k4) slots_4 allv_4 i_4 d_4 d_4_2 x27 BIG 0 o4_4))
    else (tW o4_4 d_4 d_4_2)

def lM (l_100 : List aF) (slots_100 : List Int) (o4_100 : aS) (d_100 : List (List Int)) (d_100_2 : List Int) : Option (aS × Bool) :=
    (oB l_100).bind fun r26 =>
    dO slots_100 r26 d_100_2 BIG 0 o4_100 d_100

def gZ (l_0 : List aF) (slots_0 : List Int) (t_0 : aV) (o4_0 : aS) : Nat → Int → (List (List Int)) → (List Int) → Option (aS × Bool)
  | 0, _, _, _ => none
  | k0 + 1, r_0, d_0, d_0_2 =>
    bif decide (r_0 < t_0.Rounds) then (eY (gZ l_0 slots_0 t_0 o4_0 k0) l_0 slots_0 r_0 t_0 o4_0 d_0 d_0_2 BIG 0 ([] : List Int))
    else (lM l_0 slots_0 o4_0 d_0 d_0_2)

def fM (t_0 : aV) (l_1 : List aF) : Option (aS × Bool) :=
    (nT t_0 l_1).bind fun r3 =>
    bif !r3.2 then (some ((aS.mk ([] : List Int) ([] : List (List Int))), false))
    else (gZ l_1 r3.1 t_0 (aS.mk ([] : List Int) ([] : List (List Int))) BIG 0 ([] : List (List Int)) r3.1)

def kN (l_100 : List aF) (t_100 : aV) : Option Int :=
    (fM t_100 l_100).bind fun r5 =>
    bif !r5.2 then (some 72)
    else (some 0)

def iF (l_0 : List aF) (t_0 : aV) : Nat → Int → Option Int
  | 0, _ => none
  | k0 + 1, i_0 =>
    bif decide (i_0 < (l_0.length : Int)) then ((idx l_0 i_0).bind fun x3 =>
    (oP t_0 x3).bind fun r4 =>
    bif !r4 then (some 71)
    else ((iF l_0 t_0 k0) (w64 (i_0 + 1))))
    else (kN l_0 t_0)

def fO (t_0 : aV) (l_1 : List aF) : Option Int :=
    (mE t_0).bind fun r2 =>
    bif !r2 then (some 70)
    else (bif decide (60 < (l_1.length : Int)) then (some 71)
    else (iF l_1 t_0 BIG 0))

def eC (n_0 : Int) (low_1 : Int) (high_2 : Int) : Option Bool :=
    (bif decide (low_1 ≤ n_0) then (some (decide (n_0 ≤ high_2))) else (some false)).bind fun b1 =>
    some b1

def wE : Option Bool :=
    some false

def iM (player_0 : Int) (p_0 : aR) : Nat → Int → Option Bool
  | 0, _ => none
  | k0 + 1, i_0 =>
    bif decide (i_0 < (p_0.Teams.length : Int)) then ((idx p_0.Teams i_0).bind fun x2 =>
    bif decide (x2.Player = player_0) then (some true)
    else ((iM player_0 p_0 k0) (w64 (i_0 + 1))))
    else (wE)

def lR (p_0 : aR) (player_1 : Int) : Option Bool :=
    iM player_1 p_0 BIG 0

def rE (again0 : Int → Option Bool) (i_101 : Int) (p_101 : aR) : Option Bool :=
    again0 (w64 (i_101 + 1))

def rF (again0 : Int → Option Bool) (i_102 : Int) (p_102 : aR) : Option Bool :=
    rE again0 i_102 p_102

def gA (again0 : Int → Option Bool) (i_2 : Int) (p_2 : aR) (t_2 : bZ) : Nat → Int → Option Bool
  | 0, _ => none
  | k2 + 1, k_2 =>
    bif decide (k_2 < i_2) then ((idx p_2.Teams k_2).bind fun x10 =>
    (bif decide (x10.Player = t_2.Player) then (some true) else (some (decide (x10.One = t_2.One)))).bind fun b12 =>
    (bif b12 then (some true) else (some (decide (x10.Two = t_2.One)))).bind fun b13 =>
    (bif b13 then (some true) else ((bif decide (0 ≤ t_2.Two) then ((bif decide (x10.One = t_2.Two) then (some true) else (some (decide (x10.Two = t_2.Two)))).bind fun b14 =>
    some b14) else (some false)).bind fun b15 =>
    some b15)).bind fun b16 =>
    bif b16 then (some false)
    else ((gA again0 i_2 p_2 t_2 k2) (w64 (k_2 + 1))))
    else (rF again0 i_2 p_2)

def nL (p_106 : aR) : Option Bool :=
    some (decide ((p_106.Teams.length : Int) ≤ 64))

def hZ (p_6 : aR) : Nat → Int → Option Bool
  | 0, _ => none
  | k6 + 1, i_6 =>
    bif decide (i_6 < (p_6.Slips.length : Int)) then ((idx p_6.Slips i_6).bind fun x21 =>
    (bif decide (x21.Kind = 5) then ((idx p_6.Slips i_6).bind fun x22 =>
    (lR p_6 x22.Player).bind fun r23 =>
    some (!r23)) else (some false)).bind fun b24 =>
    bif b24 then (some false)
    else ((hZ p_6 k6) (w64 (i_6 + 1))))
    else (nL p_6)

def kS (p_104 : aR) : Option Bool :=
    hZ p_104 BIG 0

def hY (p_4 : aR) : Nat → Int → Option Bool
  | 0, _ => none
  | k4 + 1, i_4 =>
    bif decide (i_4 < (p_4.Tree.Slots.length : Int)) then ((idx p_4.Tree.Slots i_4).bind fun x17 =>
    (bif !decide (x17 = (-1)) then ((idx p_4.Tree.Slots i_4).bind fun x18 =>
    (lR p_4 x18).bind fun r19 =>
    some (!r19)) else (some false)).bind fun b20 =>
    bif b20 then (some false)
    else ((hY p_4 k4) (w64 (i_4 + 1))))
    else (kS p_4)

def kR (p_100 : aR) : Option Bool :=
    hY p_100 BIG 0

def fZ (p_0 : aR) : Nat → Int → Option Bool
  | 0, _ => none
  | k0 + 1, i_0 =>
    bif decide (i_0 < (p_0.Teams.length : Int)) then ((idx p_0.Teams i_0).bind fun x2 =>
    (eC x2.Player 0 999).bind fun r4 =>
    (bif !r4 then (some true) else ((eC x2.One 0 999).bind fun r5 =>
    some (!r5))).bind fun b6 =>
    (bif b6 then (some true) else ((eC x2.Two (-1) 999).bind fun r7 =>
    some (!r7))).bind fun b8 =>
    (bif b8 then (some true) else (some (decide (x2.One = x2.Two)))).bind fun b9 =>
    bif b9 then (some false)
    else (gA (fZ p_0 k0) i_0 p_0 x2 BIG 0))
    else (kR p_0)

def kO (p_0 : aR) : Option Bool :=
    fZ p_0 BIG 0

def yQ (t_100 : bZ) : Option (bZ × Bool × Bool) :=
    some ((bZ.mk 0 0 0), false, false)

def jW (person_0 : Int) (p_0 : aR) : Nat → Int → bZ → Option (bZ × Bool × Bool)
  | 0, _, _ => none
  | k0 + 1, i_0, t_0 =>
    bif decide (i_0 < (p_0.Teams.length : Int)) then ((idx p_0.Teams i_0).bind fun x3 =>
    (bif decide (x3.One = person_0) then (some true) else ((idx p_0.Teams i_0).bind fun x4 =>
    (bif decide (x4.Two = person_0) then (some (decide (0 ≤ person_0))) else (some false)).bind fun b5 =>
    some b5)).bind fun b6 =>
    bif b6 then ((idx p_0.Teams i_0).bind fun x7 =>
    (idx p_0.Teams i_0).bind fun x8 =>
    some (x7, decide (x8.Two = person_0), true))
    else ((jW person_0 p_0 k0) (w64 (i_0 + 1)) t_0))
    else (yQ t_0)

def oC (p_0 : aR) (person_1 : Int) : Option (bZ × Bool × Bool) :=
    jW person_1 p_0 BIG 0 (bZ.mk 0 0 0)

def iI (p_0 : aR) (person_1 : Int) : Option Bool :=
    (oC p_0 person_1).bind fun r2 =>
    (bif r2.2.2 then (some (decide (0 ≤ person_1))) else (some false)).bind fun b4 =>
    some b4

def qZ (again0 : Int → Option Bool) (i_101 : Int) (p_101 : aR) : Option Bool :=
    again0 (w64 (i_101 + 1))

def rA (again0 : Int → Option Bool) (i_102 : Int) (p_102 : aR) : Option Bool :=
    qZ again0 i_102 p_102

def fX (again0 : Int → Option Bool) (i_2 : Int) (p_2 : aR) : Nat → Int → Option Bool
  | 0, _ => none
  | k2 + 1, k_2 =>
    bif decide (k_2 < i_2) then ((idx p_2.Levies k_2).bind fun x7 =>
    (idx p_2.Levies i_2).bind fun x8 =>
    bif decide (x7.Person = x8.Person) then (some false)
    else ((fX again0 i_2 p_2 k2) (w64 (k_2 + 1))))
    else (rA again0 i_2 p_2)

def rC (again4 : Int → Option Bool) (i_105 : Int) (p_105 : aR) : Option Bool :=
    again4 (w64 (i_105 + 1))

def rD (again4 : Int → Option Bool) (i_106 : Int) (p_106 : aR) : Option Bool :=
    rC again4 i_106 p_106

def fY (again4 : Int → Option Bool) (i_6 : Int) (p_6 : aR) (r_6 : dZ) : Nat → Int → Option Bool
  | 0, _ => none
  | k6 + 1, k_6 =>
    bif decide (k_6 < i_6) then ((idx p_6.Rates k_6).bind fun x16 =>
    bif decide (x16.Person = r_6.Person) then (some false)
    else ((fY again4 i_6 p_6 r_6 k6) (w64 (k_6 + 1))))
    else (rD again4 i_6 p_6)

def rB : Option Bool :=
    some true

def dT (p_4 : aR) : Nat → Int → Option Bool
  | 0, _ => none
  | k4 + 1, i_4 =>
    bif decide (i_4 < (p_4.Rates.length : Int)) then ((idx p_4.Rates i_4).bind fun x9 =>
    (iI p_4 x9.Person).bind fun r11 =>
    (bif !r11 then (some true) else ((eC x9.Num 1 10000).bind fun r12 =>
    some (!r12))).bind fun b13 =>
    (bif b13 then (some true) else ((eC x9.Den 1 10000).bind fun r14 =>
    some (!r14))).bind fun b15 =>
    bif b15 then (some false)
    else (fY (dT p_4 k4) i_4 p_4 x9 BIG 0))
    else (rB)

def kQ (p_100 : aR) : Option Bool :=
    dT p_100 BIG 0

def dS (p_0 : aR) : Nat → Int → Option Bool
  | 0, _ => none
  | k0 + 1, i_0 =>
    bif decide (i_0 < (p_0.Levies.length : Int)) then ((idx p_0.Levies i_0).bind fun x2 =>
    (iI p_0 x2.Person).bind fun r3 =>
    (bif !r3 then (some true) else ((idx p_0.Levies i_0).bind fun x4 =>
    (eC x4.Mille 0 500).bind fun r5 =>
    some (!r5))).bind fun b6 =>
    bif b6 then (some false)
    else (fX (dS p_0 k0) i_0 p_0 BIG 0))
    else (kQ p_0)

def mR (p_0 : aR) : Option Bool :=
    dS p_0 BIG 0

def qX (again0 : Int → Option Bool) (i_101 : Int) (p_101 : aR) : Option Bool :=
    again0 (w64 (i_101 + 1))

def qY (again0 : Int → Option Bool) (i_102 : Int) (p_102 : aR) : Option Bool :=
    qX again0 i_102 p_102

def fW (again0 : Int → Option Bool) (i_2 : Int) (p_2 : aR) (x_2 : aG) : Nat → Int → Option Bool
  | 0, _ => none
  | k2 + 1, k_2 =>
    bif decide (k_2 < i_2) then ((idx p_2.Items k_2).bind fun x13 =>
    (bif decide (x13.Id = x_2.Id) then ((idx p_2.Items k_2).bind fun x14 =>
    some (!decide (x14 = x_2))) else (some false)).bind fun b15 =>
    bif b15 then (some false)
    else ((fW again0 i_2 p_2 x_2 k2) (w64 (k_2 + 1))))
    else (qY again0 i_2 p_2)

def nK (p_100 : aR) : Option Bool :=
    some (decide ((p_100.Items.length : Int) ≤ 40))

def dR (p_0 : aR) : Nat → Int → Option Bool
  | 0, _ => none
  | k0 + 1, i_0 =>
    bif decide (i_0 < (p_0.Items.length : Int)) then ((idx p_0.Items i_0).bind fun x2 =>
    (eC x2.Id 0 99).bind fun r4 =>
    (bif !r4 then (some true) else ((iI p_0 x2.Person).bind fun r5 =>
    some (!r5))).bind fun b6 =>
    (bif b6 then (some true) else ((bif decide (x2.Kind = 1) then ((eC x2.Amount 0 10000000).bind fun r7 =>
    some r7) else (some false)).bind fun b8 =>
    (bif b8 then (some true) else ((bif decide (x2.Kind = 2) then ((eC x2.Amount 0 30).bind fun r9 =>
    some r9) else (some false)).bind fun b10 =>
    some b10)).bind fun b11 =>
    some (!b11))).bind fun b12 =>
    bif b12 then (some false)
    else (fW (dR p_0 k0) i_0 p_0 x2 BIG 0))
    else (nK p_0)

def mQ (p_0 : aR) : Option Bool :=
    dR p_0 BIG 0

def qE (p_100 : aR) : Option Int :=
    (bif !decide ((p_100.Prizes.length : Int) = (w64 (p_100.Tree.Rounds + 1))) then (some true) else ((eC p_100.Daily 0 100000).bind fun r9 =>
    some (!r9))).bind fun b10 =>
    bif b10 then (some 100)
    else ((kO p_100).bind fun r11 =>
    (bif !r11 then (some true) else ((mR p_100).bind fun r12 =>
    some (!r12))).bind fun b13 =>
    bif b13 then (some 101)
    else ((mQ p_100).bind fun r14 =>
    bif !r14 then (some 102)
    else (some 0)))

def iH (p_0 : aR) : Nat → Int → Option Int
  | 0, _ => none
  | k0 + 1, i_0 =>
    bif decide (i_0 < (p_0.Prizes.length : Int)) then ((idx p_0.Prizes i_0).bind fun x3 =>
    (eC x3 0 10000000).bind fun r4 =>
    (bif !r4 then (some true) else ((bif decide (0 < i_0) then ((idx p_0.Prizes i_0).bind fun x5 =>
    (idx p_0.Prizes (w64 (i_0 - 1))).bind fun x6 =>
    some (decide (x5 < x6))) else (some false)).bind fun b7 =>
    some b7)).bind fun b8 =>
    bif b8 then (some 100)
    else ((iH p_0 k0) (w64 (i_0 + 1))))
    else (qE p_0)

def nA (p_0 : aR) : Option Int :=
    (fO p_0.Tree p_0.Slips).bind fun r2 =>
    bif !decide (r2 = 0) then (some r2)
    else (iH p_0 BIG 0)

def nR : Option aR :=
    some (aR.mk (aV.mk 2 ([1, 2, 3, 4])) ([(aF.mk 1 0 0 1 0)]) ([100, 300, 1001]) 40 ([(bZ.mk 1 11 12), (bZ.mk 2 21 22), (bZ.mk 3 31 (-1)), (bZ.mk 4 41 (-1))]) ([(eS.mk 11 250)]) ([(dZ.mk 21 3 2), (dZ.mk 22 1 3)]) ([(aG.mk 1 1 21 30), (aG.mk 2 2 11 2), (aG.mk 3 1 31 160)]))

def gB (n_0 : Int) (low_1 : Int) (high_2 : Int) : Option Bool :=
    (bif decide (low_1 ≤ n_0) then (some (decide (n_0 ≤ high_2))) else (some false)).bind fun b1 =>
    some b1

def vA : Option Bool :=
    some true

def jD (t21_0 : List Int) (t22_0 : Int) (t_0 : aV) : Nat → Int → (List (Int × Int)) → Option Bool
  | 0, _, _ => none
  | k0 + 1, t23_0, o19_0 =>
    bif decide (t23_0 < t22_0) then ((idx t21_0 t23_0).bind fun x6 =>
    bif decide (x6 = (-1)) then ((idx t_0.Slots (aOa t23_0 1)).bind fun x7 =>
    bif decide (x7 = (-1)) then (some false)
    else ((jD t21_0 t22_0 t_0 k0) (w64 (t23_0 + 1)) o19_0))
    else ((bif decide (1 < (dA x6 0 (gR x6 (w64 ((dA x6 0 o19_0) + 1)) o19_0))) then (some true) else ((gB x6 0 999).bind fun r8 =>
    some (!r8))).bind fun b9 =>
    bif b9 then (some false)
    else ((jD t21_0 t22_0 t_0 k0) (w64 (t23_0 + 1)) (gR x6 (w64 ((dA x6 0 o19_0) + 1)) o19_0))))
    else (vA)

def pK (t_0 : aV) : Option Bool :=
    (gB t_0.Rounds 1 5).bind fun r2 =>
    (bif !r2 then (some true) else ((chk (decide (0 ≤ t_0.Rounds))).bind fun u3 =>
    some (!decide ((t_0.Slots.length : Int) = (w64 (1 * 2 ^ (min t_0.Rounds.toNat 64))))))).bind fun b4 =>
    bif b4 then (some false)
    else (jD t_0.Slots (t_0.Slots.length : Int) t_0 BIG 0 ([] : List (Int × Int)))

def nH : Option Int :=
    some (-1)

def fG (s_0 : List aF) (f_0 : aF → Option Bool) (t7_0 : Int) : Nat → Int → Option Int
  | 0, _ => none
  | k0 + 1, t8_0 =>
    bif decide (t8_0 < t7_0) then ((idx s_0 t8_0).bind fun x1 =>
    (f_0 x1).bind fun r2 =>
    bif r2 then (some t8_0)
    else ((fG s_0 f_0 t7_0 k0) (w64 (t8_0 + 1))))
    else (nH)

def jL (s_0 : List aF) (f_1 : aF → Option Bool) : Option Int :=
    fG s_0 f_1 (s_0.length : Int) BIG 0

def iN (s_0 : List aF) (f_1 : aF → Option Bool) : Option Bool :=
    (jL s_0 f_1).bind fun r1 =>
    some (decide (0 ≤ r1))

def pQ (m_0 : aH) (t_1 : aV) : Option Bool :=
    (gB m_0.round 0 (w64 (t_1.Rounds - 1))).bind fun r3 =>
    (bif r3 then ((chk (decide (0 ≤ (w64 (m_0.round + 1))))).bind fun u4 =>
    (gB m_0.place 0 (w64 (((t_1.Slots.length : Int).fdiv (2 ^ (min (w64 (m_0.round + 1)).toNat 64))) - 1))).bind fun r5 =>
    some r5) else (some false)).bind fun b6 =>
    some b6

def tL : Option Int :=
    some (-1)

def jJ (s_0 : List Int) (v_0 : Int) (t7_0 : Int) : Nat → Int → Option Int
  | 0, _ => none
  | k0 + 1, t8_0 =>
    bif decide (t8_0 < t7_0) then ((idx s_0 t8_0).bind fun x1 =>
    bif decide (v_0 = x1) then (some t8_0)
    else ((jJ s_0 v_0 t7_0 k0) (w64 (t8_0 + 1))))
    else (tL)

def iA (s_0 : List Int) (v_1 : Int) : Option Int :=
    jJ s_0 v_1 (s_0.length : Int) BIG 0

def dJ (s_0 : List Int) (v_1 : Int) : Option Bool :=
    (iA s_0 v_1).bind fun r1 =>
    some (decide (0 ≤ r1))

def rN (t_0 : aV) (s_1 : aF) : Option Bool :=
    (gB s_1.Player 0 999).bind fun r3 =>
    bif !r3 then (some false)
    else (bif decide (s_1.Kind = 5) then ((bif decide (s_1.Round = 0) then ((gB s_1.Place 0 (w64 ((t_0.Slots.length : Int) - 1))).bind fun r4 =>
    some r4) else (some false)).bind fun b5 =>
    (bif b5 then ((gB s_1.Old 0 999).bind fun r6 =>
    some r6) else (some false)).bind fun b7 =>
    some b7)
    else ((gB s_1.Kind 1 4).bind fun r9 =>
    (bif !r9 then (some true) else (some (!decide (s_1.Old = 0)))).bind fun b10 =>
    (bif b10 then (some true) else ((pQ (aH.mk s_1.Round s_1.Place) t_0).bind fun r11 =>
    some (!r11))).bind fun b12 =>
    bif b12 then (some false)
    else ((bif decide (0 < s_1.Round) then (some true) else ((sub t_0.Slots (w64 (2 * s_1.Place)) (w64 ((w64 (2 * s_1.Place)) + 2))).bind fun x13 =>
    (dJ x13 (-1)).bind fun r14 =>
    some (!r14))).bind fun b15 =>
    some b15)))

def pL (s_0 : aF) (c_1 : aV) : Option Bool :=
    (rN c_1 s_0).bind fun r2 =>
    some (!r2)

def slices_Clone_int (s_0 : List Int) : Option ((List Int)) :=
    (app 8 ([] : List Int) s_0).bind fun x5 =>
    some x5

def oX (againQ : (aF × Bool) → Prop) (d_100 : List Int) (d_100_2 : aV) (lucky_100 : List (aF × Int)) (o6_100 : aF) : Prop :=
    againQ ((aF.mk 0 0 0 0 0), false)

def iY (againQ : (aF × Bool) → Prop) (slot_0 : Int) (d_0 : List Int) (d_0_2 : aV) (lucky_0 : List (aF × Int)) : Nat → aF → (List (aF × Int)) → Prop
  | 0, _, _ => False
  | k0 + 1, o6_0, left_0 =>
    aOu left_0 (oX againQ d_0 d_0_2 lucky_0 o6_0)
    (fun p5 left6 =>
    nb (bif decide (p5.1.Place = slot_0) then ((idx d_0 slot_0).bind fun x8 =>
    some (decide (p5.1.Old = x8))) else (some false)) fun b9 =>
    bif b9 then (againQ (p5.1, true))
    else ((iY againQ slot_0 d_0 d_0_2 lucky_0 k0) o6_0 left6))

def jC (d_0_Tree : aV) (d_0_players : List Int) (lucky_1 : List (aF × Int)) (slot_2 : Int) (Q : (aF × Bool) → Prop) : Prop :=
    aCz lucky_1 fun left3 =>
    iY Q slot_2 d_0_players d_0_Tree lucky_1 BIG (aF.mk 0 0 0 0 0) left3

def mO (againQ : (Bool × (List Int) × (List (aF × Int))) → Prop) (again0 : Int → (List Int) → (List (aF × Int)) → (List Int) → Prop) (t19_101 : Int) (t20_101 : Int) (d_101 : List Int) (d_101_2 : aV) (lucky_101 : List (aF × Int)) (o14_101 : List Int) : Prop :=
    again0 (w64 (t20_101 + 1)) d_101 lucky_101 o14_101

def mP (againQ : (Bool × (List Int) × (List (aF × Int))) → Prop) (again0 : Int → (List Int) → (List (aF × Int)) → (List Int) → Prop) (t19_102 : Int) (t20_102 : Int) (d_102 : List Int) (d_102_2 : aV) (lucky_102 : List (aF × Int)) (o14_102 : List Int) : Prop :=
    mO againQ again0 t19_102 t20_102 d_102 d_102_2 lucky_102 o14_102

def eN (againQ : (Bool × (List Int) × (List (aF × Int))) → Prop) (again0 : Int → (List Int) → (List (aF × Int)) → (List Int) → Prop) (i_2 : Int) (t19_2 : Int) (t20_2 : Int) (d_2_2 : aV) : Nat → Bool → (List Int) → (List (aF × Int)) → aF → (List Int) → Prop
  | 0, _, _, _, _, _ => False
  | k2 + 1, isv_2, d_2, lucky_2, s_2, o14_2 =>
    bif isv_2 then (nb (dJ o14_2 s_2.Player) fun r5 =>
    bif r5 then (againQ (false, d_2, lucky_2))
    else (nb (idx d_2 i_2) fun x6 =>
    nb (app 8 o14_2 ([s_2.Player])) fun x7 =>
    jC d_2_2 (d_2.set i_2.toNat s_2.Player) (rI s_2 lucky_2) i_2 fun r10 =>
    (eN againQ again0 i_2 t19_2 t20_2 d_2_2 k2) r10.2 (d_2.set i_2.toNat s_2.Player) (rI s_2 lucky_2) r10.1 x7))
    else (mP againQ again0 t19_2 t20_2 d_2 d_2_2 lucky_2 o14_2)

def mN (againQ : (Bool × (List Int) × (List (aF × Int))) → Prop) (d_100 : List Int) (d_100_2 : aV) (lucky_100 : List (aF × Int)) : Prop :=
    againQ (decide ((lucky_100.length : Int) = 0), d_100, lucky_100)

def dD (againQ : (Bool × (List Int) × (List (aF × Int))) → Prop) (t19_0 : Int) (d_0_2 : aV) : Nat → Int → (List Int) → (List (aF × Int)) → (List Int) → Prop
  | 0, _, _, _, _ => False
  | k0 + 1, t20_0, d_0, lucky_0, o14_0 =>
    bif decide (t20_0 < t19_0) then (jC d_0_2 d_0 lucky_0 t20_0 fun r3 =>
    eN againQ (dD againQ t19_0 d_0_2 k0) t20_0 t19_0 t20_0 d_0_2 BIG r3.2 d_0 lucky_0 r3.1 o14_0)
    else (mN againQ d_0 d_0_2 lucky_0)

def lY (d_0_Tree : aV) (d_0_players : List Int) (lucky_1 : List (aF × Int)) (Q : (Bool × (List Int) × (List (aF × Int))) → Prop) : Prop :=
    nb (slices_Clone_int d_0_Tree.Slots) fun r1 =>
    dD Q (d_0_players.length : Int) d_0_Tree BIG 0 d_0_players lucky_1 r1

def oY (round_0 : Int) (slot_1 : Int) : Option aH :=
    (chk (decide (0 ≤ (w64 (round_0 + 1))))).bind fun u2 =>
    some (aH.mk round_0 (slot_1.fdiv (2 ^ (min (w64 (round_0 + 1)).toNat 64))))

def sK (d_100 : List Int) (d_100_2 : List (aH × Int)) (d_100_3 : aV) : Option (Bool × (List (aH × Int))) :=
    some (true, d_100_2)

def iZ (slot_0 : Int) (t12_0 : Int) (d_0 : List Int) (d_0_3 : aV) : Nat → Int → (List (aH × Int)) → Option (Bool × (List (aH × Int)))
  | 0, _, _ => none
  | k0 + 1, t13_0, d_0_2 =>
    bif decide (t13_0 < t12_0) then ((oY t13_0 slot_0).bind fun r1 =>
    (bif dP r1 d_0_2 then ((idx d_0 slot_0).bind fun x3 =>
    some (!decide ((dA r1 0 d_0_2) = x3))) else (some false)).bind fun b4 =>
    bif b4 then (some (false, d_0_2))
    else ((idx d_0 slot_0).bind fun x5 =>
    (iZ slot_0 t12_0 d_0 d_0_3 k0) (w64 (t13_0 + 1)) (gR r1 x5 d_0_2)))
    else (sK d_0 d_0_2 d_0_3)

def mD (d_0_Tree : aV) (d_0_players : List Int) (d_0_won : List (aH × Int)) (slot_1 : Int) (round_2 : Int) : Option (Bool × (List (aH × Int))) :=
    iZ slot_1 (w64 (round_2 + 1)) d_0_players d_0_Tree BIG 0 d_0_won

def vP (againQ : ((Option bI) × Bool) → Prop) (o22_104 : List Int) (o23_104 : List (aH × Int)) (o25_104 : aV) : Prop :=
    againQ ((some (bI.mk o25_104 o22_104 o23_104)), true)

def lB (againQ : ((Option bI) × Bool) → Prop) (o22_4 : List Int) (o25_4 : aV) (o27_4 : List (aH × aF)) : Nat → (List (aH × Int)) → (List (aH × aF)) → Prop
  | 0, _, _ => False
  | k4 + 1, o23_4, left_4 =>
    aOu left_4 (vP againQ o22_4 o23_4 o25_4)
    (fun p23 left24 =>
    nb (iA o22_4 p23.2.Player) fun r27 =>
    nb (bif decide (r27 < 0) then (some true) else ((oY p23.1.round r27).bind fun r28 =>
    some (!decide (r28 = p23.1)))) fun b29 =>
    bif b29 then (againQ ((none : Option bI), false))
    else (nb (mD o25_4 o22_4 o23_4 r27 p23.1.round) fun r31 =>
    bif !r31.1 then (againQ ((none : Option bI), false))
    else ((lB againQ o22_4 o25_4 o27_4 k4) r31.2 left24)))

def sJ (againQ : ((Option bI) × Bool) → Prop) (o22_102 : List Int) (o23_102 : List (aH × Int)) (o25_102 : aV) (o27_102 : List (aH × aF)) : Prop :=
    aCz o27_102 fun left21 =>
    lB againQ o22_102 o25_102 o27_102 BIG o23_102 left21

def iX (againQ : ((Option bI) × Bool) → Prop) (t72_2 : Int) (o22_2 : List Int) (o25_2 : aV) (o27_2 : List (aH × aF)) : Nat → Int → (List (aH × Int)) → Prop
  | 0, _, _ => False
  | k2 + 1, t73_2, o23_2 =>
    bif decide (t73_2 < t72_2) then (nb (idx o22_2 t73_2) fun x16 =>
    bif decide (x16 = (-1)) then (nb (mD o25_2 o22_2 o23_2 (aOa t73_2 1) 0) fun r17 =>
    (iX againQ t72_2 o22_2 o25_2 o27_2 k2) (w64 (t73_2 + 1)) r17.2)
    else ((iX againQ t72_2 o22_2 o25_2 o27_2 k2) (w64 (t73_2 + 1)) o23_2))
    else (sJ againQ o22_2 o23_2 o25_2 o27_2)

def sI (againQ : ((Option bI) × Bool) → Prop) (o22_100 : List Int) (o23_100 : List (aH × Int)) (o25_100 : aV) (o26_100 : List (aF × Int)) (o27_100 : List (aH × aF)) : Prop :=
    lY o25_100 o22_100 o26_100 fun r13 =>
    bif !r13.1 then (againQ ((none : Option bI), false))
    else (iX againQ (r13.2.1.length : Int) r13.2.1 o25_100 o27_100 BIG 0 o23_100)

def iW (againQ : ((Option bI) × Bool) → Prop) (t28_0 : List aF) (t29_0 : Int) (o22_0 : List Int) (o23_0 : List (aH × Int)) (o25_0 : aV) : Nat → Int → (List (aF × Int)) → (List (aH × aF)) → Prop
  | 0, _, _, _ => False
  | k0 + 1, t30_0, o26_0, o27_0 =>
    bif decide (t30_0 < t29_0) then (nb (idx t28_0 t30_0) fun x8 =>
    bif decide (x8.Kind = 5) then ((iW againQ t28_0 t29_0 o22_0 o23_0 o25_0 k0) (w64 (t30_0 + 1)) (gR x8 (w64 ((dA x8 0 o26_0) + 1)) o26_0) o27_0)
    else (nb (bif dP (aH.mk x8.Round x8.Place) o27_0 then (some (!decide ((dA (aH.mk x8.Round x8.Place) (aF.mk 0 0 0 0 0) o27_0) = x8))) else (some false)) fun b12 =>
    bif b12 then (againQ ((none : Option bI), false))
    else ((iW againQ t28_0 t29_0 o22_0 o23_0 o25_0 k0) (w64 (t30_0 + 1)) o26_0 (gR (aH.mk x8.Round x8.Place) x8 o27_0))))
    else (sI againQ o22_0 o23_0 o25_0 o26_0 o27_0)

def sT (t_0 : aV) (l_1 : List aF) (Q : ((Option bI) × Bool) → Prop) : Prop :=
    nb (slices_Clone_int t_0.Slots) fun r2 =>
    iW Q l_1 (l_1.length : Int) r2 ([] : List (aH × Int)) t_0 BIG 0 ([] : List (aF × Int)) ([] : List (aH × aF))

def nQ (t_0 : aV) (l_1 : List aF) (Q : ((Option bI) × Int) → Prop) : Prop :=
    nb (pK t_0) fun r2 =>
    bif !r2 then (Q ((none : Option bI), 70))
    else (nb (bif decide (60 < (l_1.length : Int)) then (some true) else ((iN l_1 (fun y3 => pL y3 t_0)).bind fun r4 =>
    some r4)) fun b5 =>
    bif b5 then (Q ((none : Option bI), 71))
    else (sT t_0 l_1 fun r6 =>
    bif !r6.2 then (Q ((none : Option bI), 72))
    else (Q (r6.1, 0))))

def sS (t_0 : aV) (l_1 : List aF) (Q : Int → Prop) : Prop :=
    nQ t_0 l_1 fun r2 =>
    Q r2.2

def sU (x_0 : Int) : Option Bool :=
    some (!decide (x_0 = x_0))

def tU (x_0 : Int) (y_1 : Int) : Option Bool :=
    (sU x_0).bind fun r1 =>
    (bif r1 then ((sU y_1).bind fun r2 =>
    some (!r2)) else (some false)).bind fun b3 =>
    (bif b3 then (some true) else (some (decide (x_0 < y_1)))).bind fun b4 =>
    some b4

def vH : Option Bool :=
    some true

def iB (x_0 : List Int) : Nat → Int → Option Bool
  | 0, _ => none
  | k0 + 1, i_0 =>
    bif decide (0 < i_0) then ((idx x_0 i_0).bind fun x1 =>
    (idx x_0 (w64 (i_0 - 1))).bind fun x2 =>
    (tU x1 x2).bind fun r3 =>
    bif r3 then (some false)
    else ((iB x_0 k0) (w64 (i_0 - 1))))
    else (vH)

def mU (x_0 : List Int) : Option Bool :=
    iB x_0 BIG (w64 ((x_0.length : Int) - 1))

def gK (n_0 : Int) (low_1 : Int) (high_2 : Int) : Option Bool :=
    (bif decide (low_1 ≤ n_0) then (some (decide (n_0 ≤ high_2))) else (some false)).bind fun b1 =>
    some b1

def tB (p_0 : aR) : Option Bool :=
    (bif !decide ((p_0.Prizes.length : Int) = (w64 (p_0.Tree.Rounds + 1))) then (some true) else ((mU p_0.Prizes).bind fun r2 =>
    some (!r2))).bind fun b3 =>
    (bif b3 then (some true) else ((gK p_0.Daily 0 100000).bind fun r4 =>
    some (!r4))).bind fun b5 =>
    bif b5 then (some false)
    else ((idx p_0.Prizes 0).bind fun x6 =>
    (bif decide (0 ≤ x6) then ((idx p_0.Prizes (w64 ((p_0.Prizes.length : Int) - 1))).bind fun x7 =>
    some (decide (x7 ≤ 10000000))) else (some false)).bind fun b8 =>
    some b8)

def slices_Sort_int (x : List Int) : Option (List Int) := if x.length < 4611686018427387904 then some (eX x) else none

def sR (out_100 : List Int) : Option ((List Int)) :=
    (slices_Sort_int out_100).bind fun r9 =>
    some r9

def jX (t7_0 : List bZ) (t8_0 : Int) : Nat → Int → (List Int) → Option ((List Int))
  | 0, _, _ => none
  | k0 + 1, t9_0, out_0 =>
    bif decide (t9_0 < t8_0) then ((idx t7_0 t9_0).bind fun x3 =>
    (app 8 out_0 ([x3.One])).bind fun x5 =>
    bif !decide (x3.Two = (-1)) then ((app 8 x5 ([x3.Two])).bind fun x7 =>
    (jX t7_0 t8_0 k0) (w64 (t9_0 + 1)) x7)
    else ((jX t7_0 t8_0 k0) (w64 (t9_0 + 1)) x5))
    else (sR out_0)

def oK (p_0 : aR) : Option ((List Int)) :=
    jX p_0.Teams (p_0.Teams.length : Int) BIG 0 ([] : List Int)

def rZ (again0 : Int → (List Int) → Option ((List Int))) (k_102 : Int) (s_102 : List Int) : Option ((List Int)) :=
    (chk (decide (0 ≤ k_102) && decide (k_102 ≤ (s_102.length : Int)))).bind fun u9 =>
    (chk (decide (k_102.toNat ≤ s_102.length))).bind fun u10 =>
    (chk (decide (0 ≤ k_102))).bind fun u11 =>
    some (s_102.take k_102.toNat)

def gQ (again0 : Int → (List Int) → Option ((List Int))) (s2_2 : Int) : Nat → Int → Int → (List Int) → Option ((List Int))
  | 0, _, _, _ => none
  | k2 + 1, k_2, k2_2, s_2 =>
    bif decide (k2_2 < ((s_2.drop s2_2.toNat).length : Int)) then ((idx (s_2.drop s2_2.toNat) k2_2).bind fun x5 =>
    (idx (s_2.drop s2_2.toNat) (w64 (k2_2 - 1))).bind fun x6 =>
    bif !decide (x5 = x6) then ((idx (s_2.drop s2_2.toNat) k2_2).bind fun x7 =>
    (idx s_2 k_2).bind fun x8 =>
    (gQ again0 s2_2 k2) (w64 (k_2 + 1)) (w64 (k2_2 + 1)) (s_2.set k_2.toNat x7))
    else ((gQ again0 s2_2 k2) k_2 (w64 (k2_2 + 1)) s_2))
    else (rZ again0 k_2 s_2)

def rY (again0 : Int → (List Int) → Option ((List Int))) (k_101 : Int) (s_101 : List Int) : Option ((List Int)) :=
    again0 (w64 (k_101 + 1)) s_101

def rX (s_100 : List Int) : Option ((List Int)) :=
    some s_100

def fD : Nat → Int → (List Int) → Option ((List Int))
  | 0, _, _ => none
  | k0 + 1, k_0, s_0 =>
    bif decide (k_0 < (s_0.length : Int)) then ((idx s_0 k_0).bind fun x2 =>
    (idx s_0 (w64 (k_0 - 1))).bind fun x3 =>
    bif decide (x2 = x3) then ((chk (decide (0 ≤ k_0) && decide (k_0 ≤ (s_0.length : Int)))).bind fun u4 =>
    gQ (fD k0) k_0 BIG k_0 1 s_0)
    else (rY (fD k0) k_0 s_0))
    else (rX s_0)

def slices_Compact_int (s_0 : List Int) : Option ((List Int)) :=
    bif decide ((s_0.length : Int) < 2) then (some s_0)
    else (fD BIG 1 s_0)

def oF (l_0 : List Int) : Option Bool :=
    (slices_Clone_int l_0).bind fun r1 =>
    (slices_Compact_int r1).bind fun r3 =>
    some (decide ((r3.length : Int) = (l_0.length : Int)))

def uI : Option Bool :=
    some true

def gI (people_0 : List Int) (ofv_0 : eS → Option (Int × Bool)) (t12_0 : List eS) (t13_0 : Int) : Nat → Int → (List Int) → Option Bool
  | 0, _, _ => none
  | k0 + 1, t14_0, done_0 =>
    bif decide (t14_0 < t13_0) then ((idx t12_0 t14_0).bind fun x2 =>
    (ofv_0 x2).bind fun r4 =>
    (bif !r4.2 then (some true) else ((dJ people_0 r4.1).bind fun r5 =>
    some (!r5))).bind fun b6 =>
    (bif b6 then (some true) else ((dJ done_0 r4.1).bind fun r7 =>
    some r7)).bind fun b8 =>
    bif b8 then (some false)
    else ((app 8 done_0 ([r4.1])).bind fun x9 =>
    (gI people_0 ofv_0 t12_0 t13_0 k0) (w64 (t14_0 + 1)) x9))
    else (uI)

def lS (people_0 : List Int) (l_1 : List eS) (of_2 : eS → Option (Int × Bool)) : Option Bool :=
    gI people_0 of_2 l_1 (l_1.length : Int) BIG 0 ([] : List Int)

def lE (l_0 : eS) : Option (Int × Bool) :=
    (gK l_0.Mille 0 500).bind fun r2 =>
    some (l_0.Person, r2)

def uJ : Option Bool :=
    some true

def gJ (people_0 : List Int) (ofv_0 : dZ → Option (Int × Bool)) (t12_0 : List dZ) (t13_0 : Int) : Nat → Int → (List Int) → Option Bool
  | 0, _, _ => none
  | k0 + 1, t14_0, done_0 =>
    bif decide (t14_0 < t13_0) then ((idx t12_0 t14_0).bind fun x2 =>
    (ofv_0 x2).bind fun r4 =>
    (bif !r4.2 then (some true) else ((dJ people_0 r4.1).bind fun r5 =>
    some (!r5))).bind fun b6 =>
    (bif b6 then (some true) else ((dJ done_0 r4.1).bind fun r7 =>
    some r7)).bind fun b8 =>
    bif b8 then (some false)
    else ((app 8 done_0 ([r4.1])).bind fun x9 =>
    (gJ people_0 ofv_0 t12_0 t13_0 k0) (w64 (t14_0 + 1)) x9))
    else (uJ)

def lT (people_0 : List Int) (l_1 : List dZ) (of_2 : dZ → Option (Int × Bool)) : Option Bool :=
    gJ people_0 of_2 l_1 (l_1.length : Int) BIG 0 ([] : List Int)

def lF (r_0 : dZ) : Option (Int × Bool) :=
    (gK r_0.Num 1 10000).bind fun r2 =>
    (bif r2 then ((gK r_0.Den 1 10000).bind fun r3 =>
    some r3) else (some false)).bind fun b4 =>
    some (r_0.Person, b4)

def oS (people_104 : List Int) (p_104 : aR) : Option Bool :=
    (lS people_104 p_104.Levies (fun y24 => lE y24)).bind fun r25 =>
    (bif r25 then ((lT people_104 p_104.Rates (fun y26 => lF y26)).bind fun r27 =>
    some r27) else (some false)).bind fun b28 =>
    some b28

def kG (people_4 : List Int) (t76_4 : List aF) (t77_4 : Int) (p_4 : aR) (players_4 : List Int) : Nat → Int → Option Bool
  | 0, _ => none
  | k4 + 1, t78_4 =>
    bif decide (t78_4 < t77_4) then ((idx t76_4 t78_4).bind fun x20 =>
    (bif decide (x20.Kind = 5) then ((dJ players_4 x20.Player).bind fun r22 =>
    some (!r22)) else (some false)).bind fun b23 =>
    bif b23 then (some false)
    else ((kG people_4 t76_4 t77_4 p_4 players_4 k4) (w64 (t78_4 + 1))))
    else (oS people_4 p_4)

def oR (people_102 : List Int) (p_102 : aR) (players_102 : List Int) : Option Bool :=
    kG people_102 p_102.Slips (p_102.Slips.length : Int) p_102 players_102 BIG 0

def jF (people_2 : List Int) (t60_2 : List Int) (t61_2 : Int) (p_2 : aR) (players_2 : List Int) : Nat → Int → Option Bool
  | 0, _ => none
  | k2 + 1, t62_2 =>
    bif decide (t62_2 < t61_2) then ((idx t60_2 t62_2).bind fun x17 =>
    (bif !decide (x17 = (-1)) then ((dJ players_2 x17).bind fun r18 =>
    some (!r18)) else (some false)).bind fun b19 =>
    bif b19 then (some false)
    else ((jF people_2 t60_2 t61_2 p_2 players_2 k2) (w64 (t62_2 + 1))))
    else (oR people_2 p_2 players_2)

def oQ (p_100 : aR) (players_100 : List Int) : Option Bool :=
    (slices_Sort_int players_100).bind fun r12 =>
    (oK p_100).bind fun r13 =>
    (oF r12).bind fun r14 =>
    (bif !r14 then (some true) else ((oF r13).bind fun r15 =>
    some (!r15))).bind fun b16 =>
    bif b16 then (some false)
    else (jF r13 p_100.Tree.Slots (p_100.Tree.Slots.length : Int) p_100 r12 BIG 0)

def kF (t18_0 : List bZ) (t19_0 : Int) (p_0 : aR) : Nat → Int → (List Int) → Option Bool
  | 0, _, _ => none
  | k0 + 1, t20_0, players_0 =>
    bif decide (t20_0 < t19_0) then ((idx t18_0 t20_0).bind fun x3 =>
    (gK x3.Player 0 999).bind fun r5 =>
    (bif !r5 then (some true) else ((gK x3.One 0 999).bind fun r6 =>
    some (!r6))).bind fun b7 =>
    (bif b7 then (some true) else ((gK x3.Two (-1) 999).bind fun r8 =>
    some (!r8))).bind fun b9 =>
    bif b9 then (some false)
    else ((app 8 players_0 ([x3.Player])).bind fun x10 =>
    (kF t18_0 t19_0 p_0 k0) (w64 (t20_0 + 1)) x10))
    else (oQ p_0 players_0)

def rU (p_0 : aR) : Option Bool :=
    bif decide (64 < (p_0.Teams.length : Int)) then (some false)
    else (kF p_0.Teams (p_0.Teams.length : Int) p_0 BIG 0 ([] : List Int))

def lU (s_0 : List aG) : Option ((List aG)) :=
    (app 32 ([] : List aG) s_0).bind fun x5 =>
    some x5

def gE (again0 : Int → (List aG) → Option ((List aG))) (a_101 : Int) (b_101 : Int) (cmp_101 : aG → aG → Option Int) (i_101 : Int) (data_101 : List aG) : Option ((List aG)) :=
    again0 (w64 (i_101 + 1)) data_101

def gF (again0 : Int → (List aG) → Option ((List aG))) (a_102 : Int) (b_102 : Int) (cmp_102 : aG → aG → Option Int) (i_102 : Int) (data_102 : List aG) : Option ((List aG)) :=
    gE again0 a_102 b_102 cmp_102 i_102 data_102

def cZ (again0 : Int → (List aG) → Option ((List aG))) (a_2 : Int) (b_2 : Int) (cmp_2 : aG → aG → Option Int) (i_2 : Int) : Nat → Int → (List aG) → Option ((List aG))
  | 0, _, _ => none
  | k2 + 1, j_2, data_2 =>
    (bif decide (a_2 < j_2) then ((idx data_2 j_2).bind fun x1 =>
    (idx data_2 (w64 (j_2 - 1))).bind fun x2 =>
    (cmp_2 x1 x2).bind fun r3 =>
    some (decide (r3 < 0))) else (some false)).bind fun b4 =>
    bif b4 then ((idx data_2 (w64 (j_2 - 1))).bind fun x5 =>
    (idx data_2 j_2).bind fun x6 =>
    (idx data_2 j_2).bind fun x7 =>
    (idx (data_2.set j_2.toNat x5) (w64 (j_2 - 1))).bind fun x8 =>
    (cZ again0 a_2 b_2 cmp_2 i_2 k2) (w64 (j_2 - 1)) ((data_2.set j_2.toNat x5).set (w64 (j_2 - 1)).toNat x6))
    else (gF again0 a_2 b_2 cmp_2 i_2 data_2)

def gD (data_100 : List aG) : Option ((List aG)) :=
    some data_100

def cN (a_0 : Int) (b_0 : Int) (cmp_0 : aG → aG → Option Int) : Nat → Int → (List aG) → Option ((List aG))
  | 0, _, _ => none
  | k0 + 1, i_0, data_0 =>
    bif decide (i_0 < b_0) then (cZ (cN a_0 b_0 cmp_0 k0) a_0 b_0 cmp_0 i_0 BIG i_0 data_0)
    else (gD data_0)

def dQ (data_0 : List aG) (a_1 : Int) (b_2 : Int) (cmp_3 : aG → aG → Option Int) : Option ((List aG)) :=
    cN a_1 b_2 cmp_3 BIG (w64 (a_1 + 1)) data_0

def kB (data_100 : List aG) : Option ((List aG)) :=
    some data_100

def eB (a_0 : Int) (b_0 : Int) (n_0 : Int) : Nat → Int → (List aG) → Option ((List aG))
  | 0, _, _ => none
  | k0 + 1, i_0, data_0 =>
    bif decide (i_0 < n_0) then ((idx data_0 (w64 (b_0 + i_0))).bind fun x1 =>
    (idx data_0 (w64 (a_0 + i_0))).bind fun x2 =>
    (idx data_0 (w64 (a_0 + i_0))).bind fun x3 =>
    (idx (data_0.set (w64 (a_0 + i_0)).toNat x1) (w64 (b_0 + i_0))).bind fun x4 =>
    (eB a_0 b_0 n_0 k0) (w64 (i_0 + 1)) ((data_0.set (w64 (a_0 + i_0)).toNat x1).set (w64 (b_0 + i_0)).toNat x2))
    else (kB data_0)

def eM (data_0 : List aG) (a_1 : Int) (b_2 : Int) (n_3 : Int) (cmp_4 : aG → aG → Option Int) : Option ((List aG)) :=
    eB a_1 b_2 n_3 BIG 0 data_0

def lG (m_100 : Int) (cmp_100 : aG → aG → Option Int) (i_100 : Int) (data_100 : List aG) : Option ((List aG)) :=
    (eM data_100 (w64 (m_100 - i_100)) m_100 i_100 cmp_100).bind fun r3 =>
    some r3

def dF (m_0 : Int) (cmp_0 : aG → aG → Option Int) : Nat → Int → Int → (List aG) → Option ((List aG))
  | 0, _, _, _ => none
  | k0 + 1, i_0, j_0, data_0 =>
    bif !decide (i_0 = j_0) then (bif decide (j_0 < i_0) then ((eM data_0 (w64 (m_0 - i_0)) m_0 j_0 cmp_0).bind fun r1 =>
    (dF m_0 cmp_0 k0) (w64 (i_0 - j_0)) j_0 r1)
    else ((eM data_0 (w64 (m_0 - i_0)) (w64 ((w64 (m_0 + j_0)) - i_0)) i_0 cmp_0).bind fun r2 =>
    (dF m_0 cmp_0 k0) i_0 (w64 (j_0 - i_0)) r2))
    else (lG m_0 cmp_0 i_0 data_0)

def fT (data_0 : List aG) (a_1 : Int) (m_2 : Int) (b_3 : Int) (cmp_4 : aG → aG → Option Int) : Option ((List aG)) :=
    dF m_2 cmp_4 BIG (w64 (m_2 - a_1)) (w64 (b_3 - m_2)) data_0

def kI (againR : (List aG) → Int → Int → Int → Option ((List aG))) (data_102 : List aG) : Option ((List aG)) :=
    some data_102

def eE (againR : (List aG) → Int → Int → Int → Option ((List aG))) (i_2 : Int) : Nat → Int → (List aG) → Option ((List aG))
  | 0, _, _ => none
  | k2 + 1, k_2, data_2 =>
    bif decide (k_2 < (w64 (i_2 - 1))) then ((idx data_2 (w64 (k_2 + 1))).bind fun x4 =>
    (idx data_2 k_2).bind fun x5 =>
    (idx data_2 k_2).bind fun x6 =>
    (idx (data_2.set k_2.toNat x4) (w64 (k_2 + 1))).bind fun x7 =>
    (eE againR i_2 k2) (w64 (k_2 + 1)) ((data_2.set k_2.toNat x4).set (w64 (k_2 + 1)).toNat x5))
    else (kI againR data_2)

def iK (againR : (List aG) → Int → Int → Int → Option ((List aG))) (a_100 : Int) (i_100 : Int) (data_100 : List aG) : Option ((List aG)) :=
    eE againR i_100 BIG a_100 data_100

def cW (againR : (List aG) → Int → Int → Int → Option ((List aG))) (a_0 : Int) (cmp_0 : aG → aG → Option Int) (data_0 : List aG) : Nat → Int → Int → Option ((List aG))
  | 0, _, _ => none
  | k0 + 1, i_0, j_0 =>
    bif decide (i_0 < j_0) then ((idx data_0 (w64 ((IntKind.u64.wrap (w64 (i_0 + j_0))).fdiv (2 ^ (min (1 : Int).toNat 64))))).bind fun x1 =>
    (idx data_0 a_0).bind fun x2 =>
    (cmp_0 x1 x2).bind fun r3 =>
    bif decide (r3 < 0) then ((cW againR a_0 cmp_0 data_0 k0) (w64 ((w64 ((IntKind.u64.wrap (w64 (i_0 + j_0))).fdiv (2 ^ (min (1 : Int).toNat 64)))) + 1)) j_0)
    else ((cW againR a_0 cmp_0 data_0 k0) i_0 (w64 ((IntKind.u64.wrap (w64 (i_0 + j_0))).fdiv (2 ^ (min (1 : Int).toNat 64))))))
    else (iK againR a_0 i_0 data_0)

def kJ (againR : (List aG) → Int → Int → Int → Option ((List aG))) (data_106 : List aG) : Option ((List aG)) :=
    some data_106

def eF (againR : (List aG) → Int → Int → Int → Option ((List aG))) (i_6 : Int) : Nat → Int → (List aG) → Option ((List aG))
  | 0, _, _ => none
  | k6 + 1, k_6, data_6 =>
    bif decide (i_6 < k_6) then ((idx data_6 (w64 (k_6 - 1))).bind fun x11 =>
    (idx data_6 k_6).bind fun x12 =>
    (idx data_6 k_6).bind fun x13 =>
    (idx (data_6.set k_6.toNat x11) (w64 (k_6 - 1))).bind fun x14 =>
    (eF againR i_6 k6) (w64 (k_6 - 1)) ((data_6.set k_6.toNat x11).set (w64 (k_6 - 1)).toNat x12))
    else (kJ againR data_6)

def iL (againR : (List aG) → Int → Int → Int → Option ((List aG))) (m_104 : Int) (i_104 : Int) (data_104 : List aG) : Option ((List aG)) :=
    eF againR i_104 BIG m_104 data_104

def cX (againR : (List aG) → Int → Int → Int → Option ((List aG))) (m_4 : Int) (cmp_4 : aG → aG → Option Int) (data_4 : List aG) : Nat → Int → Int → Option ((List aG))
  | 0, _, _ => none
  | k4 + 1, i_4, j_4 =>
    bif decide (i_4 < j_4) then ((idx data_4 m_4).bind fun x8 =>
    (idx data_4 (w64 ((IntKind.u64.wrap (w64 (i_4 + j_4))).fdiv (2 ^ (min (1 : Int).toNat 64))))).bind fun x9 =>
    (cmp_4 x8 x9).bind fun r10 =>
    bif !(decide (r10 < 0)) then ((cX againR m_4 cmp_4 data_4 k4) (w64 ((w64 ((IntKind.u64.wrap (w64 (i_4 + j_4))).fdiv (2 ^ (min (1 : Int).toNat 64)))) + 1)) j_4)
    else ((cX againR m_4 cmp_4 data_4 k4) i_4 (w64 ((IntKind.u64.wrap (w64 (i_4 + j_4))).fdiv (2 ^ (min (1 : Int).toNat 64))))))
    else (iL againR m_4 i_4 data_4)

def dI (againR : (List aG) → Int → Int → Int → Option ((List aG))) (a_108 : Int) (m_108 : Int) (b_108 : Int) (cmp_108 : aG → aG → Option Int) (mid_108 : Int) (n_108 : Int) (start_108 : Int) (data_108 : List aG) : Option ((List aG)) :=
    (bif decide (start_108 < m_108) then (some (decide (m_108 < (w64 (n_108 - start_108))))) else (some false)).bind fun b18 =>
    bif b18 then ((fT data_108 start_108 m_108 (w64 (n_108 - start_108)) cmp_108).bind fun r19 =>
    (bif decide (a_108 < start_108) then (some (decide (start_108 < mid_108))) else (some false)).bind fun b20 =>
    bif b20 then ((againR r19 a_108 start_108 mid_108).bind fun r21 =>
    (bif decide (mid_108 < (w64 (n_108 - start_108))) then (some (decide ((w64 (n_108 - start_108)) < b_108))) else (some false)).bind fun b22 =>
    bif b22 then ((againR r21 mid_108 (w64 (n_108 - start_108)) b_108).bind fun r23 =>
    some r23)
    else (some r21))
    else ((bif decide (mid_108 < (w64 (n_108 - start_108))) then (some (decide ((w64 (n_108 - start_108)) < b_108))) else (some false)).bind fun b24 =>
    bif b24 then ((againR r19 mid_108 (w64 (n_108 - start_108)) b_108).bind fun r25 =>
    some r25)
    else (some r19)))
    else ((bif decide (a_108 < start_108) then (some (decide (start_108 < mid_108))) else (some false)).bind fun b26 =>
    bif b26 then ((againR data_108 a_108 start_108 mid_108).bind fun r27 =>
    (bif decide (mid_108 < (w64 (n_108 - start_108))) then (some (decide ((w64 (n_108 - start_108)) < b_108))) else (some false)).bind fun b28 =>
    bif b28 then ((againR r27 mid_108 (w64 (n_108 - start_108)) b_108).bind fun r29 =>
    some r29)
    else (some r27))
    else ((bif decide (mid_108 < (w64 (n_108 - start_108))) then (some (decide ((w64 (n_108 - start_108)) < b_108))) else (some false)).bind fun b30 =>
    bif b30 then ((againR data_108 mid_108 (w64 (n_108 - start_108)) b_108).bind fun r31 =>
    some r31)
    else (some data_108)))

def cJ (againR : (List aG) → Int → Int → Int → Option ((List aG))) (a_8 : Int) (m_8 : Int) (b_8 : Int) (cmp_8 : aG → aG → Option Int) (mid_8 : Int) (n_8 : Int) (p_8 : Int) (data_8 : List aG) : Nat → Int → Int → Option ((List aG))
  | 0, _, _ => none
  | k8 + 1, start_8, r_8 =>
    bif decide (start_8 < r_8) then ((idx data_8 (w64 (p_8 - (w64 ((IntKind.u64.wrap (w64 (start_8 + r_8))).fdiv (2 ^ (min (1 : Int).toNat 64))))))).bind fun x15 =>
    (idx data_8 (w64 ((IntKind.u64.wrap (w64 (start_8 + r_8))).fdiv (2 ^ (min (1 : Int).toNat 64))))).bind fun x16 =>
    (cmp_8 x15 x16).bind fun r17 =>
    bif !(decide (r17 < 0)) then ((cJ againR a_8 m_8 b_8 cmp_8 mid_8 n_8 p_8 data_8 k8) (w64 ((w64 ((IntKind.u64.wrap (w64 (start_8 + r_8))).fdiv (2 ^ (min (1 : Int).toNat 64)))) + 1)) r_8)
    else ((cJ againR a_8 m_8 b_8 cmp_8 mid_8 n_8 p_8 data_8 k8) start_8 (w64 ((IntKind.u64.wrap (w64 (start_8 + r_8))).fdiv (2 ^ (min (1 : Int).toNat 64))))))
    else (dI againR a_8 m_8 b_8 cmp_8 mid_8 n_8 start_8 data_8)

def bK (cmp_4 : aG → aG → Option Int) : Nat → (List aG) → Int → Int → Int → Option ((List aG))
  | 0, _, _, _, _ => none
  | kr + 1, data_0, a_1, m_2, b_3 =>
    bif decide ((w64 (m_2 - a_1)) = 1) then (cW (bK cmp_4 kr) a_1 cmp_4 data_0 BIG m_2 b_3)
    else (bif decide ((w64 (b_3 - m_2)) = 1) then (cX (bK cmp_4 kr) m_2 cmp_4 data_0 BIG a_1 m_2)
    else (bif decide ((w64 ((IntKind.u64.wrap (w64 (a_1 + b_3))).fdiv (2 ^ (min (1 : Int).toNat 64)))) < m_2) then (cJ (bK cmp_4 kr) a_1 m_2 b_3 cmp_4 (w64 ((IntKind.u64.wrap (w64 (a_1 + b_3))).fdiv (2 ^ (min (1 : Int).toNat 64)))) (w64 ((w64 ((IntKind.u64.wrap (w64 (a_1 + b_3))).fdiv (2 ^ (min (1 : Int).toNat 64)))) + m_2)) (w64 ((w64 ((w64 ((IntKind.u64.wrap (w64 (a_1 + b_3))).fdiv (2 ^ (min (1 : Int).toNat 64)))) + m_2)) - 1)) data_0 BIG (w64 ((w64 ((w64 ((IntKind.u64.wrap (w64 (a_1 + b_3))).fdiv (2 ^ (min (1 : Int).toNat 64)))) + m_2)) - b_3)) (w64 ((IntKind.u64.wrap (w64 (a_1 + b_3))).fdiv (2 ^ (min (1 : Int).toNat 64)))))
    else (cJ (bK cmp_4 kr) a_1 m_2 b_3 cmp_4 (w64 ((IntKind.u64.wrap (w64 (a_1 + b_3))).fdiv (2 ^ (min (1 : Int).toNat 64)))) (w64 ((w64 ((IntKind.u64.wrap (w64 (a_1 + b_3))).fdiv (2 ^ (min (1 : Int).toNat 64)))) + m_2)) (w64 ((w64 ((w64 ((IntKind.u64.wrap (w64 (a_1 + b_3))).fdiv (2 ^ (min (1 : Int).toNat 64)))) + m_2)) - 1)) data_0 BIG a_1 m_2)))

def jB (data_0 : List aG) (a_1 : Int) (m_2 : Int) (b_3 : Int) (cmp_4 : aG → aG → Option Int) : Option ((List aG)) := bK cmp_4 BIG data_0 a_1 m_2 b_3

def gL (again2 : Int → (List aG) → Option ((List aG))) (n_103 : Int) (cmp_103 : aG → aG → Option Int) (blockSize_103 : Int) (data_103 : List aG) : Option ((List aG)) :=
    again2 blockSize_103 data_103

def lJ (again2 : Int → (List aG) → Option ((List aG))) (n_104 : Int) (cmp_104 : aG → aG → Option Int) (blockSize_104 : Int) (a_104 : Int) (data_104 : List aG) : Option ((List aG)) :=
    bif decide ((w64 (a_104 + blockSize_104)) < n_104) then ((jB data_104 a_104 (w64 (a_104 + blockSize_104)) n_104 cmp_104).bind fun r4 =>
    gL again2 n_104 cmp_104 (w64 (blockSize_104 * 2)) r4)
    else (gL again2 n_104 cmp_104 (w64 (blockSize_104 * 2)) data_104)

def eL (again2 : Int → (List aG) → Option ((List aG))) (n_4 : Int) (cmp_4 : aG → aG → Option Int) (blockSize_4 : Int) : Nat → Int → Int → (List aG) → Option ((List aG))
  | 0, _, _, _ => none
  | k4 + 1, a_4, b_4, data_4 =>
    bif decide (b_4 ≤ n_4) then ((jB data_4 a_4 (w64 (a_4 + blockSize_4)) b_4 cmp_4).bind fun r3 =>
    (eL again2 n_4 cmp_4 blockSize_4 k4) b_4 (w64 (b_4 + (w64 (2 * blockSize_4)))) r3)
    else (lJ again2 n_4 cmp_4 blockSize_4 a_4 data_4)

def lI (data_102 : List aG) : Option ((List aG)) :=
    some data_102

def dG (n_2 : Int) (cmp_2 : aG → aG → Option Int) : Nat → Int → (List aG) → Option ((List aG))
  | 0, _, _ => none
  | k2 + 1, blockSize_2, data_2 =>
    bif decide (blockSize_2 < n_2) then (eL (dG n_2 cmp_2 k2) n_2 cmp_2 blockSize_2 BIG 0 (w64 (2 * blockSize_2)) data_2)
    else (lI data_2)

def lH (n_100 : Int) (cmp_100 : aG → aG → Option Int) (blockSize_100 : Int) (a_100 : Int) (data_100 : List aG) : Option ((List aG)) :=
    (dQ data_100 a_100 n_100 cmp_100).bind fun r2 =>
    dG n_100 cmp_100 BIG blockSize_100 r2

def eK (n_0 : Int) (cmp_0 : aG → aG → Option Int) (blockSize_0 : Int) : Nat → Int → Int → (List aG) → Option ((List aG))
  | 0, _, _, _ => none
  | k0 + 1, a_0, b_0, data_0 =>
    bif decide (b_0 ≤ n_0) then ((dQ data_0 a_0 b_0 cmp_0).bind fun r1 =>
    (eK n_0 cmp_0 blockSize_0 k0) b_0 (w64 (b_0 + blockSize_0)) r1)
    else (lH n_0 cmp_0 blockSize_0 a_0 data_0)

def jQ (data_0 : List aG) (n_1 : Int) (cmp_2 : aG → aG → Option Int) : Option ((List aG)) :=
    eK n_1 cmp_2 20 BIG 0 20 data_0

def hJ (x_0 : List aG) (cmp_1 : aG → aG → Option Int) : Option ((List aG)) :=
    (jQ x_0 (x_0.length : Int) cmp_1).bind fun r1 =>
    some r1

def rV (a_0 : aG) (b_1 : aG) : Option Int :=
    some (w64 (a_0.Id - b_1.Id))

def oO (again0 : Int → (List aG) → Option ((List aG))) (k_102 : Int) (s_102 : List aG) : Option ((List aG)) :=
    (chk (decide (0 ≤ k_102) && decide (k_102 ≤ (s_102.length : Int)))).bind fun u9 =>
    (chk (decide (k_102.toNat ≤ s_102.length))).bind fun u10 =>
    (chk (decide (0 ≤ k_102))).bind fun u11 =>
    some (s_102.take k_102.toNat)

def fA (again0 : Int → (List aG) → Option ((List aG))) (s2_2 : Int) : Nat → Int → Int → (List aG) → Option ((List aG))
  | 0, _, _, _ => none
  | k2 + 1, k_2, k2_2, s_2 =>
    bif decide (k2_2 < ((s_2.drop s2_2.toNat).length : Int)) then ((idx (s_2.drop s2_2.toNat) k2_2).bind fun x5 =>
    (idx (s_2.drop s2_2.toNat) (w64 (k2_2 - 1))).bind fun x6 =>
    bif !decide (x5 = x6) then ((idx (s_2.drop s2_2.toNat) k2_2).bind fun x7 =>
    (idx s_2 k_2).bind fun x8 =>
    (fA again0 s2_2 k2) (w64 (k_2 + 1)) (w64 (k2_2 + 1)) (s_2.set k_2.toNat x7))
    else ((fA again0 s2_2 k2) k_2 (w64 (k2_2 + 1)) s_2))
    else (oO again0 k_2 s_2)

def oN (again0 : Int → (List aG) → Option ((List aG))) (k_101 : Int) (s_101 : List aG) : Option ((List aG)) :=
    again0 (w64 (k_101 + 1)) s_101

def oM (s_100 : List aG) : Option ((List aG)) :=
    some s_100

def dW : Nat → Int → (List aG) → Option ((List aG))
  | 0, _, _ => none
  | k0 + 1, k_0, s_0 =>
    bif decide (k_0 < (s_0.length : Int)) then ((idx s_0 k_0).bind fun x2 =>
    (idx s_0 (w64 (k_0 - 1))).bind fun x3 =>
    bif decide (x2 = x3) then ((chk (decide (0 ≤ k_0) && decide (k_0 ≤ (s_0.length : Int)))).bind fun u4 =>
    fA (dW k0) k_0 BIG k_0 1 s_0)
    else (oN (dW k0) k_0 s_0))
    else (oM s_0)

def kD (s_0 : List aG) : Option ((List aG)) :=
    bif decide ((s_0.length : Int) < 2) then (some s_0)
    else (dW BIG 1 s_0)

def zF (o7_100 : List aG) : Option ((List aG) × Bool) :=
    (kD o7_100).bind fun r11 =>
    some (r11, true)

def kY (o7_0 : List aG) : Nat → Int → Option ((List aG) × Bool)
  | 0, _ => none
  | k0 + 1, i_0 =>
    bif decide (i_0 < (o7_0.length : Int)) then ((idx o7_0 i_0).bind fun x6 =>
    (idx o7_0 (w64 (i_0 - 1))).bind fun x7 =>
    (bif decide (x6.Id = x7.Id) then ((idx o7_0 i_0).bind fun x8 =>
    (idx o7_0 (w64 (i_0 - 1))).bind fun x9 =>
    some (!decide (x8 = x9))) else (some false)).bind fun b10 =>
    bif b10 then (some (([] : List aG), false))
    else ((kY o7_0 k0) (w64 (i_0 + 1))))
    else (zF o7_0)

def pD (all_0 : List aG) : Option ((List aG) × Bool) :=
    (lU all_0).bind fun r1 =>
    (hJ r1 (fun y3 y4 => rV y3 y4)).bind fun r5 =>
    kY r5 BIG 1

def rM (p_100 : aR) : Option Bool :=
    (pD p_100.Items).bind fun r19 =>
    (bif r19.2 then (some (decide ((p_100.Items.length : Int) ≤ 40))) else (some false)).bind fun b20 =>
    some b20

def jE (people_0 : List Int) (t12_0 : List aG) (t13_0 : Int) (p_0 : aR) : Nat → Int → Option Bool
  | 0, _ => none
  | k0 + 1, t14_0 =>
    bif decide (t14_0 < t13_0) then ((idx t12_0 t14_0).bind fun x3 =>
    bif decide (x3.Kind = 2) then ((bif !decide (x3.Kind = 1) then (some (!decide (x3.Kind = 2))) else (some false)).bind fun b5 =>
    (bif b5 then (some true) else ((gK x3.Id 0 99).bind fun r6 =>
    some (!r6))).bind fun b7 =>
    (bif b7 then (some true) else ((dJ people_0 x3.Person).bind fun r8 =>
    some (!r8))).bind fun b9 =>
    (bif b9 then (some true) else ((gK x3.Amount 0 30).bind fun r10 =>
    some (!r10))).bind fun b11 =>
    bif b11 then (some false)
    else ((jE people_0 t12_0 t13_0 p_0 k0) (w64 (t14_0 + 1))))
    else ((bif !decide (x3.Kind = 1) then (some (!decide (x3.Kind = 2))) else (some false)).bind fun b12 =>
    (bif b12 then (some true) else ((gK x3.Id 0 99).bind fun r13 =>
    some (!r13))).bind fun b14 =>
    (bif b14 then (some true) else ((dJ people_0 x3.Person).bind fun r15 =>
    some (!r15))).bind fun b16 =>
    (bif b16 then (some true) else ((gK x3.Amount 0 10000000).bind fun r17 =>
    some (!r17))).bind fun b18 =>
    bif b18 then (some false)
    else ((jE people_0 t12_0 t13_0 p_0 k0) (w64 (t14_0 + 1)))))
    else (rM p_0)

def rT (p_0 : aR) : Option Bool :=
    (oK p_0).bind fun r2 =>
    jE r2 p_0.Items (p_0.Items.length : Int) p_0 BIG 0

def tM (a0 : aV) (a1 : List aF) : Option Int := fO a0 a1

def rK (p_0 : aR) : Option Int :=
    (tM p_0.Tree p_0.Slips).bind fun r2 =>
    bif !decide (r2 = 0) then (some r2)
    else ((tB p_0).bind fun r3 =>
    bif !r3 then (some 100)
    else ((rU p_0).bind fun r4 =>
    bif !r4 then (some 101)
    else ((rT p_0).bind fun r5 =>
    bif !r5 then (some 102)
    else (some 0))))

def aFb (n_102 : Int) : Option (Int × Int) :=
    some (n_102, 0)

def mJ (t44_2 : List Int) (t45_2 : Int) (p_2 : aR) : Nat → Int → Int → Option (Int × Int)
  | 0, _, _ => none
  | k2 + 1, n_2, t46_2 =>
    bif decide (t46_2 < t45_2) then ((idx t44_2 t46_2).bind fun x6 =>
    bif decide (x6 = (-1)) then ((idx p_2.Prizes 0).bind fun x7 =>
    (mJ t44_2 t45_2 p_2 k2) (w64 (n_2 - x7)) (w64 (t46_2 + 1)))
    else ((mJ t44_2 t45_2 p_2 k2) n_2 (w64 (t46_2 + 1))))
    else (aFb n_2)

def vL (n_100 : Int) (p_100 : aR) : Option (Int × Int) :=
    mJ p_100.Tree.Slots (p_100.Tree.Slots.length : Int) p_100 BIG n_100 0

def mI (t23_0 : Int) (p_0 : aR) : Nat → Int → Int → Option (Int × Int)
  | 0, _, _ => none
  | k0 + 1, n_0, t24_0 =>
    bif decide (t24_0 < t23_0) then ((idx p_0.Prizes t24_0).bind fun x4 =>
    (chk (decide (0 ≤ (w64 ((w64 (p_0.Tree.Rounds - 1)) - t24_0))))).bind fun u5 =>
    (mI t23_0 p_0 k0) (w64 (n_0 + (w64 (x4 * 2 ^ (min (w64 ((w64 (p_0.Tree.Rounds - 1)) - t24_0)).toNat 64))))) (w64 (t24_0 + 1)))
    else (vL n_0 p_0)

def pC (p_0 : aR) : Option (Int × Int) :=
    (rK p_0).bind fun r2 =>
    bif !decide (r2 = 0) then (some (0, r2))
    else ((idx p_0.Prizes p_0.Tree.Rounds).bind fun x3 =>
    mI p_0.Tree.Rounds p_0 BIG x3 0)

def sA : Option Int :=
    some (-1)

def fH (s_0 : List bZ) (f_0 : bZ → Option Bool) (t7_0 : Int) : Nat → Int → Option Int
  | 0, _ => none
  | k0 + 1, t8_0 =>
    bif decide (t8_0 < t7_0) then ((idx s_0 t8_0).bind fun x1 =>
    (f_0 x1).bind fun r2 =>
    bif r2 then (some t8_0)
    else ((fH s_0 f_0 t7_0 k0) (w64 (t8_0 + 1))))
    else (sA)

def lW (s_0 : List bZ) (f_1 : bZ → Option Bool) : Option Int :=
    fH s_0 f_1 (s_0.length : Int) BIG 0

def tA (t_0 : bZ) (c_1 : Int) : Option Bool :=
    (bif decide (t_0.One = c_1) then (some true) else ((bif decide (t_0.Two = c_1) then (some (!decide (t_0.Two = (-1)))) else (some false)).bind fun b2 =>
    some b2)).bind fun b3 =>
    some b3

def xM (againQ : ((Option bI) × (List Int) × Int) → Prop) (d_100 : Option bI) (slots_100 : List Int) : Prop :=
    againQ (d_100, slots_100, 0)

def mX (againQ : ((Option bI) × (List Int) × Int) → Prop) (t20_0 : List Int) (t21_0 : Int) : Nat → (Option bI) → Int → (List Int) → Prop
  | 0, _, _, _ => False
  | k0 + 1, d_0, t22_0, slots_0 =>
    bif decide (t22_0 < t21_0) then (nb (idx t20_0 t22_0) fun x5 =>
    nb (gB x5 0 999) fun r6 =>
    bif !r6 then (againQ ((none : Option bI), ([] : List Int), 1))
    else (nb (d_0) fun x8 =>
    nb (iA x8.players x5) fun r9 =>
    nb (app 8 slots_0 ([r9])) fun x10 =>
    (mX againQ t20_0 t21_0 k0) d_0 (w64 (t22_0 + 1)) x10))
    else (xM againQ d_0 slots_0)

def qW (t_0 : aV) (l_1 : List aF) (players_2 : List Int) (Q : ((Option bI) × (List Int) × Int) → Prop) : Prop :=
    nQ t_0 l_1 fun r3 =>
    bif !decide (r3.2 = 0) then (Q ((none : Option bI), ([] : List Int), r3.2))
    else (mX Q players_2 (players_2.length : Int) BIG r3.1 0 ([] : List Int))

def tG (d_100 : bI) : Option Int :=
    some d_100.Tree.Rounds

def jH (d_0 : bI) (slot_0 : Int) (t12_0 : Int) : Nat → Int → Option Int
  | 0, _ => none
  | k0 + 1, t13_0 =>
    bif decide (t13_0 < t12_0) then ((oY t13_0 slot_0).bind fun r1 =>
    (bif !(dP r1 d_0.won) then (some true) else ((idx d_0.players slot_0).bind fun x2 =>
    some (!decide ((dA r1 0 d_0.won) = x2)))).bind fun b3 =>
    bif b3 then (some t13_0)
    else ((jH d_0 slot_0 t12_0 k0) (w64 (t13_0 + 1))))
    else (tG d_0)

def pP (d_0 : bI) (slot_1 : Int) : Option Int :=
    jH d_0 slot_1 d_0.Tree.Rounds BIG 0

def tF (d_100 : bI) : Option Int :=
    some d_100.Tree.Rounds

def jG (d_0 : bI) (slot_0 : Int) (t12_0 : Int) : Nat → Int → Option Int
  | 0, _ => none
  | k0 + 1, t13_0 =>
    bif decide (t13_0 < t12_0) then ((oY t13_0 slot_0).bind fun r1 =>
    (bif dP r1 d_0.won then ((idx d_0.players slot_0).bind fun x2 =>
    some (!decide ((dA r1 0 d_0.won) = x2))) else (some false)).bind fun b3 =>
    bif b3 then (some t13_0)
    else ((jG d_0 slot_0 t12_0 k0) (w64 (t13_0 + 1))))
    else (tF d_0)

def pO (d_0 : bI) (slot_1 : Int) : Option Int :=
    jG d_0 slot_1 d_0.Tree.Rounds BIG 0

def qJ (t_0 : aV) (l_1 : List aF) (player_2 : Int) (Q : (bQ × Int) → Prop) : Prop :=
    qW t_0 l_1 ([player_2]) fun r3 =>
    bif !decide (r3.2.2 = 0) then (Q ((bQ.mk 0 0), r3.2.2))
    else (nb (idx r3.2.1 0) fun x4 =>
    bif decide (x4 < 0) then (Q ((bQ.mk 0 0), 3))
    else (nb (r3.1) fun x5 =>
    nb (idx r3.2.1 0) fun x6 =>
    nb (pP x5 x6) fun r7 =>
    nb (idx r3.2.1 0) fun x8 =>
    nb (pO x5 x8) fun r9 =>
    Q ((bQ.mk r7 r9), 0)))

def qI (prize_0 : Int) (c_1 : bZ) (c_2 : Int) : Option Int :=
    bif decide (c_1.Two = (-1)) then (some prize_0)
    else (bif decide (c_1.One = c_2) then (some (w64 ((w64 (prize_0 + 1)).tdiv 2)))
    else (some (w64 (prize_0.tdiv 2))))

def tY : Option Int :=
    some (-1)

def jT (player_0 : Int) (d_0 : aS) : Nat → Int → Option Int
  | 0, _ => none
  | k0 + 1, s_0 =>
    bif decide (s_0 < (d_0.Slots.length : Int)) then ((idx d_0.Slots s_0).bind fun x2 =>
    bif decide (x2 = player_0) then (some s_0)
    else ((jT player_0 d_0 k0) (w64 (s_0 + 1))))
    else (tY)

def qN (d_0 : aS) (player_1 : Int) : Option Int :=
    jT player_1 d_0 BIG 0

def qD (n_100 : Int) : Option Int :=
    some n_100

def jI (slot_0 : Int) (t_0 : aV) (d_0 : aS) : Nat → Int → Option Int
  | 0, _ => none
  | k0 + 1, n_0 =>
    (bif decide (n_0 < t_0.Rounds) then ((idx d_0.Must n_0).bind fun x3 =>
    (chk (decide (0 ≤ (IntKind.u64.wrap (w64 (n_0 + 1)))))).bind fun u4 =>
    (idx x3 (slot_0.fdiv (2 ^ (min (IntKind.u64.wrap (w64 (n_0 + 1))).toNat 64)))).bind fun x5 =>
    (idx d_0.Slots slot_0).bind fun x6 =>
    some (decide (x5 = x6))) else (some false)).bind fun b7 =>
    bif b7 then ((jI slot_0 t_0 d_0 k0) (w64 (n_0 + 1)))
    else (qD n_0)

def pR (t_0 : aV) (d_1 : aS) (slot_2 : Int) : Option Int :=
    jI slot_2 t_0 d_1 BIG 0

def qM (n_100 : Int) : Option Int :=
    some n_100

def jS (slot_0 : Int) (t_0 : aV) (d_0 : aS) : Nat → Int → Option Int
  | 0, _ => none
  | k0 + 1, n_0 =>
    (bif decide (n_0 < t_0.Rounds) then ((idx d_0.Must n_0).bind fun x3 =>
    (chk (decide (0 ≤ (IntKind.u64.wrap (w64 (n_0 + 1)))))).bind fun u4 =>
    (idx x3 (slot_0.fdiv (2 ^ (min (IntKind.u64.wrap (w64 (n_0 + 1))).toNat 64)))).bind fun x5 =>
    (bif decide (x5 = (-2)) then (some true) else ((idx d_0.Must n_0).bind fun x6 =>
    (chk (decide (0 ≤ (IntKind.u64.wrap (w64 (n_0 + 1)))))).bind fun u7 =>
    (idx x6 (slot_0.fdiv (2 ^ (min (IntKind.u64.wrap (w64 (n_0 + 1))).toNat 64)))).bind fun x8 =>
    (idx d_0.Slots slot_0).bind fun x9 =>
    some (decide (x8 = x9)))).bind fun b10 =>
    some b10) else (some false)).bind fun b11 =>
    bif b11 then ((jS slot_0 t_0 d_0 k0) (w64 (n_0 + 1)))
    else (qM n_0)

def qL (t_0 : aV) (d_1 : aS) (slot_2 : Int) : Option Int :=
    jS slot_2 t_0 d_1 BIG 0

def fV (t_0 : aV) (l_1 : List aF) (player_2 : Int) : Option (bQ × Int) :=
    (fO t_0 l_1).bind fun r3 =>
    bif !decide (r3 = 0) then (some ((bQ.mk 0 0), r3))
    else ((eT player_2 0 999).bind fun r4 =>
    bif !r4 then (some ((bQ.mk 0 0), 1))
    else ((fM t_0 l_1).bind fun r5 =>
    (qN r5.1 player_2).bind fun r7 =>
    bif decide (r7 < 0) then (some ((bQ.mk 0 0), 3))
    else ((pR t_0 r5.1 r7).bind fun r8 =>
    (qL t_0 r5.1 r7).bind fun r9 =>
    some ((bQ.mk r8 r9), 0))))

def rL (a0 : aV) (a1 : List aF) (a2 : Int) : Option (bQ × Int) := fV a0 a1 a2

def tD (p_0 : aR) (person_1 : Int) : Option (bQ × Bool) :=
    (lW p_0.Teams (fun y4 => tA y4 person_1)).bind fun r5 =>
    bif decide (r5 < 0) then (some ((bQ.mk 0 0), false))
    else ((idx p_0.Teams r5).bind fun x6 =>
    (rL p_0.Tree p_0.Slips x6.Player).bind fun r8 =>
    bif !decide (r8.2 = 0) then (some ((bQ.mk 0 0), true))
    else ((idx p_0.Prizes r8.1.Low).bind fun x10 =>
    (qI x10 x6 person_1).bind fun r11 =>
    (idx p_0.Prizes r8.1.High).bind fun x12 =>
    (qI x12 x6 person_1).bind fun r13 =>
    some ((bQ.mk r11 r13), true)))

def nN (p_0 : aR) (person_1 : Int) : Option (bQ × Int) :=
    (rK p_0).bind fun r3 =>
    bif !decide (r3 = 0) then (some ((bQ.mk 0 0), r3))
    else ((tD p_0 person_1).bind fun r4 =>
    bif !r4.2 then (some ((bQ.mk 0 0), 1))
    else (some (r4.1, 0)))

def vN (paid_105 : Int) (num_105 : Int) (den_105 : Int) (o4_105 : bD) (b_105 : bD) : Option bD :=
    (chk (!decide (den_105 = 0))).bind fun u13 =>
    (chk (!decide (num_105 = 0))).bind fun u14 =>
    some (bD.mk b_105.Person b_105.Gross b_105.Tax b_105.Daily b_105.Fines b_105.Debt (w64 ((w64 (paid_105 * num_105)).tdiv den_105)) (w64 ((w64 ((w64 ((w64 ((w64 ((w64 (paid_105 * num_105)).tdiv den_105)) * den_105)) + num_105)) - 1)).tdiv num_105)) (w64 (paid_105 - (w64 ((w64 ((w64 ((w64 ((w64 ((w64 (paid_105 * num_105)).tdiv den_105)) * den_105)) + num_105)) - 1)).tdiv num_105)))))

def mK (person_5 : Int) (paid_5 : Int) (t104_5 : List dZ) (t105_5 : Int) (o4_5 : bD) (b_5 : bD) : Nat → Int → Int → Int → Option bD
  | 0, _, _, _ => none
  | k5 + 1, num_5, den_5, t106_5 =>
    bif decide (t106_5 < t105_5) then ((idx t104_5 t106_5).bind fun x11 =>
    bif decide (x11.Person = person_5) then ((mK person_5 paid_5 t104_5 t105_5 o4_5 b_5 k5) x11.Num x11.Den (w64 (t106_5 + 1)))
    else ((mK person_5 paid_5 t104_5 t105_5 o4_5 b_5 k5) num_5 den_5 (w64 (t106_5 + 1))))
    else (vN paid_5 num_5 den_5 o4_5 b_5)

def sZ (person_102 : Int) (p_102 : aR) (o4_102 : bD) (b_102 : bD) : Option bD :=
    mK person_102 (max 0 (w64 ((w64 ((w64 (b_102.Gross + b_102.Daily)) - b_102.Tax)) - b_102.Fines))) p_102.Rates (p_102.Rates.length : Int) o4_102 (bD.mk b_102.Person b_102.Gross b_102.Tax b_102.Daily b_102.Fines (max 0 (w64 (-(w64 ((w64 ((w64 (b_102.Gross + b_102.Daily)) - b_102.Tax)) - b_102.Fines))))) b_102.Units b_102.Used b_102.Rest) BIG 1 1 0

def kX (person_2 : Int) (t55_2 : List aG) (t56_2 : Int) (p_2 : aR) (o4_2 : bD) : Nat → Int → bD → Option bD
  | 0, _, _ => none
  | k2 + 1, t57_2, b_2 =>
    bif decide (t57_2 < t56_2) then ((idx t55_2 t57_2).bind fun x9 =>
    bif !decide (x9.Person = person_2) then ((kX person_2 t55_2 t56_2 p_2 o4_2 k2) (w64 (t57_2 + 1)) b_2)
    else (bif decide (x9.Kind = 2) then ((kX person_2 t55_2 t56_2 p_2 o4_2 k2) (w64 (t57_2 + 1)) (bD.mk b_2.Person b_2.Gross b_2.Tax (w64 (b_2.Daily + (w64 (x9.Amount * p_2.Daily)))) b_2.Fines b_2.Debt b_2.Units b_2.Used b_2.Rest))
    else ((kX person_2 t55_2 t56_2 p_2 o4_2 k2) (w64 (t57_2 + 1)) (bD.mk b_2.Person b_2.Gross b_2.Tax b_2.Daily (w64 (b_2.Fines + x9.Amount)) b_2.Debt b_2.Units b_2.Used b_2.Rest))))
    else (sZ person_2 p_2 o4_2 b_2)

def vM (person_100 : Int) (p_100 : aR) (o4_100 : bD) (b_100 : bD) : Option bD :=
    (pD p_100.Items).bind fun r8 =>
    kX person_100 r8.1 (r8.1.length : Int) p_100 o4_100 BIG 0 b_100

def kW (person_0 : Int) (t31_0 : List eS) (t32_0 : Int) (p_0 : aR) (o4_0 : bD) : Nat → Int → bD → Option bD
  | 0, _, _ => none
  | k0 + 1, t33_0, b_0 =>
    bif decide (t33_0 < t32_0) then ((idx t31_0 t33_0).bind fun x6 =>
    bif decide (x6.Person = person_0) then ((kW person_0 t31_0 t32_0 p_0 o4_0 k0) (w64 (t33_0 + 1)) (bD.mk b_0.Person b_0.Gross (w64 ((w64 (b_0.Gross * x6.Mille)).tdiv 1000)) b_0.Daily b_0.Fines b_0.Debt b_0.Units b_0.Used b_0.Rest))
    else ((kW person_0 t31_0 t32_0 p_0 o4_0 k0) (w64 (t33_0 + 1)) b_0))
    else (vM person_0 p_0 o4_0 b_0)

def uU (p_0 : aR) (person_1 : Int) : Option bD :=
    (tD p_0 person_1).bind fun r3 =>
    kW person_1 p_0.Levies (p_0.Levies.length : Int) p_0 (bD.mk 0 0 0 0 0 0 0 0 0) BIG 0 (bD.mk person_1 r3.1.Low 0 0 0 0 0 0 0)

def wX (p_0 : aR) (person_1 : Int) : Option (bD × Int) :=
    (nN p_0 person_1).bind fun r3 =>
    bif !decide (r3.2 = 0) then (some ((bD.mk 0 0 0 0 0 0 0 0 0), r3.2))
    else ((uU p_0 person_1).bind fun r5 =>
    some (r5, 0))

def aDc (out_100 : List bD) : Option ((List bD) × Int) :=
    some (out_100, 0)

def nF (t14_0 : List Int) (t15_0 : Int) (p_0 : aR) : Nat → Int → (List bD) → Option ((List bD) × Int)
  | 0, _, _ => none
  | k0 + 1, t16_0, out_0 =>
    bif decide (t16_0 < t15_0) then ((idx t14_0 t16_0).bind fun x5 =>
    (uU p_0 x5).bind fun r6 =>
    (app 72 out_0 ([r6])).bind fun x7 =>
    (nF t14_0 t15_0 p_0 k0) (w64 (t16_0 + 1)) x7)
    else (aDc out_0)

def vF (p_0 : aR) : Option ((List bD) × Int) :=
    (rK p_0).bind fun r2 =>
    bif !decide (r2 = 0) then (some (([] : List bD), r2))
    else ((oK p_0).bind fun r4 =>
    nF r4 (r4.length : Int) p_0 BIG 0 ([] : List bD))

def aDd (o2_100 : bD) (sum_100 : bD) : Option (bD × Int) :=
    some (sum_100, 0)

def nG (t19_0 : List bD) (t20_0 : Int) (o2_0 : bD) : Nat → Int → bD → Option (bD × Int)
  | 0, _, _ => none
  | k0 + 1, t21_0, sum_0 =>
    bif decide (t21_0 < t20_0) then ((idx t19_0 t21_0).bind fun x5 =>
    (nG t19_0 t20_0 o2_0 k0) (w64 (t21_0 + 1)) (bD.mk sum_0.Person (w64 (sum_0.Gross + x5.Gross)) (w64 (sum_0.Tax + x5.Tax)) (w64 (sum_0.Daily + x5.Daily)) (w64 (sum_0.Fines + x5.Fines)) (w64 (sum_0.Debt + x5.Debt)) (w64 (sum_0.Units + x5.Units)) (w64 (sum_0.Used + x5.Used)) (w64 (sum_0.Rest + x5.Rest))))
    else (aDd o2_0 sum_0)

def vG (p_0 : aR) : Option (bD × Int) :=
    (vF p_0).bind fun r3 =>
    bif !decide (r3.2 = 0) then (some ((bD.mk 0 0 0 0 0 0 0 0 0), r3.2))
    else (nG r3.1 (r3.1.length : Int) (bD.mk 0 0 0 0 0 0 0 0 0) BIG 0 (bD.mk (-1) 0 0 0 0 0 0 0 0))

def mZ : Option Bool :=
    (nR).bind fun r1 =>
    (pC r1).bind fun r3 =>
    (wX r1 22).bind fun r4 =>
    (vG r1).bind fun r6 =>
    (bif decide (r3.2 = 0) then (some (decide (r4.2 = 0))) else (some false)).bind fun b8 =>
    (bif b8 then (some (decide (r6.2 = 0))) else (some false)).bind fun b9 =>
    (bif b9 then (some (decide (r3.1 = 1501))) else (some false)).bind fun b10 =>
    (bif b10 then (some (decide (r4.1 = (bD.mk 22 50 0 0 0 0 16 48 2)))) else (some false)).bind fun b11 =>
    (bif b11 then (some (decide (r6.1.Debt = 60))) else (some false)).bind fun b12 =>
    some b12

def nB (t_0 : bZ) (second_1 : Bool) (prize_2 : Int) : Option Int :=
    bif decide (t_0.Two = (-1)) then (some prize_2)
    else (bif second_1 then (some (w64 (prize_2.tdiv 2)))
    else (some (w64 ((w64 (prize_2 + 1)).tdiv 2))))

def qO (p_0 : aR) : Option aR :=
    (app 8 ([] : List Int) p_0.Tree.Slots).bind fun x4 =>
    (app 40 ([] : List aF) p_0.Slips).bind fun x5 =>
    (app 8 ([] : List Int) p_0.Prizes).bind fun x6 =>
    (app 24 ([] : List bZ) p_0.Teams).bind fun x7 =>
    (app 16 ([] : List eS) p_0.Levies).bind fun x8 =>
    (app 24 ([] : List dZ) p_0.Rates).bind fun x9 =>
    (app 32 ([] : List aG) p_0.Items).bind fun x10 =>
    some (aR.mk (aV.mk p_0.Tree.Rounds x4) x5 x6 p_0.Daily x7 x8 x9 x10)

def pS (p_0 : aR) (person_1 : Int) : Option bQ :=
    (oC p_0 person_1).bind fun r3 =>
    (fV p_0.Tree p_0.Slips r3.1.Player).bind fun r5 =>
    bif !decide (r5.2 = 0) then (some (bQ.mk 0 0))
    else ((idx p_0.Prizes r5.1.Low).bind fun x7 =>
    (nB r3.1 r3.2.1 x7).bind fun r8 =>
    (idx p_0.Prizes r5.1.High).bind fun x9 =>
    (nB r3.1 r3.2.1 x9).bind fun r10 =>
    some (bQ.mk r8 r10))

def qQ (sum_102 : Int) (p_102 : aR) : Option (Int × Int) :=
    (idx p_102.Prizes p_102.Tree.Rounds).bind fun x6 =>
    some (w64 (sum_102 + x6), 0)

def iT (p_2 : aR) : Nat → Int → Int → Option (Int × Int)
  | 0, _, _ => none
  | k2 + 1, sum_2, i_2 =>
    bif decide (i_2 < (p_2.Tree.Slots.length : Int)) then ((idx p_2.Tree.Slots i_2).bind fun x4 =>
    bif decide (x4 = (-1)) then ((idx p_2.Prizes 0).bind fun x5 =>
    (iT p_2 k2) (w64 (sum_2 - x5)) (w64 (i_2 + 1)))
    else ((iT p_2 k2) sum_2 (w64 (i_2 + 1))))
    else (qQ sum_2 p_2)

def qP (sum_100 : Int) (p_100 : aR) : Option (Int × Int) :=
    iT p_100 BIG sum_100 0

def jV (p_0 : aR) : Nat → Int → Int → Int → Option (Int × Int)
  | 0, _, _, _ => none
  | k0 + 1, sum_0, left_0, won_0 =>
    bif decide (won_0 < p_0.Tree.Rounds) then ((idx p_0.Prizes won_0).bind fun x3 =>
    (jV p_0 k0) (w64 (sum_0 + (w64 ((w64 (left_0.tdiv 2)) * x3)))) (w64 (left_0.tdiv 2)) (w64 (won_0 + 1)))
    else (qP sum_0 p_0)

def kK (p_0 : aR) : Option (Int × Int) :=
    (nA p_0).bind fun r2 =>
    bif !decide (r2 = 0) then (some (0, r2))
    else (jV p_0 BIG 0 (p_0.Tree.Slots.length : Int) 0)

def jU (p_0 : aR) (person_1 : Int) : Option (bQ × Int) :=
    (nA p_0).bind fun r3 =>
    bif !decide (r3 = 0) then (some ((bQ.mk 0 0), r3))
    else ((iI p_0 person_1).bind fun r4 =>
    bif !r4 then (some ((bQ.mk 0 0), 1))
    else ((pS p_0 person_1).bind fun r5 =>
    some (r5, 0)))

def nZ (p_0 : aR) (person_1 : Int) : Option Bool :=
    (mY p_0).bind fun r2 =>
    bif r2 then ((mZ).bind fun r3 =>
    some r3)
    else ((qO p_0).bind fun r4 =>
    (pC r4).bind fun r6 =>
    (kK p_0).bind fun r7 =>
    (nN r4 person_1).bind fun r8 =>
    (jU p_0 person_1).bind fun r10 =>
    (bif decide (r6.1 = r7.1) then (some (decide (r6.2 = r7.2))) else (some false)).bind fun b12 =>
    (bif b12 then (some (decide (r8.1 = r10.1))) else (some false)).bind fun b13 =>
    (bif b13 then (some (decide (r8.2 = r10.2))) else (some false)).bind fun b14 =>
    (bif b14 then ((mZ).bind fun r15 =>
    some r15) else (some false)).bind fun b16 =>
    some b16)

end Go.Am
