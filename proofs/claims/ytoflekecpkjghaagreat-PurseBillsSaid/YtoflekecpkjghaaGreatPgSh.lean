/- Shallow functions, printed by program. -/
import Derived.Test.YtoflekecpkjghaaGreatAmFull
import Derived.Test.YtoflekecpkjghaaGreatAmNd
import Derived.Test.YtoflekecpkjghaaGreatAmSort
namespace Go.Am

def jA (x : List Int) : List D := [.sl 1 (x.map aM)]

structure aV where
  Rounds : Int
  Slots : List Int
  deriving DecidableEq, Inhabited
def bC (x : aV) : List D := [.lit (.int .i64 x.Rounds), .sl 1 (x.Slots.map aM)]

structure aF where
  Kind : Int
  Round : Int
  Place : Int
  Player : Int
  Old : Int
  deriving DecidableEq, Inhabited
def aK (x : aF) : List D := [.lit (.int .i64 x.Kind), .lit (.int .i64 x.Round), .lit (.int .i64 x.Place), .lit (.int .i64 x.Player), .lit (.int .i64 x.Old)]

def aPd (x : List aF) : List D := [.sl 5 (x.map aK)]

structure bY where
  Player : Int
  One : Int
  Two : Int
  deriving DecidableEq, Inhabited
def bF (x : bY) : List D := [.lit (.int .i64 x.Player), .lit (.int .i64 x.One), .lit (.int .i64 x.Two)]

def aPe (x : List bY) : List D := [.sl 3 (x.map bF)]

structure eR where
  Person : Int
  Mille : Int
  deriving DecidableEq, Inhabited
def cB (x : eR) : List D := [.lit (.int .i64 x.Person), .lit (.int .i64 x.Mille)]

def aPb (x : List eR) : List D := [.sl 2 (x.map cB)]

structure cS where
  Person : Int
  Num : Int
  Den : Int
  deriving DecidableEq, Inhabited
def bX (x : cS) : List D := [.lit (.int .i64 x.Person), .lit (.int .i64 x.Num), .lit (.int .i64 x.Den)]

def aPc (x : List cS) : List D := [.sl 3 (x.map bX)]

structure aH where
  Id : Int
  Kind : Int
  Person : Int
  Amount : Int
  deriving DecidableEq, Inhabited
def aE (x : aH) : List D := [.lit (.int .i64 x.Id), .lit (.int .i64 x.Kind), .lit (.int .i64 x.Person), .lit (.int .i64 x.Amount)]

def aPa (x : List aH) : List D := [.sl 4 (x.map aE)]

structure aN where
  Tree : aV
  Slips : List aF
  Prizes : List Int
  Daily : Int
  Teams : List bY
  Levies : List eR
  Rates : List cS
  Items : List aH
  deriving DecidableEq, Inhabited
def aJ (x : aN) : List D := [.lit (.int .i64 x.Tree.Rounds), .sl 1 (x.Tree.Slots.map aM), .sl 5 (x.Slips.map aK), .sl 1 (x.Prizes.map aM), .lit (.int .i64 x.Daily), .sl 3 (x.Teams.map bF), .sl 2 (x.Levies.map cB), .sl 3 (x.Rates.map bX), .sl 4 (x.Items.map aE)]

structure aU where
  Slots : List Int
  Must : List (List Int)
  deriving DecidableEq, Inhabited
def bM (x : aU) : List D := [.sl 1 (x.Slots.map aM), .sl 1 (x.Must.map jA)]

structure aI where
  round : Int
  place : Int
  deriving DecidableEq, Inhabited
def aT (x : aI) : List D := [.lit (.int .i64 x.round), .lit (.int .i64 x.place)]

structure bE where
  Tree : aV
  players : List Int
  won : List (aI × Int)
  deriving DecidableEq, Inhabited
def bT (x : bE) : List D := [.lit (.int .i64 x.Tree.Rounds), .sl 1 (x.Tree.Slots.map aM), .sl 1 (x.players.map aM), .mp false (x.won.map fun p : aI × Int => ((fun a : aI => Value.agg ((aT a).map bW).toArray) p.1, aM p.2))]

structure bZ where
  Low : Int
  High : Int
  deriving DecidableEq, Inhabited
def bN (x : bZ) : List D := [.lit (.int .i64 x.Low), .lit (.int .i64 x.High)]

structure aQ where
  Person : Int
  Gross : Int
  Tax : Int
  Daily : Int
  Fines : Int
  Debt : Int
  Units : Int
  Used : Int
  Rest : Int
  deriving DecidableEq, Inhabited
def aS (x : aQ) : List D := [.lit (.int .i64 x.Person), .lit (.int .i64 x.Gross), .lit (.int .i64 x.Tax), .lit (.int .i64 x.Daily), .lit (.int .i64 x.Fines), .lit (.int .i64 x.Debt), .lit (.int .i64 x.Units), .lit (.int .i64 x.Used), .lit (.int .i64 x.Rest)]

def aOp (x : aV) : Prop := okI x.Rounds ∧ (okL okI) x.Slots

def aIq (x : aF) : Prop := okI x.Kind ∧ okI x.Round ∧ okI x.Place ∧ okI x.Player ∧ okI x.Old

def aIr (x : bY) : Prop := okI x.Player ∧ okI x.One ∧ okI x.Two

def aIo (x : eR) : Prop := okI x.Person ∧ okI x.Mille

def aIp (x : cS) : Prop := okI x.Person ∧ okI x.Num ∧ okI x.Den

def aIn (x : aH) : Prop := okI x.Id ∧ okI x.Kind ∧ okI x.Person ∧ okI x.Amount

def aMr (x : aN) : Prop := aOp x.Tree ∧ (okL aIq) x.Slips ∧ (okL okI) x.Prizes ∧ okI x.Daily ∧ (okL aIr) x.Teams ∧ (okL aIo) x.Levies ∧ (okL aIp) x.Rates ∧ (okL aIn) x.Items

def nT (p_0 : aN) : Option Bool :=
    (bif decide (8 < (p_0.Tree.Slots.length : Int)) then (some true) else (some (decide (20 < (p_0.Slips.length : Int))))).bind fun b2 =>
    (bif b2 then (some true) else (some (decide (20 < (p_0.Prizes.length : Int))))).bind fun b3 =>
    (bif b3 then (some true) else (some (decide (40 < (p_0.Teams.length : Int))))).bind fun b4 =>
    (bif b4 then (some true) else (some (decide (40 < (p_0.Levies.length : Int))))).bind fun b5 =>
    (bif b5 then (some true) else (some (decide (40 < (p_0.Rates.length : Int))))).bind fun b6 =>
    (bif b6 then (some true) else (some (decide (60 < (p_0.Items.length : Int))))).bind fun b7 =>
    some b7

def eS (n_0 : Int) (low_1 : Int) (high_2 : Int) : Option Bool :=
    (bif decide (low_1 ≤ n_0) then (some (decide (n_0 ≤ high_2))) else (some false)).bind fun b1 =>
    some b1

def uB (again0 : Int → Option Bool) (i_101 : Int) (t_101 : aV) : Option Bool :=
    again0 (w64 (i_101 + 1))

def uC (again0 : Int → Option Bool) (i_102 : Int) (t_102 : aV) : Option Bool :=
    uB again0 i_102 t_102

def hY (again0 : Int → Option Bool) (i_2 : Int) (t_2 : aV) : Nat → Int → Option Bool
  | 0, _ => none
  | k2 + 1, k_2 =>
    bif decide (k_2 < i_2) then ((idx t_2.Slots k_2).bind fun x12 =>
    (idx t_2.Slots i_2).bind fun x13 =>
    (bif decide (x12 = x13) then ((idx t_2.Slots i_2).bind fun x14 =>
    some (!decide (x14 = (-1)))) else (some false)).bind fun b15 =>
    bif b15 then (some false)
    else ((hY again0 i_2 t_2 k2) (w64 (k_2 + 1))))
    else (uC again0 i_2 t_2)

def uA : Option Bool :=
    some true

def hJ (t_0 : aV) : Nat → Int → Option Bool
  | 0, _ => none
  | k0 + 1, i_0 =>
    bif decide (i_0 < (t_0.Slots.length : Int)) then ((idx t_0.Slots i_0).bind fun x5 =>
    (eS x5 (-1) 999).bind fun r6 =>
    (bif !r6 then (some true) else ((bif decide ((i_0.tmod 2) = 1) then ((idx t_0.Slots i_0).bind fun x7 =>
    some (decide (x7 = (-1)))) else (some false)).bind fun b8 =>
    (bif b8 then ((idx t_0.Slots (w64 (i_0 - 1))).bind fun x9 =>
    some (decide (x9 = (-1)))) else (some false)).bind fun b10 =>
    some b10)).bind fun b11 =>
    bif b11 then (some false)
    else (hY (hJ t_0 k0) i_0 t_0 BIG 0))
    else (uA)

def mZ (t_0 : aV) : Option Bool :=
    (eS t_0.Rounds 1 5).bind fun r2 =>
    (bif !r2 then (some true) else ((chk (decide (0 ≤ (IntKind.u64.wrap t_0.Rounds)))).bind fun u3 =>
    some (!decide ((t_0.Slots.length : Int) = (w64 (1 * 2 ^ (min (IntKind.u64.wrap t_0.Rounds).toNat 64))))))).bind fun b4 =>
    bif b4 then (some false)
    else (hJ t_0 BIG 0)

def nA (t_0 : aV) (round_1 : Int) : Option Int :=
    (chk (decide (0 ≤ (IntKind.u64.wrap (w64 ((w64 (t_0.Rounds - 1)) - round_1)))))).bind fun u2 =>
    some (w64 (1 * 2 ^ (min (IntKind.u64.wrap (w64 ((w64 (t_0.Rounds - 1)) - round_1))).toNat 64)))

def oM (t_0 : aV) (round_1 : Int) (place_2 : Int) : Option Bool :=
    (eS round_1 0 (w64 (t_0.Rounds - 1))).bind fun r2 =>
    (bif r2 then ((nA t_0 round_1).bind fun r3 =>
    (eS place_2 0 (w64 (r3 - 1))).bind fun r4 =>
    some r4) else (some false)).bind fun b5 =>
    some b5

def pO (t_0 : aV) (x_1 : aF) : Option Bool :=
    (eS x_1.Player 0 999).bind fun r3 =>
    bif !r3 then (some false)
    else (bif decide (x_1.Kind = 5) then ((bif decide (x_1.Round = 0) then ((eS x_1.Place 0 (w64 ((t_0.Slots.length : Int) - 1))).bind fun r4 =>
    some r4) else (some false)).bind fun b5 =>
    (bif b5 then ((eS x_1.Old 0 999).bind fun r6 =>
    some r6) else (some false)).bind fun b7 =>
    some b7)
    else ((eS x_1.Kind 1 4).bind fun r8 =>
    (bif !r8 then (some true) else ((oM t_0 x_1.Round x_1.Place).bind fun r9 =>
    some (!r9))).bind fun b10 =>
    (bif b10 then (some true) else (some (!decide (x_1.Old = 0)))).bind fun b11 =>
    bif b11 then (some false)
    else ((bif decide (0 < x_1.Round) then (some true) else ((idx t_0.Slots (w64 (2 * x_1.Place))).bind fun x12 =>
    (bif !decide (x12 = (-1)) then ((idx t_0.Slots (w64 ((w64 (2 * x_1.Place)) + 1))).bind fun x13 =>
    some (!decide (x13 = (-1)))) else (some false)).bind fun b14 =>
    some b14)).bind fun b15 =>
    some b15)))

def mJ (again0 : Int → (List aF) → Option ((List aF))) (l_101 : List aF) (i_101 : Int) (out_101 : List aF) : Option ((List aF)) :=
    again0 (w64 (i_101 + 1)) out_101

def oO (again0 : Int → (List aF) → Option ((List aF))) (l_102 : List aF) (i_102 : Int) (twin_102 : Bool) (out_102 : List aF) : Option ((List aF)) :=
    bif !twin_102 then ((idx l_102 i_102).bind fun x5 =>
    (app 40 out_102 ([x5])).bind fun x6 =>
    mJ again0 l_102 i_102 x6)
    else (mJ again0 l_102 i_102 out_102)

def iY (again0 : Int → (List aF) → Option ((List aF))) (l_2 : List aF) (i_2 : Int) (out_2 : List aF) : Nat → Bool → Int → Option ((List aF))
  | 0, _, _ => none
  | k2 + 1, twin_2, k_2 =>
    bif decide (k_2 < (out_2.length : Int)) then ((bif twin_2 then (some true) else ((idx out_2 k_2).bind fun x2 =>
    (idx l_2 i_2).bind fun x3 =>
    some (decide (x2 = x3)))).bind fun b4 =>
    (iY again0 l_2 i_2 out_2 k2) b4 (w64 (k_2 + 1)))
    else (oO again0 l_2 i_2 twin_2 out_2)

def vP (out_100 : List aF) : Option ((List aF)) :=
    some out_100

def eX (l_0 : List aF) : Nat → Int → (List aF) → Option ((List aF))
  | 0, _, _ => none
  | k0 + 1, i_0, out_0 =>
    bif decide (i_0 < (l_0.length : Int)) then (iY (eX l_0 k0) l_0 i_0 out_0 BIG false 0)
    else (vP out_0)

def oV (l_0 : List aF) : Option ((List aF)) :=
    eX l_0 BIG 0 ([] : List aF)

def xN : Option Bool :=
    some false

def lX (l_0 : List Int) (n_0 : Int) : Nat → Int → Option Bool
  | 0, _ => none
  | k0 + 1, i_0 =>
    bif decide (i_0 < (l_0.length : Int)) then ((idx l_0 i_0).bind fun x1 =>
    bif decide (x1 = n_0) then (some true)
    else ((lX l_0 n_0 k0) (w64 (i_0 + 1))))
    else (xN)

def uN (l_0 : List Int) (n_1 : Int) : Option Bool :=
    lX l_0 n_1 BIG 0

def jV (again0 : Int → Int → (List Int) → (List Int) → Option ((List Int) × Bool)) (again2 : Int → Int → Bool → (List Int) → Option ((List Int) × Bool)) (allv_103 : List aF) (used_103 : Int) (i_103 : Int) (now_103 : Int) (again_103 : Bool) (t_103 : aV) (out_103 : List Int) (o18_103 : List Int) : Option ((List Int) × Bool) :=
    again2 used_103 now_103 again_103 o18_103

def mF (again0 : Int → Int → (List Int) → (List Int) → Option ((List Int) × Bool)) (again2 : Int → Int → Bool → (List Int) → Option ((List Int) × Bool)) (allv_104 : List aF) (used_104 : Int) (i_104 : Int) (now_104 : Int) (again_104 : Bool) (t_104 : aV) (out_104 : List Int) (nextv_104 : List Int) (o18_104 : List Int) : Option ((List Int) × Bool) :=
    (bif decide (1 < (nextv_104.length : Int)) then (some true) else ((bif decide ((nextv_104.length : Int) = 1) then ((idx nextv_104 0).bind fun x17 =>
    (uN o18_104 x17).bind fun r18 =>
    some r18) else (some false)).bind fun b19 =>
    some b19)).bind fun b20 =>
    bif b20 then (some (([] : List Int), false))
    else (bif decide ((nextv_104.length : Int) = 1) then ((idx nextv_104 0).bind fun x21 =>
    (app 8 o18_104 ([x21])).bind fun x22 =>
    jV again0 again2 allv_104 (w64 (used_104 + 1)) i_104 x21 true t_104 out_104 x22)
    else (jV again0 again2 allv_104 used_104 i_104 now_104 again_104 t_104 out_104 o18_104))

def fL (again0 : Int → Int → (List Int) → (List Int) → Option ((List Int) × Bool)) (again2 : Int → Int → Bool → (List Int) → Option ((List Int) × Bool)) (allv_4 : List aF) (used_4 : Int) (i_4 : Int) (now_4 : Int) (again_4 : Bool) (t_4 : aV) (out_4 : List Int) (o18_4 : List Int) : Nat → Int → (List Int) → Option ((List Int) × Bool)
  | 0, _, _ => none
  | k4 + 1, k_4, nextv_4 =>
    bif decide (k_4 < (allv_4.length : Int)) then ((idx allv_4 k_4).bind fun x9 =>
    (bif decide (x9.Kind = 5) then ((idx allv_4 k_4).bind fun x10 =>
    some (decide (x10.Place = i_4))) else (some false)).bind fun b11 =>
    (bif b11 then ((idx allv_4 k_4).bind fun x12 =>
    some (decide (x12.Old = now_4))) else (some false)).bind fun b13 =>
    bif b13 then ((idx allv_4 k_4).bind fun x14 =>
    (app 8 nextv_4 ([x14.Player])).bind fun x15 =>
    (fL again0 again2 allv_4 used_4 i_4 now_4 again_4 t_4 out_4 o18_4 k4) (w64 (k_4 + 1)) x15)
    else ((fL again0 again2 allv_4 used_4 i_4 now_4 again_4 t_4 out_4 o18_4 k4) (w64 (k_4 + 1)) nextv_4))
    else (mF again0 again2 allv_4 used_4 i_4 now_4 again_4 t_4 out_4 nextv_4 o18_4)

def tD (again0 : Int → Int → (List Int) → (List Int) → Option ((List Int) × Bool)) (allv_101 : List aF) (used_101 : Int) (i_101 : Int) (t_101 : aV) (out_101 : List Int) (o18_101 : List Int) : Option ((List Int) × Bool) :=
    again0 used_101 (w64 (i_101 + 1)) out_101 o18_101

def oU (again0 : Int → Int → (List Int) → (List Int) → Option ((List Int) × Bool)) (allv_102 : List aF) (used_102 : Int) (i_102 : Int) (now_102 : Int) (t_102 : aV) (out_102 : List Int) (o18_102 : List Int) : Option ((List Int) × Bool) :=
    (app 8 out_102 ([now_102])).bind fun x24 =>
    tD again0 allv_102 used_102 i_102 t_102 x24 o18_102

def gS (again0 : Int → Int → (List Int) → (List Int) → Option ((List Int) × Bool)) (allv_2 : List aF) (i_2 : Int) (t_2 : aV) (out_2 : List Int) : Nat → Int → Int → Bool → (List Int) → Option ((List Int) × Bool)
  | 0, _, _, _, _ => none
  | k2 + 1, used_2, now_2, again_2, o18_2 =>
    bif again_2 then (fL again0 (gS again0 allv_2 i_2 t_2 out_2 k2) allv_2 used_2 i_2 now_2 false t_2 out_2 o18_2 BIG 0 ([] : List Int))
    else (oU again0 allv_2 used_2 i_2 now_2 t_2 out_2 o18_2)

def tE (used_106 : Int) (out_106 : List Int) : Option ((List Int) × Bool) :=
    some (out_106, decide (used_106 = 0))

def fM (allv_6 : List aF) (out_6 : List Int) : Nat → Int → Int → Option ((List Int) × Bool)
  | 0, _, _ => none
  | k6 + 1, used_6, k_6 =>
    bif decide (k_6 < (allv_6.length : Int)) then ((idx allv_6 k_6).bind fun x26 =>
    bif decide (x26.Kind = 5) then ((fM allv_6 out_6 k6) (w64 (used_6 - 1)) (w64 (k_6 + 1)))
    else ((fM allv_6 out_6 k6) used_6 (w64 (k_6 + 1))))
    else (tE used_6 out_6)

def tC (allv_100 : List aF) (used_100 : Int) (out_100 : List Int) : Option ((List Int) × Bool) :=
    fM allv_100 out_100 BIG used_100 0

def eM (allv_0 : List aF) (t_0 : aV) : Nat → Int → Int → (List Int) → (List Int) → Option ((List Int) × Bool)
  | 0, _, _, _, _ => none
  | k0 + 1, used_0, i_0, out_0, o18_0 =>
    bif decide (i_0 < (t_0.Slots.length : Int)) then ((idx t_0.Slots i_0).bind fun x7 =>
    gS (eM allv_0 t_0 k0) allv_0 i_0 t_0 out_0 BIG used_0 x7 true o18_0)
    else (tC allv_0 used_0 out_0)

def oN (t_0 : aV) (l_1 : List aF) : Option ((List Int) × Bool) :=
    (oV l_1).bind fun r2 =>
    (app 8 ([] : List Int) t_0.Slots).bind fun x4 =>
    eM r2 t_0 BIG 0 0 ([] : List Int) x4

def vN (again0 : Int → (List (List Int)) → (List Int) → Option (aU × Bool)) (l_101 : List aF) (slots_101 : List Int) (r_101 : Int) (t_101 : aV) (o4_101 : aU) (d_101 : List (List Int)) (d_101_2 : List Int) : Option (aU × Bool) :=
    again0 (w64 (r_101 + 1)) d_101 d_101_2

def mH (again0 : Int → (List (List Int)) → (List Int) → Option (aU × Bool)) (l_102 : List aF) (slots_102 : List Int) (r_102 : Int) (t_102 : aV) (o4_102 : aU) (d_102 : List (List Int)) (d_102_2 : List Int) (row_102 : List Int) : Option (aU × Bool) :=
    (app 24 d_102 [row_102]).bind fun x24 =>
    vN again0 l_102 slots_102 r_102 t_102 o4_102 x24 d_102_2

def eW (again0 : Int → (List (List Int)) → (List Int) → Option (aU × Bool)) (l_2 : List aF) (slots_2 : List Int) (r_2 : Int) (t_2 : aV) (o4_2 : aU) (d_2 : List (List Int)) (d_2_2 : List Int) : Nat → Int → (List Int) → Option (aU × Bool)
  | 0, _, _ => none
  | k2 + 1, p_2, row_2 =>
    (nA t_2 r_2).bind fun r6 =>
    bif decide (p_2 < r6) then ((bif decide (r_2 = 0) then ((idx slots_2 (w64 (2 * p_2))).bind fun x7 =>
    some (decide (x7 = (-1)))) else (some false)).bind fun b8 =>
    bif b8 then ((idx slots_2 (w64 ((w64 (2 * p_2)) + 1))).bind fun x9 =>
    (bif decide (r_2 = 0) then ((idx slots_2 (w64 ((w64 (2 * p_2)) + 1))).bind fun x10 =>
    some (decide (x10 = (-1)))) else (some false)).bind fun b11 =>
    bif b11 then ((idx slots_2 (w64 (2 * p_2))).bind fun x12 =>
    (app 8 row_2 ([x12])).bind fun x13 =>
    (eW again0 l_2 slots_2 r_2 t_2 o4_2 d_2 d_2_2 k2) (w64 (p_2 + 1)) x13)
    else ((app 8 row_2 ([x9])).bind fun x15 =>
    (eW again0 l_2 slots_2 r_2 t_2 o4_2 d_2 d_2_2 k2) (w64 (p_2 + 1)) x15))
    else ((bif decide (r_2 = 0) then ((idx slots_2 (w64 ((w64 (2 * p_2)) + 1))).bind fun x17 =>
    some (decide (x17 = (-1)))) else (some false)).bind fun b18 =>
    bif b18 then ((idx slots_2 (w64 (2 * p_2))).bind fun x19 =>
    (app 8 row_2 ([x19])).bind fun x20 =>
    (eW again0 l_2 slots_2 r_2 t_2 o4_2 d_2 d_2_2 k2) (w64 (p_2 + 1)) x20)
    else ((app 8 row_2 ([(-2)])).bind fun x22 =>
    (eW again0 l_2 slots_2 r_2 t_2 o4_2 d_2 d_2_2 k2) (w64 (p_2 + 1)) x22)))
    else (mH again0 l_2 slots_2 r_2 t_2 o4_2 d_2 d_2_2 row_2)

def mI (again4 : Int → aU → (List (List Int)) → Option (aU × Bool)) (slots_105 : List Int) (allv_105 : List aF) (i_105 : Int) (o4_105 : aU) (d_105 : List (List Int)) (d_105_2 : List Int) : Option (aU × Bool) :=
    again4 (w64 (i_105 + 1)) o4_105 d_105

def vA (again4 : Int → aU → (List (List Int)) → Option (aU × Bool)) (slots_110 : List Int) (allv_110 : List aF) (i_110 : Int) (o4_110 : aU) (d_110 : List (List Int)) (d_110_2 : List Int) : Option (aU × Bool) :=
    mI again4 slots_110 allv_110 i_110 o4_110 d_110 d_110_2

def iJ (again4 : Int → aU → (List (List Int)) → Option (aU × Bool)) (slots_10 : List Int) (allv_10 : List aF) (i_10 : Int) (atv_10 : Int) (d_10_2 : List Int) (x_10 : aF) : Nat → Int → aU → (List (List Int)) → Option (aU × Bool)
  | 0, _, _, _ => none
  | k10 + 1, r_10, o4_10, d_10 =>
    bif decide (r_10 ≤ x_10.Round) then ((chk (decide (0 ≤ (IntKind.u64.wrap (w64 (r_10 + 1)))))).bind fun u36 =>
    (idx d_10 r_10).bind fun x37 =>
    (idx x37 (atv_10.fdiv (2 ^ (min (IntKind.u64.wrap (w64 (r_10 + 1))).toNat 64)))).bind fun x38 =>
    (bif !decide (x38 = (-2)) then ((idx d_10 r_10).bind fun x39 =>
    (idx x39 (atv_10.fdiv (2 ^ (min (IntKind.u64.wrap (w64 (r_10 + 1))).toNat 64)))).bind fun x40 =>
    some (!decide (x40 = x_10.Player))) else (some false)).bind fun b41 =>
    bif b41 then (some ((aU.mk ([] : List Int) ([] : List (List Int))), false))
    else ((idx d_10 r_10).bind fun x42 =>
    (idx x42 (atv_10.fdiv (2 ^ (min (IntKind.u64.wrap (w64 (r_10 + 1))).toNat 64)))).bind fun x43 =>
    (iJ again4 slots_10 allv_10 i_10 atv_10 d_10_2 x_10 k10) (w64 (r_10 + 1)) o4_10 (d_10.set r_10.toNat (x42.set (atv_10.fdiv (2 ^ (min (IntKind.u64.wrap (w64 (r_10 + 1))).toNat 64))).toNat x_10.Player))))
    else (vA again4 slots_10 allv_10 i_10 o4_10 d_10 d_10_2)

def iW (again4 : Int → aU → (List (List Int)) → Option (aU × Bool)) (slots_108 : List Int) (allv_108 : List aF) (i_108 : Int) (atv_108 : Int) (o4_108 : aU) (d_108 : List (List Int)) (d_108_2 : List Int) (x_108 : aF) : Option (aU × Bool) :=
    (bif decide (atv_108 < 0) then (some true) else ((chk (decide (0 ≤ (IntKind.u64.wrap (w64 (x_108.Round + 1)))))).bind fun u34 =>
    some (!decide ((atv_108.fdiv (2 ^ (min (IntKind.u64.wrap (w64 (x_108.Round + 1))).toNat 64))) = x_108.Place)))).bind fun b35 =>
    bif b35 then (some ((aU.mk ([] : List Int) ([] : List (List Int))), false))
    else (iJ again4 slots_108 allv_108 i_108 atv_108 d_108_2 x_108 BIG 0 o4_108 d_108)

def eN (again4 : Int → aU → (List (List Int)) → Option (aU × Bool)) (slots_8 : List Int) (allv_8 : List aF) (i_8 : Int) (o4_8 : aU) (d_8 : List (List Int)) (d_8_2 : List Int) (x_8 : aF) : Nat → Int → Int → Option (aU × Bool)
  | 0, _, _ => none
  | k8 + 1, atv_8, s_8 =>
    bif decide (s_8 < (slots_8.length : Int)) then ((idx slots_8 s_8).bind fun x33 =>
    bif decide (x33 = x_8.Player) then ((eN again4 slots_8 allv_8 i_8 o4_8 d_8 d_8_2 x_8 k8) s_8 (w64 (s_8 + 1)))
    else ((eN again4 slots_8 allv_8 i_8 o4_8 d_8 d_8_2 x_8 k8) atv_8 (w64 (s_8 + 1))))
    else (iW again4 slots_8 allv_8 i_8 atv_8 o4_8 d_8 d_8_2 x_8)

def rS (again4 : Int → aU → (List (List Int)) → Option (aU × Bool)) (slots_106 : List Int) (allv_106 : List aF) (i_106 : Int) (o4_106 : aU) (d_106 : List (List Int)) (d_106_2 : List Int) (x_106 : aF) : Option (aU × Bool) :=
    eN again4 slots_106 allv_106 i_106 o4_106 d_106 d_106_2 x_106 BIG (-1) 0

def iX (again4 : Int → aU → (List (List Int)) → Option (aU × Bool)) (slots_6 : List Int) (allv_6 : List aF) (i_6 : Int) (d_6 : List (List Int)) (d_6_2 : List Int) (x_6 : aF) : Nat → Int → aU → Option (aU × Bool)
  | 0, _, _ => none
  | k6 + 1, k_6, o4_6 =>
    bif decide (k_6 < i_6) then ((idx allv_6 k_6).bind fun x29 =>
    (bif !decide (x29.Kind = 5) then (some (decide (x29.Round = x_6.Round))) else (some false)).bind fun b31 =>
    (bif b31 then (some (decide (x29.Place = x_6.Place))) else (some false)).bind fun b32 =>
    bif b32 then (some ((aU.mk ([] : List Int) ([] : List (List Int))), false))
    else ((iX again4 slots_6 allv_6 i_6 d_6 d_6_2 x_6 k6) (w64 (k_6 + 1)) o4_6))
    else (rS again4 slots_6 allv_6 i_6 o4_6 d_6 d_6_2 x_6)

def vO (o4_104 : aU) (d_104 : List (List Int)) (d_104_2 : List Int) : Option (aU × Bool) :=
    some ((aU.mk d_104_2 d_104), true)

def dN (slots_4 : List Int) (allv_4 : List aF) (d_4_2 : List Int) : Nat → Int → aU → (List (List Int)) → Option (aU × Bool)
  | 0, _, _, _ => none
  | k4 + 1, i_4, o4_4, d_4 =>
    bif decide (i_4 < (allv_4.length : Int)) then ((idx allv_4 i_4).bind fun x27 =>
    bif decide (x27.Kind = 5) then (mI (dN slots_4 allv_4 d_4_2 k4) slots_4 allv_4 i_4 o4_4 d_4 d_4_2)
    else (iX (dN slots_4 allv_4 d_4_2 k4) slots_4 allv_4 i_4 d_4 d_4_2 x27 BIG 0 o4_4))
    else (vO o4_4 d_4 d_4_2)

def mG (l_100 : List aF) (slots_100 : List Int) (o4_100 : aU) (d_100 : List (List Int)) (d_100_2 : List Int) : Option (aU × Bool) :=
    (oV l_100).bind fun r26 =>
    dN slots_100 r26 d_100_2 BIG 0 o4_100 d_100

def hZ (l_0 : List aF) (slots_0 : List Int) (t_0 : aV) (o4_0 : aU) : Nat → Int → (List (List Int)) → (List Int) → Option (aU × Bool)
  | 0, _, _, _ => none
  | k0 + 1, r_0, d_0, d_0_2 =>
    bif decide (r_0 < t_0.Rounds) then (eW (hZ l_0 slots_0 t_0 o4_0 k0) l_0 slots_0 r_0 t_0 o4_0 d_0 d_0_2 BIG 0 ([] : List Int))
    else (mG l_0 slots_0 o4_0 d_0 d_0_2)

def fN (t_0 : aV) (l_1 : List aF) : Option (aU × Bool) :=
    (oN t_0 l_1).bind fun r3 =>
    bif !r3.2 then (some ((aU.mk ([] : List Int) ([] : List (List Int))), false))
    else (hZ l_1 r3.1 t_0 (aU.mk ([] : List Int) ([] : List (List Int))) BIG 0 ([] : List (List Int)) r3.1)

def lH (l_100 : List aF) (t_100 : aV) : Option Int :=
    (fN t_100 l_100).bind fun r5 =>
    bif !r5.2 then (some 72)
    else (some 0)

def iI (l_0 : List aF) (t_0 : aV) : Nat → Int → Option Int
  | 0, _ => none
  | k0 + 1, i_0 =>
    bif decide (i_0 < (l_0.length : Int)) then ((idx l_0 i_0).bind fun x3 =>
    (pO t_0 x3).bind fun r4 =>
    bif !r4 then (some 71)
    else ((iI l_0 t_0 k0) (w64 (i_0 + 1))))
    else (lH l_0 t_0)

def fQ (t_0 : aV) (l_1 : List aF) : Option Int :=
    (mZ t_0).bind fun r2 =>
    bif !r2 then (some 70)
    else (bif decide (60 < (l_1.length : Int)) then (some 71)
    else (iI l_1 t_0 BIG 0))

def eA (n_0 : Int) (low_1 : Int) (high_2 : Int) : Option Bool :=
    (bif decide (low_1 ≤ n_0) then (some (decide (n_0 ≤ high_2))) else (some false)).bind fun b1 =>
    some b1

def yD : Option Bool :=
    some false

def iQ (player_0 : Int) (p_0 : aN) : Nat → Int → Option Bool
  | 0, _ => none
  | k0 + 1, i_0 =>
    bif decide (i_0 < (p_0.Teams.length : Int)) then ((idx p_0.Teams i_0).bind fun x2 =>
    bif decide (x2.Player = player_0) then (some true)
    else ((iQ player_0 p_0 k0) (w64 (i_0 + 1))))
    else (yD)

def mK (p_0 : aN) (player_1 : Int) : Option Bool :=
    iQ player_1 p_0 BIG 0

def sN (again0 : Int → Option Bool) (i_101 : Int) (p_101 : aN) : Option Bool :=
    again0 (w64 (i_101 + 1))

def sO (again0 : Int → Option Bool) (i_102 : Int) (p_102 : aN) : Option Bool :=
    sN again0 i_102 p_102

def gE (again0 : Int → Option Bool) (i_2 : Int) (p_2 : aN) (t_2 : bY) : Nat → Int → Option Bool
  | 0, _ => none
  | k2 + 1, k_2 =>
    bif decide (k_2 < i_2) then ((idx p_2.Teams k_2).bind fun x10 =>
    (bif decide (x10.Player = t_2.Player) then (some true) else (some (decide (x10.One = t_2.One)))).bind fun b12 =>
    (bif b12 then (some true) else (some (decide (x10.Two = t_2.One)))).bind fun b13 =>
    (bif b13 then (some true) else ((bif decide (0 ≤ t_2.Two) then ((bif decide (x10.One = t_2.Two) then (some true) else (some (decide (x10.Two = t_2.Two)))).bind fun b14 =>
    some b14) else (some false)).bind fun b15 =>
    some b15)).bind fun b16 =>
    bif b16 then (some false)
    else ((gE again0 i_2 p_2 t_2 k2) (w64 (k_2 + 1))))
    else (sO again0 i_2 p_2)

def oE (p_106 : aN) : Option Bool :=
    some (decide ((p_106.Teams.length : Int) ≤ 64))

def iD (p_6 : aN) : Nat → Int → Option Bool
  | 0, _ => none
  | k6 + 1, i_6 =>
    bif decide (i_6 < (p_6.Slips.length : Int)) then ((idx p_6.Slips i_6).bind fun x21 =>
    (bif decide (x21.Kind = 5) then ((idx p_6.Slips i_6).bind fun x22 =>
    (mK p_6 x22.Player).bind fun r23 =>
    some (!r23)) else (some false)).bind fun b24 =>
    bif b24 then (some false)
    else ((iD p_6 k6) (w64 (i_6 + 1))))
    else (oE p_6)

def lN (p_104 : aN) : Option Bool :=
    iD p_104 BIG 0

def iC (p_4 : aN) : Nat → Int → Option Bool
  | 0, _ => none
  | k4 + 1, i_4 =>
    bif decide (i_4 < (p_4.Tree.Slots.length : Int)) then ((idx p_4.Tree.Slots i_4).bind fun x17 =>
    (bif !decide (x17 = (-1)) then ((idx p_4.Tree.Slots i_4).bind fun x18 =>
    (mK p_4 x18).bind fun r19 =>
    some (!r19)) else (some false)).bind fun b20 =>
    bif b20 then (some false)
    else ((iC p_4 k4) (w64 (i_4 + 1))))
    else (lN p_4)

def lM (p_100 : aN) : Option Bool :=
    iC p_100 BIG 0

def gD (p_0 : aN) : Nat → Int → Option Bool
  | 0, _ => none
  | k0 + 1, i_0 =>
    bif decide (i_0 < (p_0.Teams.length : Int)) then ((idx p_0.Teams i_0).bind fun x2 =>
    (eA x2.Player 0 999).bind fun r4 =>
    (bif !r4 then (some true) else ((eA x2.One 0 999).bind fun r5 =>
    some (!r5))).bind fun b6 =>
    (bif b6 then (some true) else ((eA x2.Two (-1) 999).bind fun r7 =>
    some (!r7))).bind fun b8 =>
    (bif b8 then (some true) else (some (decide (x2.One = x2.Two)))).bind fun b9 =>
    bif b9 then (some false)
    else (gE (gD p_0 k0) i_0 p_0 x2 BIG 0))
    else (lM p_0)

def lI (p_0 : aN) : Option Bool :=
    gD p_0 BIG 0

def aAr (t_100 : bY) : Option (bY × Bool × Bool) :=
    some ((bY.mk 0 0 0), false, false)

def kI (person_0 : Int) (p_0 : aN) : Nat → Int → bY → Option (bY × Bool × Bool)
  | 0, _, _ => none
  | k0 + 1, i_0, t_0 =>
    bif decide (i_0 < (p_0.Teams.length : Int)) then ((idx p_0.Teams i_0).bind fun x3 =>
    (bif decide (x3.One = person_0) then (some true) else ((idx p_0.Teams i_0).bind fun x4 =>
    (bif decide (x4.Two = person_0) then (some (decide (0 ≤ person_0))) else (some false)).bind fun b5 =>
    some b5)).bind fun b6 =>
    bif b6 then ((idx p_0.Teams i_0).bind fun x7 =>
    (idx p_0.Teams i_0).bind fun x8 =>
    some (x7, decide (x8.Two = person_0), true))
    else ((kI person_0 p_0 k0) (w64 (i_0 + 1)) t_0))
    else (aAr t_0)

def oW (p_0 : aN) (person_1 : Int) : Option (bY × Bool × Bool) :=
    kI person_1 p_0 BIG 0 (bY.mk 0 0 0)

def gR (p_0 : aN) (person_1 : Int) : Option Bool :=
    (oW p_0 person_1).bind fun r2 =>
    (bif r2.2.2 then (some (decide (0 ≤ person_1))) else (some false)).bind fun b4 =>
    some b4

def sI (again0 : Int → Option Bool) (i_101 : Int) (p_101 : aN) : Option Bool :=
    again0 (w64 (i_101 + 1))

def sJ (again0 : Int → Option Bool) (i_102 : Int) (p_102 : aN) : Option Bool :=
    sI again0 i_102 p_102

def gB (again0 : Int → Option Bool) (i_2 : Int) (p_2 : aN) : Nat → Int → Option Bool
  | 0, _ => none
  | k2 + 1, k_2 =>
    bif decide (k_2 < i_2) then ((idx p_2.Levies k_2).bind fun x7 =>
    (idx p_2.Levies i_2).bind fun x8 =>
    bif decide (x7.Person = x8.Person) then (some false)
    else ((gB again0 i_2 p_2 k2) (w64 (k_2 + 1))))
    else (sJ again0 i_2 p_2)

def sL (again4 : Int → Option Bool) (i_105 : Int) (p_105 : aN) : Option Bool :=
    again4 (w64 (i_105 + 1))

def sM (again4 : Int → Option Bool) (i_106 : Int) (p_106 : aN) : Option Bool :=
    sL again4 i_106 p_106

def gC (again4 : Int → Option Bool) (i_6 : Int) (p_6 : aN) (r_6 : cS) : Nat → Int → Option Bool
  | 0, _ => none
  | k6 + 1, k_6 =>
    bif decide (k_6 < i_6) then ((idx p_6.Rates k_6).bind fun x16 =>
    bif decide (x16.Person = r_6.Person) then (some false)
    else ((gC again4 i_6 p_6 r_6 k6) (w64 (k_6 + 1))))
    else (sM again4 i_6 p_6)

def sK : Option Bool :=
    some true

def dR (p_4 : aN) : Nat → Int → Option Bool
  | 0, _ => none
  | k4 + 1, i_4 =>
    bif decide (i_4 < (p_4.Rates.length : Int)) then ((idx p_4.Rates i_4).bind fun x9 =>
    (gR p_4 x9.Person).bind fun r11 =>
    (bif !r11 then (some true) else ((eA x9.Num 1 10000).bind fun r12 =>
    some (!r12))).bind fun b13 =>
    (bif b13 then (some true) else ((eA x9.Den 1 10000).bind fun r14 =>
    some (!r14))).bind fun b15 =>
    bif b15 then (some false)
    else (gC (dR p_4 k4) i_4 p_4 x9 BIG 0))
    else (sK)

def lL (p_100 : aN) : Option Bool :=
    dR p_100 BIG 0

def dQ (p_0 : aN) : Nat → Int → Option Bool
  | 0, _ => none
  | k0 + 1, i_0 =>
    bif decide (i_0 < (p_0.Levies.length : Int)) then ((idx p_0.Levies i_0).bind fun x2 =>
    (gR p_0 x2.Person).bind fun r3 =>
    (bif !r3 then (some true) else ((idx p_0.Levies i_0).bind fun x4 =>
    (eA x4.Mille 0 500).bind fun r5 =>
    some (!r5))).bind fun b6 =>
    bif b6 then (some false)
    else (gB (dQ p_0 k0) i_0 p_0 BIG 0))
    else (lL p_0)

def nL (p_0 : aN) : Option Bool :=
    dQ p_0 BIG 0

def sG (again0 : Int → Option Bool) (i_101 : Int) (p_101 : aN) : Option Bool :=
    again0 (w64 (i_101 + 1))

def sH (again0 : Int → Option Bool) (i_102 : Int) (p_102 : aN) : Option Bool :=
    sG again0 i_102 p_102

def gA (again0 : Int → Option Bool) (i_2 : Int) (p_2 : aN) (x_2 : aH) : Nat → Int → Option Bool
  | 0, _ => none
  | k2 + 1, k_2 =>
    bif decide (k_2 < i_2) then ((idx p_2.Items k_2).bind fun x13 =>
    (bif decide (x13.Id = x_2.Id) then ((idx p_2.Items k_2).bind fun x14 =>
    some (!decide (x14 = x_2))) else (some false)).bind fun b15 =>
    bif b15 then (some false)
    else ((gA again0 i_2 p_2 x_2 k2) (w64 (k_2 + 1))))
    else (sH again0 i_2 p_2)

def oD (p_100 : aN) : Option Bool :=
    some (decide ((p_100.Items.length : Int) ≤ 40))

def dP (p_0 : aN) : Nat → Int → Option Bool
  | 0, _ => none
  | k0 + 1, i_0 =>
    bif decide (i_0 < (p_0.Items.length : Int)) then ((idx p_0.Items i_0).bind fun x2 =>
    (eA x2.Id 0 99).bind fun r4 =>
    (bif !r4 then (some true) else ((gR p_0 x2.Person).bind fun r5 =>
    some (!r5))).bind fun b6 =>
    (bif b6 then (some true) else ((bif decide (x2.Kind = 1) then ((eA x2.Amount 0 10000000).bind fun r7 =>
    some r7) else (some false)).bind fun b8 =>
    (bif b8 then (some true) else ((bif decide (x2.Kind = 2) then ((eA x2.Amount 0 30).bind fun r9 =>
    some r9) else (some false)).bind fun b10 =>
    some b10)).bind fun b11 =>
    some (!b11))).bind fun b12 =>
    bif b12 then (some false)
    else (gA (dP p_0 k0) i_0 p_0 x2 BIG 0))
    else (oD p_0)

def nK (p_0 : aN) : Option Bool :=
    dP p_0 BIG 0

def rG (p_100 : aN) : Option Int :=
    (bif !decide ((p_100.Prizes.length : Int) = (w64 (p_100.Tree.Rounds + 1))) then (some true) else ((eA p_100.Daily 0 100000).bind fun r9 =>
    some (!r9))).bind fun b10 =>
    bif b10 then (some 100)
    else ((lI p_100).bind fun r11 =>
    (bif !r11 then (some true) else ((nL p_100).bind fun r12 =>
    some (!r12))).bind fun b13 =>
    bif b13 then (some 101)
    else ((nK p_100).bind fun r14 =>
    bif !r14 then (some 102)
    else (some 0)))

def iK (p_0 : aN) : Nat → Int → Option Int
  | 0, _ => none
  | k0 + 1, i_0 =>
    bif decide (i_0 < (p_0.Prizes.length : Int)) then ((idx p_0.Prizes i_0).bind fun x3 =>
    (eA x3 0 10000000).bind fun r4 =>
    (bif !r4 then (some true) else ((bif decide (0 < i_0) then ((idx p_0.Prizes i_0).bind fun x5 =>
    (idx p_0.Prizes (w64 (i_0 - 1))).bind fun x6 =>
    some (decide (x5 < x6))) else (some false)).bind fun b7 =>
    some b7)).bind fun b8 =>
    bif b8 then (some 100)
    else ((iK p_0 k0) (w64 (i_0 + 1))))
    else (rG p_0)

def kH (p_0 : aN) : Option Int :=
    (fQ p_0.Tree p_0.Slips).bind fun r2 =>
    bif !decide (r2 = 0) then (some r2)
    else (iK p_0 BIG 0)

def oL : Option aN :=
    some (aN.mk (aV.mk 2 ([1, 2, 3, 4])) ([(aF.mk 1 0 0 1 0)]) ([100, 300, 1001]) 40 ([(bY.mk 1 11 12), (bY.mk 2 21 22), (bY.mk 3 31 (-1)), (bY.mk 4 41 (-1))]) ([(eR.mk 11 250)]) ([(cS.mk 21 3 2), (cS.mk 22 1 3)]) ([(aH.mk 1 1 21 30), (aH.mk 2 2 11 2), (aH.mk 3 1 31 160)]))

def gG (n_0 : Int) (low_1 : Int) (high_2 : Int) : Option Bool :=
    (bif decide (low_1 ≤ n_0) then (some (decide (n_0 ≤ high_2))) else (some false)).bind fun b1 =>
    some b1

def wV : Option Bool :=
    some true

def jI (t21_0 : List Int) (t22_0 : Int) (t_0 : aV) : Nat → Int → (List (Int × Int)) → Option Bool
  | 0, _, _ => none
  | k0 + 1, t23_0, o19_0 =>
    bif decide (t23_0 < t22_0) then ((idx t21_0 t23_0).bind fun x6 =>
    bif decide (x6 = (-1)) then ((idx t_0.Slots (aQb t23_0 1)).bind fun x7 =>
    bif decide (x7 = (-1)) then (some false)
    else ((jI t21_0 t22_0 t_0 k0) (w64 (t23_0 + 1)) o19_0))
    else ((bif decide (1 < (dB x6 0 (gY x6 (w64 ((dB x6 0 o19_0) + 1)) o19_0))) then (some true) else ((gG x6 0 999).bind fun r8 =>
    some (!r8))).bind fun b9 =>
    bif b9 then (some false)
    else ((jI t21_0 t22_0 t_0 k0) (w64 (t23_0 + 1)) (gY x6 (w64 ((dB x6 0 o19_0) + 1)) o19_0))))
    else (wV)

def qL (t_0 : aV) : Option Bool :=
    (gG t_0.Rounds 1 5).bind fun r2 =>
    (bif !r2 then (some true) else ((chk (decide (0 ≤ t_0.Rounds))).bind fun u3 =>
    some (!decide ((t_0.Slots.length : Int) = (w64 (1 * 2 ^ (min t_0.Rounds.toNat 64))))))).bind fun b4 =>
    bif b4 then (some false)
    else (jI t_0.Slots (t_0.Slots.length : Int) t_0 BIG 0 ([] : List (Int × Int)))

def oA : Option Int :=
    some (-1)

def fF (s_0 : List aF) (f_0 : aF → Option Bool) (t7_0 : Int) : Nat → Int → Option Int
  | 0, _ => none
  | k0 + 1, t8_0 =>
    bif decide (t8_0 < t7_0) then ((idx s_0 t8_0).bind fun x1 =>
    (f_0 x1).bind fun r2 =>
    bif r2 then (some t8_0)
    else ((fF s_0 f_0 t7_0 k0) (w64 (t8_0 + 1))))
    else (oA)

def jT (s_0 : List aF) (f_1 : aF → Option Bool) : Option Int :=
    fF s_0 f_1 (s_0.length : Int) BIG 0

def iR (s_0 : List aF) (f_1 : aF → Option Bool) : Option Bool :=
    (jT s_0 f_1).bind fun r1 =>
    some (decide (0 ≤ r1))

def qQ (m_0 : aI) (t_1 : aV) : Option Bool :=
    (gG m_0.round 0 (w64 (t_1.Rounds - 1))).bind fun r3 =>
    (bif r3 then ((chk (decide (0 ≤ (w64 (m_0.round + 1))))).bind fun u4 =>
    (gG m_0.place 0 (w64 (((t_1.Slots.length : Int).fdiv (2 ^ (min (w64 (m_0.round + 1)).toNat 64))) - 1))).bind fun r5 =>
    some r5) else (some false)).bind fun b6 =>
    some b6

def vE : Option Int :=
    some (-1)

def jQ (s_0 : List Int) (v_0 : Int) (t7_0 : Int) : Nat → Int → Option Int
  | 0, _ => none
  | k0 + 1, t8_0 =>
    bif decide (t8_0 < t7_0) then ((idx s_0 t8_0).bind fun x1 =>
    bif decide (v_0 = x1) then (some t8_0)
    else ((jQ s_0 v_0 t7_0 k0) (w64 (t8_0 + 1))))
    else (vE)

def iE (s_0 : List Int) (v_1 : Int) : Option Int :=
    jQ s_0 v_1 (s_0.length : Int) BIG 0

def dJ (s_0 : List Int) (v_1 : Int) : Option Bool :=
    (iE s_0 v_1).bind fun r1 =>
    some (decide (0 ≤ r1))

def tB (t_0 : aV) (s_1 : aF) : Option Bool :=
    (gG s_1.Player 0 999).bind fun r3 =>
    bif !r3 then (some false)
    else (bif decide (s_1.Kind = 5) then ((bif decide (s_1.Round = 0) then ((gG s_1.Place 0 (w64 ((t_0.Slots.length : Int) - 1))).bind fun r4 =>
    some r4) else (some false)).bind fun b5 =>
    (bif b5 then ((gG s_1.Old 0 999).bind fun r6 =>
    some r6) else (some false)).bind fun b7 =>
    some b7)
    else ((gG s_1.Kind 1 4).bind fun r9 =>
    (bif !r9 then (some true) else (some (!decide (s_1.Old = 0)))).bind fun b10 =>
    (bif b10 then (some true) else ((qQ (aI.mk s_1.Round s_1.Place) t_0).bind fun r11 =>
    some (!r11))).bind fun b12 =>
    bif b12 then (some false)
    else ((bif decide (0 < s_1.Round) then (some true) else ((sub t_0.Slots (w64 (2 * s_1.Place)) (w64 ((w64 (2 * s_1.Place)) + 2))).bind fun x13 =>
    (dJ x13 (-1)).bind fun r14 =>
    some (!r14))).bind fun b15 =>
    some b15)))

def qM (s_0 : aF) (c_1 : aV) : Option Bool :=
    (tB c_1 s_0).bind fun r2 =>
    some (!r2)

def slices_Clone_int (s_0 : List Int) : Option ((List Int)) :=
    (app 8 ([] : List Int) s_0).bind fun x5 =>
    some x5

def pX (againQ : (aF × Bool) → Prop) (d_100 : List Int) (d_100_2 : aV) (lucky_100 : List (aF × Int)) (o6_100 : aF) : Prop :=
    againQ ((aF.mk 0 0 0 0 0), false)

def jD (againQ : (aF × Bool) → Prop) (slot_0 : Int) (d_0 : List Int) (d_0_2 : aV) (lucky_0 : List (aF × Int)) : Nat → aF → (List (aF × Int)) → Prop
  | 0, _, _ => False
  | k0 + 1, o6_0, left_0 =>
    aQv left_0 (pX againQ d_0 d_0_2 lucky_0 o6_0)
    (fun p5 left6 =>
    nb (bif decide (p5.1.Place = slot_0) then ((idx d_0 slot_0).bind fun x8 =>
    some (decide (p5.1.Old = x8))) else (some false)) fun b9 =>
    bif b9 then (againQ (p5.1, true))
    else ((jD againQ slot_0 d_0 d_0_2 lucky_0 k0) o6_0 left6))

def jH (d_0_Tree : aV) (d_0_players : List Int) (lucky_1 : List (aF × Int)) (slot_2 : Int) (Q : (aF × Bool) → Prop) : Prop :=
    aEt lucky_1 fun left3 =>
    jD Q slot_2 d_0_players d_0_Tree lucky_1 BIG (aF.mk 0 0 0 0 0) left3

def nH (againQ : (Bool × (List Int) × (List (aF × Int))) → Prop) (again0 : Int → (List Int) → (List (aF × Int)) → (List Int) → Prop) (t19_101 : Int) (t20_101 : Int) (d_101 : List Int) (d_101_2 : aV) (lucky_101 : List (aF × Int)) (o14_101 : List Int) : Prop :=
    again0 (w64 (t20_101 + 1)) d_101 lucky_101 o14_101

def nI (againQ : (Bool × (List Int) × (List (aF × Int))) → Prop) (again0 : Int → (List Int) → (List (aF × Int)) → (List Int) → Prop) (t19_102 : Int) (t20_102 : Int) (d_102 : List Int) (d_102_2 : aV) (lucky_102 : List (aF × Int)) (o14_102 : List Int) : Prop :=
    nH againQ again0 t19_102 t20_102 d_102 d_102_2 lucky_102 o14_102

def eL (againQ : (Bool × (List Int) × (List (aF × Int))) → Prop) (again0 : Int → (List Int) → (List (aF × Int)) → (List Int) → Prop) (i_2 : Int) (t19_2 : Int) (t20_2 : Int) (d_2_2 : aV) : Nat → Bool → (List Int) → (List (aF × Int)) → aF → (List Int) → Prop
  | 0, _, _, _, _, _ => False
  | k2 + 1, isv_2, d_2, lucky_2, s_2, o14_2 =>
    bif isv_2 then (nb (dJ o14_2 s_2.Player) fun r5 =>
    bif r5 then (againQ (false, d_2, lucky_2))
    else (nb (idx d_2 i_2) fun x6 =>
    nb (app 8 o14_2 ([s_2.Player])) fun x7 =>
    jH d_2_2 (d_2.set i_2.toNat s_2.Player) (sV s_2 lucky_2) i_2 fun r10 =>
    (eL againQ again0 i_2 t19_2 t20_2 d_2_2 k2) r10.2 (d_2.set i_2.toNat s_2.Player) (sV s_2 lucky_2) r10.1 x7))
    else (nI againQ again0 t19_2 t20_2 d_2 d_2_2 lucky_2 o14_2)

def nG (againQ : (Bool × (List Int) × (List (aF × Int))) → Prop) (d_100 : List Int) (d_100_2 : aV) (lucky_100 : List (aF × Int)) : Prop :=
    againQ (decide ((lucky_100.length : Int) = 0), d_100, lucky_100)

def dE (againQ : (Bool × (List Int) × (List (aF × Int))) → Prop) (t19_0 : Int) (d_0_2 : aV) : Nat → Int → (List Int) → (List (aF × Int)) → (List Int) → Prop
  | 0, _, _, _, _ => False
  | k0 + 1, t20_0, d_0, lucky_0, o14_0 =>
    bif decide (t20_0 < t19_0) then (jH d_0_2 d_0 lucky_0 t20_0 fun r3 =>
    eL againQ (dE againQ t19_0 d_0_2 k0) t20_0 t19_0 t20_0 d_0_2 BIG r3.2 d_0 lucky_0 r3.1 o14_0)
    else (nG againQ d_0 d_0_2 lucky_0)

def mR (d_0_Tree : aV) (d_0_players : List Int) (lucky_1 : List (aF × Int)) (Q : (Bool × (List Int) × (List (aF × Int))) → Prop) : Prop :=
    nb (slices_Clone_int d_0_Tree.Slots) fun r1 =>
    dE Q (d_0_players.length : Int) d_0_Tree BIG 0 d_0_players lucky_1 r1

def pY (round_0 : Int) (slot_1 : Int) : Option aI :=
    (chk (decide (0 ≤ (w64 (round_0 + 1))))).bind fun u2 =>
    some (aI.mk round_0 (slot_1.fdiv (2 ^ (min (w64 (round_0 + 1)).toNat 64))))

def tY (d_100 : List Int) (d_100_2 : List (aI × Int)) (d_100_3 : aV) : Option (Bool × (List (aI × Int))) :=
    some (true, d_100_2)

def jE (slot_0 : Int) (t12_0 : Int) (d_0 : List Int) (d_0_3 : aV) : Nat → Int → (List (aI × Int)) → Option (Bool × (List (aI × Int)))
  | 0, _, _ => none
  | k0 + 1, t13_0, d_0_2 =>
    bif decide (t13_0 < t12_0) then ((pY t13_0 slot_0).bind fun r1 =>
    (bif eB r1 d_0_2 then ((idx d_0 slot_0).bind fun x3 =>
    some (!decide ((dB r1 0 d_0_2) = x3))) else (some false)).bind fun b4 =>
    bif b4 then (some (false, d_0_2))
    else ((idx d_0 slot_0).bind fun x5 =>
    (jE slot_0 t12_0 d_0 d_0_3 k0) (w64 (t13_0 + 1)) (gY r1 x5 d_0_2)))
    else (tY d_0 d_0_2 d_0_3)

def mY (d_0_Tree : aV) (d_0_players : List Int) (d_0_won : List (aI × Int)) (slot_1 : Int) (round_2 : Int) : Option (Bool × (List (aI × Int))) :=
    jE slot_1 (w64 (round_2 + 1)) d_0_players d_0_Tree BIG 0 d_0_won

def xL (againQ : ((Option bE) × Bool) → Prop) (o22_104 : List Int) (o23_104 : List (aI × Int)) (o25_104 : aV) : Prop :=
    againQ ((some (bE.mk o25_104 o22_104 o23_104)), true)

def lW (againQ : ((Option bE) × Bool) → Prop) (o22_4 : List Int) (o25_4 : aV) (o27_4 : List (aI × aF)) : Nat → (List (aI × Int)) → (List (aI × aF)) → Prop
  | 0, _, _ => False
  | k4 + 1, o23_4, left_4 =>
    aQv left_4 (xL againQ o22_4 o23_4 o25_4)
    (fun p23 left24 =>
    nb (iE o22_4 p23.2.Player) fun r27 =>
    nb (bif decide (r27 < 0) then (some true) else ((pY p23.1.round r27).bind fun r28 =>
    some (!decide (r28 = p23.1)))) fun b29 =>
    bif b29 then (againQ ((none : Option bE), false))
    else (nb (mY o25_4 o22_4 o23_4 r27 p23.1.round) fun r31 =>
    bif !r31.1 then (againQ ((none : Option bE), false))
    else ((lW againQ o22_4 o25_4 o27_4 k4) r31.2 left24)))

def tX (againQ : ((Option bE) × Bool) → Prop) (o22_102 : List Int) (o23_102 : List (aI × Int)) (o25_102 : aV) (o27_102 : List (aI × aF)) : Prop :=
    aEt o27_102 fun left21 =>
    lW againQ o22_102 o25_102 o27_102 BIG o23_102 left21

def jC (againQ : ((Option bE) × Bool) → Prop) (t72_2 : Int) (o22_2 : List Int) (o25_2 : aV) (o27_2 : List (aI × aF)) : Nat → Int → (List (aI × Int)) → Prop
  | 0, _, _ => False
  | k2 + 1, t73_2, o23_2 =>
    bif decide (t73_2 < t72_2) then (nb (idx o22_2 t73_2) fun x16 =>
    bif decide (x16 = (-1)) then (nb (mY o25_2 o22_2 o23_2 (aQb t73_2 1) 0) fun r17 =>
    (jC againQ t72_2 o22_2 o25_2 o27_2 k2) (w64 (t73_2 + 1)) r17.2)
    else ((jC againQ t72_2 o22_2 o25_2 o27_2 k2) (w64 (t73_2 + 1)) o23_2))
    else (tX againQ o22_2 o23_2 o25_2 o27_2)

def tW (againQ : ((Option bE) × Bool) → Prop) (o22_100 : List Int) (o23_100 : List (aI × Int)) (o25_100 : aV) (o26_100 : List (aF × Int)) (o27_100 : List (aI × aF)) : Prop :=
    mR o25_100 o22_100 o26_100 fun r13 =>
    bif !r13.1 then (againQ ((none : Option bE), false))
    else (jC againQ (r13.2.1.length : Int) r13.2.1 o25_100 o27_100 BIG 0 o23_100)

def jB (againQ : ((Option bE) × Bool) → Prop) (t28_0 : List aF) (t29_0 : Int) (o22_0 : List Int) (o23_0 : List (aI × Int)) (o25_0 : aV) : Nat → Int → (List (aF × Int)) → (List (aI × aF)) → Prop
  | 0, _, _, _ => False
  | k0 + 1, t30_0, o26_0, o27_0 =>
    bif decide (t30_0 < t29_0) then (nb (idx t28_0 t30_0) fun x8 =>
    bif decide (x8.Kind = 5) then ((jB againQ t28_0 t29_0 o22_0 o23_0 o25_0 k0) (w64 (t30_0 + 1)) (gY x8 (w64 ((dB x8 0 o26_0) + 1)) o26_0) o27_0)
    else (nb (bif eB (aI.mk x8.Round x8.Place) o27_0 then (some (!decide ((dB (aI.mk x8.Round x8.Place) (aF.mk 0 0 0 0 0) o27_0) = x8))) else (some false)) fun b12 =>
    bif b12 then (againQ ((none : Option bE), false))
    else ((jB againQ t28_0 t29_0 o22_0 o23_0 o25_0 k0) (w64 (t30_0 + 1)) o26_0 (gY (aI.mk x8.Round x8.Place) x8 o27_0))))
    else (tW againQ o22_0 o23_0 o25_0 o26_0 o27_0)

def uL (t_0 : aV) (l_1 : List aF) (Q : ((Option bE) × Bool) → Prop) : Prop :=
    nb (slices_Clone_int t_0.Slots) fun r2 =>
    jB Q l_1 (l_1.length : Int) r2 ([] : List (aI × Int)) t_0 BIG 0 ([] : List (aF × Int)) ([] : List (aI × aF))

def oK (t_0 : aV) (l_1 : List aF) (Q : ((Option bE) × Int) → Prop) : Prop :=
    nb (qL t_0) fun r2 =>
    bif !r2 then (Q ((none : Option bE), 70))
    else (nb (bif decide (60 < (l_1.length : Int)) then (some true) else ((iR l_1 (fun y3 => qM y3 t_0)).bind fun r4 =>
    some r4)) fun b5 =>
    bif b5 then (Q ((none : Option bE), 71))
    else (uL t_0 l_1 fun r6 =>
    bif !r6.2 then (Q ((none : Option bE), 72))
    else (Q (r6.1, 0))))

def uK (t_0 : aV) (l_1 : List aF) (Q : Int → Prop) : Prop :=
    oK t_0 l_1 fun r2 =>
    Q r2.2

def uM (x_0 : Int) : Option Bool :=
    some (!decide (x_0 = x_0))

def vM (x_0 : Int) (y_1 : Int) : Option Bool :=
    (uM x_0).bind fun r1 =>
    (bif r1 then ((uM y_1).bind fun r2 =>
    some (!r2)) else (some false)).bind fun b3 =>
    (bif b3 then (some true) else (some (decide (x_0 < y_1)))).bind fun b4 =>
    some b4

def wZ : Option Bool :=
    some true

def iF (x_0 : List Int) : Nat → Int → Option Bool
  | 0, _ => none
  | k0 + 1, i_0 =>
    bif decide (0 < i_0) then ((idx x_0 i_0).bind fun x1 =>
    (idx x_0 (w64 (i_0 - 1))).bind fun x2 =>
    (vM x1 x2).bind fun r3 =>
    bif r3 then (some false)
    else ((iF x_0 k0) (w64 (i_0 - 1))))
    else (wZ)

def nP (x_0 : List Int) : Option Bool :=
    iF x_0 BIG (w64 ((x_0.length : Int) - 1))

def gO (n_0 : Int) (low_1 : Int) (high_2 : Int) : Option Bool :=
    (bif decide (low_1 ≤ n_0) then (some (decide (n_0 ≤ high_2))) else (some false)).bind fun b1 =>
    some b1

def uS (p_0 : aN) : Option Bool :=
    (bif !decide ((p_0.Prizes.length : Int) = (w64 (p_0.Tree.Rounds + 1))) then (some true) else ((nP p_0.Prizes).bind fun r2 =>
    some (!r2))).bind fun b3 =>
    (bif b3 then (some true) else ((gO p_0.Daily 0 100000).bind fun r4 =>
    some (!r4))).bind fun b5 =>
    bif b5 then (some false)
    else ((idx p_0.Prizes 0).bind fun x6 =>
    (bif decide (0 ≤ x6) then ((idx p_0.Prizes (w64 ((p_0.Prizes.length : Int) - 1))).bind fun x7 =>
    some (decide (x7 ≤ 10000000))) else (some false)).bind fun b8 =>
    some b8)

def slices_Sort_int (x : List Int) : Option (List Int) := if x.length < 4611686018427387904 then some (eT x) else none

def uH (out_100 : List Int) : Option ((List Int)) :=
    (slices_Sort_int out_100).bind fun r9 =>
    some r9

def kN (t7_0 : List bY) (t8_0 : Int) : Nat → Int → (List Int) → Option ((List Int))
  | 0, _, _ => none
  | k0 + 1, t9_0, out_0 =>
    bif decide (t9_0 < t8_0) then ((idx t7_0 t9_0).bind fun x3 =>
    (app 8 out_0 ([x3.One])).bind fun x5 =>
    bif !decide (x3.Two = (-1)) then ((app 8 x5 ([x3.Two])).bind fun x7 =>
    (kN t7_0 t8_0 k0) (w64 (t9_0 + 1)) x7)
    else ((kN t7_0 t8_0 k0) (w64 (t9_0 + 1)) x5))
    else (uH out_0)

def pH (p_0 : aN) : Option ((List Int)) :=
    kN p_0.Teams (p_0.Teams.length : Int) BIG 0 ([] : List Int)

def tO (again0 : Int → (List Int) → Option ((List Int))) (k_102 : Int) (s_102 : List Int) : Option ((List Int)) :=
    (chk (decide (0 ≤ k_102) && decide (k_102 ≤ (s_102.length : Int)))).bind fun u9 =>
    (chk (decide (k_102.toNat ≤ s_102.length))).bind fun u10 =>
    (chk (decide (0 ≤ k_102))).bind fun u11 =>
    some (s_102.take k_102.toNat)

def gV (again0 : Int → (List Int) → Option ((List Int))) (s2_2 : Int) : Nat → Int → Int → (List Int) → Option ((List Int))
  | 0, _, _, _ => none
  | k2 + 1, k_2, k2_2, s_2 =>
    bif decide (k2_2 < ((s_2.drop s2_2.toNat).length : Int)) then ((idx (s_2.drop s2_2.toNat) k2_2).bind fun x5 =>
    (idx (s_2.drop s2_2.toNat) (w64 (k2_2 - 1))).bind fun x6 =>
    bif !decide (x5 = x6) then ((idx (s_2.drop s2_2.toNat) k2_2).bind fun x7 =>
    (idx s_2 k_2).bind fun x8 =>
    (gV again0 s2_2 k2) (w64 (k_2 + 1)) (w64 (k2_2 + 1)) (s_2.set k_2.toNat x7))
    else ((gV again0 s2_2 k2) k_2 (w64 (k2_2 + 1)) s_2))
    else (tO again0 k_2 s_2)

def tN (again0 : Int → (List Int) → Option ((List Int))) (k_101 : Int) (s_101 : List Int) : Option ((List Int)) :=
    again0 (w64 (k_101 + 1)) s_101

def tM (s_100 : List Int) : Option ((List Int)) :=
    some s_100

def fA : Nat → Int → (List Int) → Option ((List Int))
  | 0, _, _ => none
  | k0 + 1, k_0, s_0 =>
    bif decide (k_0 < (s_0.length : Int)) then ((idx s_0 k_0).bind fun x2 =>
    (idx s_0 (w64 (k_0 - 1))).bind fun x3 =>
    bif decide (x2 = x3) then ((chk (decide (0 ≤ k_0) && decide (k_0 ≤ (s_0.length : Int)))).bind fun u4 =>
    gV (fA k0) k_0 BIG k_0 1 s_0)
    else (tN (fA k0) k_0 s_0))
    else (tM s_0)

def slices_Compact_int (s_0 : List Int) : Option ((List Int)) :=
    bif decide ((s_0.length : Int) < 2) then (some s_0)
    else (fA BIG 1 s_0)

def pA (l_0 : List Int) : Option Bool :=
    (slices_Clone_int l_0).bind fun r1 =>
    (slices_Compact_int r1).bind fun r3 =>
    some (decide ((r3.length : Int) = (l_0.length : Int)))

def vZ : Option Bool :=
    some true

def gM (people_0 : List Int) (ofv_0 : eR → Option (Int × Bool)) (t12_0 : List eR) (t13_0 : Int) : Nat → Int → (List Int) → Option Bool
  | 0, _, _ => none
  | k0 + 1, t14_0, done_0 =>
    bif decide (t14_0 < t13_0) then ((idx t12_0 t14_0).bind fun x2 =>
    (ofv_0 x2).bind fun r4 =>
    (bif !r4.2 then (some true) else ((dJ people_0 r4.1).bind fun r5 =>
    some (!r5))).bind fun b6 =>
    (bif b6 then (some true) else ((dJ done_0 r4.1).bind fun r7 =>
    some r7)).bind fun b8 =>
    bif b8 then (some false)
    else ((app 8 done_0 ([r4.1])).bind fun x9 =>
    (gM people_0 ofv_0 t12_0 t13_0 k0) (w64 (t14_0 + 1)) x9))
    else (vZ)

def mM (people_0 : List Int) (l_1 : List eR) (of_2 : eR → Option (Int × Bool)) : Option Bool :=
    gM people_0 of_2 l_1 (l_1.length : Int) BIG 0 ([] : List Int)

def lZ (l_0 : eR) : Option (Int × Bool) :=
    (gO l_0.Mille 0 500).bind fun r2 =>
    some (l_0.Person, r2)

def wA : Option Bool :=
    some true

def gN (people_0 : List Int) (ofv_0 : cS → Option (Int × Bool)) (t12_0 : List cS) (t13_0 : Int) : Nat → Int → (List Int) → Option Bool
  | 0, _, _ => none
  | k0 + 1, t14_0, done_0 =>
    bif decide (t14_0 < t13_0) then ((idx t12_0 t14_0).bind fun x2 =>
    (ofv_0 x2).bind fun r4 =>
    (bif !r4.2 then (some true) else ((dJ people_0 r4.1).bind fun r5 =>
    some (!r5))).bind fun b6 =>
    (bif b6 then (some true) else ((dJ done_0 r4.1).bind fun r7 =>
    some r7)).bind fun b8 =>
    bif b8 then (some false)
    else ((app 8 done_0 ([r4.1])).bind fun x9 =>
    (gN people_0 ofv_0 t12_0 t13_0 k0) (w64 (t14_0 + 1)) x9))
    else (wA)

def mN (people_0 : List Int) (l_1 : List cS) (of_2 : cS → Option (Int × Bool)) : Option Bool :=
    gN people_0 of_2 l_1 (l_1.length : Int) BIG 0 ([] : List Int)

def mA (r_0 : cS) : Option (Int × Bool) :=
    (gO r_0.Num 1 10000).bind fun r2 =>
    (bif r2 then ((gO r_0.Den 1 10000).bind fun r3 =>
    some r3) else (some false)).bind fun b4 =>
    some (r_0.Person, b4)

def pS (people_104 : List Int) (p_104 : aN) : Option Bool :=
    (mM people_104 p_104.Levies (fun y24 => lZ y24)).bind fun r25 =>
    (bif r25 then ((mN people_104 p_104.Rates (fun y26 => mA y26)).bind fun r27 =>
    some r27) else (some false)).bind fun b28 =>
    some b28

def lB (people_4 : List Int) (t76_4 : List aF) (t77_4 : Int) (p_4 : aN) (players_4 : List Int) : Nat → Int → Option Bool
  | 0, _ => none
  | k4 + 1, t78_4 =>
    bif decide (t78_4 < t77_4) then ((idx t76_4 t78_4).bind fun x20 =>
    (bif decide (x20.Kind = 5) then ((dJ players_4 x20.Player).bind fun r22 =>
    some (!r22)) else (some false)).bind fun b23 =>
    bif b23 then (some false)
    else ((lB people_4 t76_4 t77_4 p_4 players_4 k4) (w64 (t78_4 + 1))))
    else (pS people_4 p_4)

def pR (people_102 : List Int) (p_102 : aN) (players_102 : List Int) : Option Bool :=
    lB people_102 p_102.Slips (p_102.Slips.length : Int) p_102 players_102 BIG 0

def jK (people_2 : List Int) (t60_2 : List Int) (t61_2 : Int) (p_2 : aN) (players_2 : List Int) : Nat → Int → Option Bool
  | 0, _ => none
  | k2 + 1, t62_2 =>
    bif decide (t62_2 < t61_2) then ((idx t60_2 t62_2).bind fun x17 =>
    (bif !decide (x17 = (-1)) then ((dJ players_2 x17).bind fun r18 =>
    some (!r18)) else (some false)).bind fun b19 =>
    bif b19 then (some false)
    else ((jK people_2 t60_2 t61_2 p_2 players_2 k2) (w64 (t62_2 + 1))))
    else (pR people_2 p_2 players_2)

def pQ (p_100 : aN) (players_100 : List Int) : Option Bool :=
    (slices_Sort_int players_100).bind fun r12 =>
    (pH p_100).bind fun r13 =>
    (pA r12).bind fun r14 =>
    (bif !r14 then (some true) else ((pA r13).bind fun r15 =>
    some (!r15))).bind fun b16 =>
    bif b16 then (some false)
    else (jK r13 p_100.Tree.Slots (p_100.Tree.Slots.length : Int) p_100 r12 BIG 0)

def lA (t18_0 : List bY) (t19_0 : Int) (p_0 : aN) : Nat → Int → (List Int) → Option Bool
  | 0, _, _ => none
  | k0 + 1, t20_0, players_0 =>
    bif decide (t20_0 < t19_0) then ((idx t18_0 t20_0).bind fun x3 =>
    (gO x3.Player 0 999).bind fun r5 =>
    (bif !r5 then (some true) else ((gO x3.One 0 999).bind fun r6 =>
    some (!r6))).bind fun b7 =>
    (bif b7 then (some true) else ((gO x3.Two (-1) 999).bind fun r8 =>
    some (!r8))).bind fun b9 =>
    bif b9 then (some false)
    else ((app 8 players_0 ([x3.Player])).bind fun x10 =>
    (lA t18_0 t19_0 p_0 k0) (w64 (t20_0 + 1)) x10))
    else (pQ p_0 players_0)

def tJ (p_0 : aN) : Option Bool :=
    bif decide (64 < (p_0.Teams.length : Int)) then (some false)
    else (lA p_0.Teams (p_0.Teams.length : Int) p_0 BIG 0 ([] : List Int))

def mO (s_0 : List aH) : Option ((List aH)) :=
    (app 32 ([] : List aH) s_0).bind fun x5 =>
    some x5

def gJ (again0 : Int → (List aH) → Option ((List aH))) (a_101 : Int) (b_101 : Int) (cmp_101 : aH → aH → Option Int) (i_101 : Int) (data_101 : List aH) : Option ((List aH)) :=
    again0 (w64 (i_101 + 1)) data_101

def gK (again0 : Int → (List aH) → Option ((List aH))) (a_102 : Int) (b_102 : Int) (cmp_102 : aH → aH → Option Int) (i_102 : Int) (data_102 : List aH) : Option ((List aH)) :=
    gJ again0 a_102 b_102 cmp_102 i_102 data_102

def cY (again0 : Int → (List aH) → Option ((List aH))) (a_2 : Int) (b_2 : Int) (cmp_2 : aH → aH → Option Int) (i_2 : Int) : Nat → Int → (List aH) → Option ((List aH))
  | 0, _, _ => none
  | k2 + 1, j_2, data_2 =>
    (bif decide (a_2 < j_2) then ((idx data_2 j_2).bind fun x1 =>
    (idx data_2 (w64 (j_2 - 1))).bind fun x2 =>
    (cmp_2 x1 x2).bind fun r3 =>
    some (decide (r3 < 0))) else (some false)).bind fun b4 =>
    bif b4 then ((idx data_2 (w64 (j_2 - 1))).bind fun x5 =>
    (idx data_2 j_2).bind fun x6 =>
    (idx data_2 j_2).bind fun x7 =>
    (idx (data_2.set j_2.toNat x5) (w64 (j_2 - 1))).bind fun x8 =>
    (cY again0 a_2 b_2 cmp_2 i_2 k2) (w64 (j_2 - 1)) ((data_2.set j_2.toNat x5).set (w64 (j_2 - 1)).toNat x6))
    else (gK again0 a_2 b_2 cmp_2 i_2 data_2)

def gI (data_100 : List aH) : Option ((List aH)) :=
    some data_100

def cO (a_0 : Int) (b_0 : Int) (cmp_0 : aH → aH → Option Int) : Nat → Int → (List aH) → Option ((List aH))
  | 0, _, _ => none
  | k0 + 1, i_0, data_0 =>
    bif decide (i_0 < b_0) then (cY (cO a_0 b_0 cmp_0 k0) a_0 b_0 cmp_0 i_0 BIG i_0 data_0)
    else (gI data_0)

def dO (data_0 : List aH) (a_1 : Int) (b_2 : Int) (cmp_3 : aH → aH → Option Int) : Option ((List aH)) :=
    cO a_1 b_2 cmp_3 BIG (w64 (a_1 + 1)) data_0

def kS (data_100 : List aH) : Option ((List aH)) :=
    some data_100

def dY (a_0 : Int) (b_0 : Int) (n_0 : Int) : Nat → Int → (List aH) → Option ((List aH))
  | 0, _, _ => none
  | k0 + 1, i_0, data_0 =>
    bif decide (i_0 < n_0) then ((idx data_0 (w64 (b_0 + i_0))).bind fun x1 =>
    (idx data_0 (w64 (a_0 + i_0))).bind fun x2 =>
    (idx data_0 (w64 (a_0 + i_0))).bind fun x3 =>
    (idx (data_0.set (w64 (a_0 + i_0)).toNat x1) (w64 (b_0 + i_0))).bind fun x4 =>
    (dY a_0 b_0 n_0 k0) (w64 (i_0 + 1)) ((data_0.set (w64 (a_0 + i_0)).toNat x1).set (w64 (b_0 + i_0)).toNat x2))
    else (kS data_0)

def eK (data_0 : List aH) (a_1 : Int) (b_2 : Int) (n_3 : Int) (cmp_4 : aH → aH → Option Int) : Option ((List aH)) :=
    dY a_1 b_2 n_3 BIG 0 data_0

def mB (m_100 : Int) (cmp_100 : aH → aH → Option Int) (i_100 : Int) (data_100 : List aH) : Option ((List aH)) :=
    (eK data_100 (w64 (m_100 - i_100)) m_100 i_100 cmp_100).bind fun r3 =>
    some r3

def dF (m_0 : Int) (cmp_0 : aH → aH → Option Int) : Nat → Int → Int → (List aH) → Option ((List aH))
  | 0, _, _, _ => none
  | k0 + 1, i_0, j_0, data_0 =>
    bif !decide (i_0 = j_0) then (bif decide (j_0 < i_0) then ((eK data_0 (w64 (m_0 - i_0)) m_0 j_0 cmp_0).bind fun r1 =>
    (dF m_0 cmp_0 k0) (w64 (i_0 - j_0)) j_0 r1)
    else ((eK data_0 (w64 (m_0 - i_0)) (w64 ((w64 (m_0 + j_0)) - i_0)) i_0 cmp_0).bind fun r2 =>
    (dF m_0 cmp_0 k0) i_0 (w64 (j_0 - i_0)) r2))
    else (mB m_0 cmp_0 i_0 data_0)

def fW (data_0 : List aH) (a_1 : Int) (m_2 : Int) (b_3 : Int) (cmp_4 : aH → aH → Option Int) : Option ((List aH)) :=
    dF m_2 cmp_4 BIG (w64 (m_2 - a_1)) (w64 (b_3 - m_2)) data_0

def lD (againR : (List aH) → Int → Int → Int → Option ((List aH))) (data_102 : List aH) : Option ((List aH)) :=
    some data_102

def eD (againR : (List aH) → Int → Int → Int → Option ((List aH))) (i_2 : Int) : Nat → Int → (List aH) → Option ((List aH))
  | 0, _, _ => none
  | k2 + 1, k_2, data_2 =>
    bif decide (k_2 < (w64 (i_2 - 1))) then ((idx data_2 (w64 (k_2 + 1))).bind fun x4 =>
    (idx data_2 k_2).bind fun x5 =>
    (idx data_2 k_2).bind fun x6 =>
    (idx (data_2.set k_2.toNat x4) (w64 (k_2 + 1))).bind fun x7 =>
    (eD againR i_2 k2) (w64 (k_2 + 1)) ((data_2.set k_2.toNat x4).set (w64 (k_2 + 1)).toNat x5))
    else (lD againR data_2)

def iO (againR : (List aH) → Int → Int → Int → Option ((List aH))) (a_100 : Int) (i_100 : Int) (data_100 : List aH) : Option ((List aH)) :=
    eD againR i_100 BIG a_100 data_100

def cW (againR : (List aH) → Int → Int → Int → Option ((List aH))) (a_0 : Int) (cmp_0 : aH → aH → Option Int) (data_0 : List aH) : Nat → Int → Int → Option ((List aH))
  | 0, _, _ => none
  | k0 + 1, i_0, j_0 =>
    bif decide (i_0 < j_0) then ((idx data_0 (w64 ((IntKind.u64.wrap (w64 (i_0 + j_0))).fdiv (2 ^ (min (1 : Int).toNat 64))))).bind fun x1 =>
    (idx data_0 a_0).bind fun x2 =>
    (cmp_0 x1 x2).bind fun r3 =>
    bif decide (r3 < 0) then ((cW againR a_0 cmp_0 data_0 k0) (w64 ((w64 ((IntKind.u64.wrap (w64 (i_0 + j_0))).fdiv (2 ^ (min (1 : Int).toNat 64)))) + 1)) j_0)
    else ((cW againR a_0 cmp_0 data_0 k0) i_0 (w64 ((IntKind.u64.wrap (w64 (i_0 + j_0))).fdiv (2 ^ (min (1 : Int).toNat 64))))))
    else (iO againR a_0 i_0 data_0)

def lE (againR : (List aH) → Int → Int → Int → Option ((List aH))) (data_106 : List aH) : Option ((List aH)) :=
    some data_106

def eE (againR : (List aH) → Int → Int → Int → Option ((List aH))) (i_6 : Int) : Nat → Int → (List aH) → Option ((List aH))
  | 0, _, _ => none
  | k6 + 1, k_6, data_6 =>
    bif decide (i_6 < k_6) then ((idx data_6 (w64 (k_6 - 1))).bind fun x11 =>
    (idx data_6 k_6).bind fun x12 =>
    (idx data_6 k_6).bind fun x13 =>
    (idx (data_6.set k_6.toNat x11) (w64 (k_6 - 1))).bind fun x14 =>
    (eE againR i_6 k6) (w64 (k_6 - 1)) ((data_6.set k_6.toNat x11).set (w64 (k_6 - 1)).toNat x12))
    else (lE againR data_6)

def iP (againR : (List aH) → Int → Int → Int → Option ((List aH))) (m_104 : Int) (i_104 : Int) (data_104 : List aH) : Option ((List aH)) :=
    eE againR i_104 BIG m_104 data_104

def cX (againR : (List aH) → Int → Int → Int → Option ((List aH))) (m_4 : Int) (cmp_4 : aH → aH → Option Int) (data_4 : List aH) : Nat → Int → Int → Option ((List aH))
  | 0, _, _ => none
  | k4 + 1, i_4, j_4 =>
    bif decide (i_4 < j_4) then ((idx data_4 m_4).bind fun x8 =>
    (idx data_4 (w64 ((IntKind.u64.wrap (w64 (i_4 + j_4))).fdiv (2 ^ (min (1 : Int).toNat 64))))).bind fun x9 =>
    (cmp_4 x8 x9).bind fun r10 =>
    bif !(decide (r10 < 0)) then ((cX againR m_4 cmp_4 data_4 k4) (w64 ((w64 ((IntKind.u64.wrap (w64 (i_4 + j_4))).fdiv (2 ^ (min (1 : Int).toNat 64)))) + 1)) j_4)
    else ((cX againR m_4 cmp_4 data_4 k4) i_4 (w64 ((IntKind.u64.wrap (w64 (i_4 + j_4))).fdiv (2 ^ (min (1 : Int).toNat 64))))))
    else (iP againR m_4 i_4 data_4)

def dI (againR : (List aH) → Int → Int → Int → Option ((List aH))) (a_108 : Int) (m_108 : Int) (b_108 : Int) (cmp_108 : aH → aH → Option Int) (mid_108 : Int) (n_108 : Int) (start_108 : Int) (data_108 : List aH) : Option ((List aH)) :=
    (bif decide (start_108 < m_108) then (some (decide (m_108 < (w64 (n_108 - start_108))))) else (some false)).bind fun b18 =>
    bif b18 then ((fW data_108 start_108 m_108 (w64 (n_108 - start_108)) cmp_108).bind fun r19 =>
    (bif decide (a_108 < start_108) then (some (decide (start_108 < mid_108))) else (some false)).bind fun b20 =>
    bif b20 then ((againR r19 a_108 start_108 mid_108).bind fun r21 =>
    (bif decide (mid_108 < (w64 (n_108 - start_108))) then (some (decide ((w64 (n_108 - start_108)) < b_108))) else (some false)).bind fun b22 =>
    bif b22 then ((againR r21 mid_108 (w64 (n_108 - start_108)) b_108).bind fun r23 =>
    some r23)
    else (some r21))
    else ((bif decide (mid_108 < (w64 (n_108 - start_108))) then (some (decide ((w64 (n_108 - start_108)) < b_108))) else (some false)).bind fun b24 =>
    bif b24 then ((againR r19 mid_108 (w64 (n_108 - start_108)) b_108).bind fun r25 =>
    some r25)
    else (some r19)))
    else ((bif decide (a_108 < start_108) then (some (decide (start_108 < mid_108))) else (some false)).bind fun b26 =>
    bif b26 then ((againR data_108 a_108 start_108 mid_108).bind fun r27 =>
    (bif decide (mid_108 < (w64 (n_108 - start_108))) then (some (decide ((w64 (n_108 - start_108)) < b_108))) else (some false)).bind fun b28 =>
    bif b28 then ((againR r27 mid_108 (w64 (n_108 - start_108)) b_108).bind fun r29 =>
    some r29)
    else (some r27))
    else ((bif decide (mid_108 < (w64 (n_108 - start_108))) then (some (decide ((w64 (n_108 - start_108)) < b_108))) else (some false)).bind fun b30 =>
    bif b30 then ((againR data_108 mid_108 (w64 (n_108 - start_108)) b_108).bind fun r31 =>
    some r31)
    else (some data_108)))

def cJ (againR : (List aH) → Int → Int → Int → Option ((List aH))) (a_8 : Int) (m_8 : Int) (b_8 : Int) (cmp_8 : aH → aH → Option Int) (mid_8 : Int) (n_8 : Int) (p_8 : Int) (data_8 : List aH) : Nat → Int → Int → Option ((List aH))
  | 0, _, _ => none
  | k8 + 1, start_8, r_8 =>
    bif decide (start_8 < r_8) then ((idx data_8 (w64 (p_8 - (w64 ((IntKind.u64.wrap (w64 (start_8 + r_8))).fdiv (2 ^ (min (1 : Int).toNat 64))))))).bind fun x15 =>
    (idx data_8 (w64 ((IntKind.u64.wrap (w64 (start_8 + r_8))).fdiv (2 ^ (min (1 : Int).toNat 64))))).bind fun x16 =>
    (cmp_8 x15 x16).bind fun r17 =>
    bif !(decide (r17 < 0)) then ((cJ againR a_8 m_8 b_8 cmp_8 mid_8 n_8 p_8 data_8 k8) (w64 ((w64 ((IntKind.u64.wrap (w64 (start_8 + r_8))).fdiv (2 ^ (min (1 : Int).toNat 64)))) + 1)) r_8)
    else ((cJ againR a_8 m_8 b_8 cmp_8 mid_8 n_8 p_8 data_8 k8) start_8 (w64 ((IntKind.u64.wrap (w64 (start_8 + r_8))).fdiv (2 ^ (min (1 : Int).toNat 64))))))
    else (dI againR a_8 m_8 b_8 cmp_8 mid_8 n_8 start_8 data_8)

def bJ (cmp_4 : aH → aH → Option Int) : Nat → (List aH) → Int → Int → Int → Option ((List aH))
  | 0, _, _, _, _ => none
  | kr + 1, data_0, a_1, m_2, b_3 =>
    bif decide ((w64 (m_2 - a_1)) = 1) then (cW (bJ cmp_4 kr) a_1 cmp_4 data_0 BIG m_2 b_3)
    else (bif decide ((w64 (b_3 - m_2)) = 1) then (cX (bJ cmp_4 kr) m_2 cmp_4 data_0 BIG a_1 m_2)
    else (bif decide ((w64 ((IntKind.u64.wrap (w64 (a_1 + b_3))).fdiv (2 ^ (min (1 : Int).toNat 64)))) < m_2) then (cJ (bJ cmp_4 kr) a_1 m_2 b_3 cmp_4 (w64 ((IntKind.u64.wrap (w64 (a_1 + b_3))).fdiv (2 ^ (min (1 : Int).toNat 64)))) (w64 ((w64 ((IntKind.u64.wrap (w64 (a_1 + b_3))).fdiv (2 ^ (min (1 : Int).toNat 64)))) + m_2)) (w64 ((w64 ((w64 ((IntKind.u64.wrap (w64 (a_1 + b_3))).fdiv (2 ^ (min (1 : Int).toNat 64)))) + m_2)) - 1)) data_0 BIG (w64 ((w64 ((w64 ((IntKind.u64.wrap (w64 (a_1 + b_3))).fdiv (2 ^ (min (1 : Int).toNat 64)))) + m_2)) - b_3)) (w64 ((IntKind.u64.wrap (w64 (a_1 + b_3))).fdiv (2 ^ (min (1 : Int).toNat 64)))))
    else (cJ (bJ cmp_4 kr) a_1 m_2 b_3 cmp_4 (w64 ((IntKind.u64.wrap (w64 (a_1 + b_3))).fdiv (2 ^ (min (1 : Int).toNat 64)))) (w64 ((w64 ((IntKind.u64.wrap (w64 (a_1 + b_3))).fdiv (2 ^ (min (1 : Int).toNat 64)))) + m_2)) (w64 ((w64 ((w64 ((IntKind.u64.wrap (w64 (a_1 + b_3))).fdiv (2 ^ (min (1 : Int).toNat 64)))) + m_2)) - 1)) data_0 BIG a_1 m_2)))

def jG (data_0 : List aH) (a_1 : Int) (m_2 : Int) (b_3 : Int) (cmp_4 : aH → aH → Option Int) : Option ((List aH)) := bJ cmp_4 BIG data_0 a_1 m_2 b_3

def gP (again2 : Int → (List aH) → Option ((List aH))) (n_103 : Int) (cmp_103 : aH → aH → Option Int) (blockSize_103 : Int) (data_103 : List aH) : Option ((List aH)) :=
    again2 blockSize_103 data_103

def mE (again2 : Int → (List aH) → Option ((List aH))) (n_104 : Int) (cmp_104 : aH → aH → Option Int) (blockSize_104 : Int) (a_104 : Int) (data_104 : List aH) : Option ((List aH)) :=
    bif decide ((w64 (a_104 + blockSize_104)) < n_104) then ((jG data_104 a_104 (w64 (a_104 + blockSize_104)) n_104 cmp_104).bind fun r4 =>
    gP again2 n_104 cmp_104 (w64 (blockSize_104 * 2)) r4)
    else (gP again2 n_104 cmp_104 (w64 (blockSize_104 * 2)) data_104)

def eJ (again2 : Int → (List aH) → Option ((List aH))) (n_4 : Int) (cmp_4 : aH → aH → Option Int) (blockSize_4 : Int) : Nat → Int → Int → (List aH) → Option ((List aH))
  | 0, _, _, _ => none
  | k4 + 1, a_4, b_4, data_4 =>
    bif decide (b_4 ≤ n_4) then ((jG data_4 a_4 (w64 (a_4 + blockSize_4)) b_4 cmp_4).bind fun r3 =>
    (eJ again2 n_4 cmp_4 blockSize_4 k4) b_4 (w64 (b_4 + (w64 (2 * blockSize_4)))) r3)
    else (mE again2 n_4 cmp_4 blockSize_4 a_4 data_4)

def mD (data_102 : List aH) : Option ((List aH)) :=
    some data_102

def dG (n_2 : Int) (cmp_2 : aH → aH → Option Int) : Nat → Int → (List aH) → Option ((List aH))
  | 0, _, _ => none
  | k2 + 1, blockSize_2, data_2 =>
    bif decide (blockSize_2 < n_2) then (eJ (dG n_2 cmp_2 k2) n_2 cmp_2 blockSize_2 BIG 0 (w64 (2 * blockSize_2)) data_2)
    else (mD data_2)

def mC (n_100 : Int) (cmp_100 : aH → aH → Option Int) (blockSize_100 : Int) (a_100 : Int) (data_100 : List aH) : Option ((List aH)) :=
    (dO data_100 a_100 n_100 cmp_100).bind fun r2 =>
    dG n_100 cmp_100 BIG blockSize_100 r2

def eI (n_0 : Int) (cmp_0 : aH → aH → Option Int) (blockSize_0 : Int) : Nat → Int → Int → (List aH) → Option ((List aH))
  | 0, _, _, _ => none
  | k0 + 1, a_0, b_0, data_0 =>
    bif decide (b_0 ≤ n_0) then ((dO data_0 a_0 b_0 cmp_0).bind fun r1 =>
    (eI n_0 cmp_0 blockSize_0 k0) b_0 (w64 (b_0 + blockSize_0)) r1)
    else (mC n_0 cmp_0 blockSize_0 a_0 data_0)

def jY (data_0 : List aH) (n_1 : Int) (cmp_2 : aH → aH → Option Int) : Option ((List aH)) :=
    eI n_1 cmp_2 20 BIG 0 20 data_0

def iB (x_0 : List aH) (cmp_1 : aH → aH → Option Int) : Option ((List aH)) :=
    (jY x_0 (x_0.length : Int) cmp_1).bind fun r1 =>
    some r1

def tK (a_0 : aH) (b_1 : aH) : Option Int :=
    some (w64 (a_0.Id - b_1.Id))

def pM (again0 : Int → (List aH) → Option ((List aH))) (k_102 : Int) (s_102 : List aH) : Option ((List aH)) :=
    (chk (decide (0 ≤ k_102) && decide (k_102 ≤ (s_102.length : Int)))).bind fun u9 =>
    (chk (decide (k_102.toNat ≤ s_102.length))).bind fun u10 =>
    (chk (decide (0 ≤ k_102))).bind fun u11 =>
    some (s_102.take k_102.toNat)

def eY (again0 : Int → (List aH) → Option ((List aH))) (s2_2 : Int) : Nat → Int → Int → (List aH) → Option ((List aH))
  | 0, _, _, _ => none
  | k2 + 1, k_2, k2_2, s_2 =>
    bif decide (k2_2 < ((s_2.drop s2_2.toNat).length : Int)) then ((idx (s_2.drop s2_2.toNat) k2_2).bind fun x5 =>
    (idx (s_2.drop s2_2.toNat) (w64 (k2_2 - 1))).bind fun x6 =>
    bif !decide (x5 = x6) then ((idx (s_2.drop s2_2.toNat) k2_2).bind fun x7 =>
    (idx s_2 k_2).bind fun x8 =>
    (eY again0 s2_2 k2) (w64 (k_2 + 1)) (w64 (k2_2 + 1)) (s_2.set k_2.toNat x7))
    else ((eY again0 s2_2 k2) k_2 (w64 (k2_2 + 1)) s_2))
    else (pM again0 k_2 s_2)

def pL (again0 : Int → (List aH) → Option ((List aH))) (k_101 : Int) (s_101 : List aH) : Option ((List aH)) :=
    again0 (w64 (k_101 + 1)) s_101

def pK (s_100 : List aH) : Option ((List aH)) :=
    some s_100

def dS : Nat → Int → (List aH) → Option ((List aH))
  | 0, _, _ => none
  | k0 + 1, k_0, s_0 =>
    bif decide (k_0 < (s_0.length : Int)) then ((idx s_0 k_0).bind fun x2 =>
    (idx s_0 (w64 (k_0 - 1))).bind fun x3 =>
    bif decide (x2 = x3) then ((chk (decide (0 ≤ k_0) && decide (k_0 ≤ (s_0.length : Int)))).bind fun u4 =>
    eY (dS k0) k_0 BIG k_0 1 s_0)
    else (pL (dS k0) k_0 s_0))
    else (pK s_0)

def kV (s_0 : List aH) : Option ((List aH)) :=
    bif decide ((s_0.length : Int) < 2) then (some s_0)
    else (dS BIG 1 s_0)

def aBi (o7_100 : List aH) : Option ((List aH) × Bool) :=
    (kV o7_100).bind fun r11 =>
    some (r11, true)

def lT (o7_0 : List aH) : Nat → Int → Option ((List aH) × Bool)
  | 0, _ => none
  | k0 + 1, i_0 =>
    bif decide (i_0 < (o7_0.length : Int)) then ((idx o7_0 i_0).bind fun x6 =>
    (idx o7_0 (w64 (i_0 - 1))).bind fun x7 =>
    (bif decide (x6.Id = x7.Id) then ((idx o7_0 i_0).bind fun x8 =>
    (idx o7_0 (w64 (i_0 - 1))).bind fun x9 =>
    some (!decide (x8 = x9))) else (some false)).bind fun b10 =>
    bif b10 then (some (([] : List aH), false))
    else ((lT o7_0 k0) (w64 (i_0 + 1))))
    else (aBi o7_0)

def qD (all_0 : List aH) : Option ((List aH) × Bool) :=
    (mO all_0).bind fun r1 =>
    (iB r1 (fun y3 y4 => tK y3 y4)).bind fun r5 =>
    lT r5 BIG 1

def sZ (p_100 : aN) : Option Bool :=
    (qD p_100.Items).bind fun r19 =>
    (bif r19.2 then (some (decide ((p_100.Items.length : Int) ≤ 40))) else (some false)).bind fun b20 =>
    some b20

def jJ (people_0 : List Int) (t12_0 : List aH) (t13_0 : Int) (p_0 : aN) : Nat → Int → Option Bool
  | 0, _ => none
  | k0 + 1, t14_0 =>
    bif decide (t14_0 < t13_0) then ((idx t12_0 t14_0).bind fun x3 =>
    bif decide (x3.Kind = 2) then ((bif !decide (x3.Kind = 1) then (some (!decide (x3.Kind = 2))) else (some false)).bind fun b5 =>
    (bif b5 then (some true) else ((gO x3.Id 0 99).bind fun r6 =>
    some (!r6))).bind fun b7 =>
    (bif b7 then (some true) else ((dJ people_0 x3.Person).bind fun r8 =>
    some (!r8))).bind fun b9 =>
    (bif b9 then (some true) else ((gO x3.Amount 0 30).bind fun r10 =>
    some (!r10))).bind fun b11 =>
    bif b11 then (some false)
    else ((jJ people_0 t12_0 t13_0 p_0 k0) (w64 (t14_0 + 1))))
    else ((bif !decide (x3.Kind = 1) then (some (!decide (x3.Kind = 2))) else (some false)).bind fun b12 =>
    (bif b12 then (some true) else ((gO x3.Id 0 99).bind fun r13 =>
    some (!r13))).bind fun b14 =>
    (bif b14 then (some true) else ((dJ people_0 x3.Person).bind fun r15 =>
    some (!r15))).bind fun b16 =>
    (bif b16 then (some true) else ((gO x3.Amount 0 10000000).bind fun r17 =>
    some (!r17))).bind fun b18 =>
    bif b18 then (some false)
    else ((jJ people_0 t12_0 t13_0 p_0 k0) (w64 (t14_0 + 1)))))
    else (sZ p_0)

def tI (p_0 : aN) : Option Bool :=
    (pH p_0).bind fun r2 =>
    jJ r2 p_0.Items (p_0.Items.length : Int) p_0 BIG 0

def vG (a0 : aV) (a1 : List aF) : Option Int := fQ a0 a1

def qJ (p_0 : aN) : Option Int :=
    (vG p_0.Tree p_0.Slips).bind fun r2 =>
    bif !decide (r2 = 0) then (some r2)
    else ((uS p_0).bind fun r3 =>
    bif !r3 then (some 100)
    else ((tJ p_0).bind fun r4 =>
    bif !r4 then (some 101)
    else ((tI p_0).bind fun r5 =>
    bif !r5 then (some 102)
    else (some 0))))

def aGw (n_102 : Int) : Option (Int × Int) :=
    some (n_102, 0)

def nE (t44_2 : List Int) (t45_2 : Int) (p_2 : aN) : Nat → Int → Int → Option (Int × Int)
  | 0, _, _ => none
  | k2 + 1, n_2, t46_2 =>
    bif decide (t46_2 < t45_2) then ((idx t44_2 t46_2).bind fun x6 =>
    bif decide (x6 = (-1)) then ((idx p_2.Prizes 0).bind fun x7 =>
    (nE t44_2 t45_2 p_2 k2) (w64 (n_2 - x7)) (w64 (t46_2 + 1)))
    else ((nE t44_2 t45_2 p_2 k2) n_2 (w64 (t46_2 + 1))))
    else (aGw n_2)

def xG (n_100 : Int) (p_100 : aN) : Option (Int × Int) :=
    nE p_100.Tree.Slots (p_100.Tree.Slots.length : Int) p_100 BIG n_100 0

def nD (t23_0 : Int) (p_0 : aN) : Nat → Int → Int → Option (Int × Int)
  | 0, _, _ => none
  | k0 + 1, n_0, t24_0 =>
    bif decide (t24_0 < t23_0) then ((idx p_0.Prizes t24_0).bind fun x4 =>
    (chk (decide (0 ≤ (w64 ((w64 (p_0.Tree.Rounds - 1)) - t24_0))))).bind fun u5 =>
    (nD t23_0 p_0 k0) (w64 (n_0 + (w64 (x4 * 2 ^ (min (w64 ((w64 (p_0.Tree.Rounds - 1)) - t24_0)).toNat 64))))) (w64 (t24_0 + 1)))
    else (xG n_0 p_0)

def yW (p_0 : aN) : Option (Int × Int) :=
    (qJ p_0).bind fun r2 =>
    bif !decide (r2 = 0) then (some (0, r2))
    else ((idx p_0.Prizes p_0.Tree.Rounds).bind fun x3 =>
    nD p_0.Tree.Rounds p_0 BIG x3 0)

def tP : Option Int :=
    some (-1)

def fG (s_0 : List bY) (f_0 : bY → Option Bool) (t7_0 : Int) : Nat → Int → Option Int
  | 0, _ => none
  | k0 + 1, t8_0 =>
    bif decide (t8_0 < t7_0) then ((idx s_0 t8_0).bind fun x1 =>
    (f_0 x1).bind fun r2 =>
    bif r2 then (some t8_0)
    else ((fG s_0 f_0 t7_0 k0) (w64 (t8_0 + 1))))
    else (tP)

def mQ (s_0 : List bY) (f_1 : bY → Option Bool) : Option Int :=
    fG s_0 f_1 (s_0.length : Int) BIG 0

def uR (t_0 : bY) (c_1 : Int) : Option Bool :=
    (bif decide (t_0.One = c_1) then (some true) else ((bif decide (t_0.Two = c_1) then (some (!decide (t_0.Two = (-1)))) else (some false)).bind fun b2 =>
    some b2)).bind fun b3 =>
    some b3

def zN (againQ : ((Option bE) × (List Int) × Int) → Prop) (d_100 : Option bE) (slots_100 : List Int) : Prop :=
    againQ (d_100, slots_100, 0)

def nS (againQ : ((Option bE) × (List Int) × Int) → Prop) (t20_0 : List Int) (t21_0 : Int) : Nat → (Option bE) → Int → (List Int) → Prop
  | 0, _, _, _ => False
  | k0 + 1, d_0, t22_0, slots_0 =>
    bif decide (t22_0 < t21_0) then (nb (idx t20_0 t22_0) fun x5 =>
    nb (gG x5 0 999) fun r6 =>
    bif !r6 then (againQ ((none : Option bE), ([] : List Int), 1))
    else (nb (d_0) fun x8 =>
    nb (iE x8.players x5) fun r9 =>
    nb (app 8 slots_0 ([r9])) fun x10 =>
    (nS againQ t20_0 t21_0 k0) d_0 (w64 (t22_0 + 1)) x10))
    else (zN againQ d_0 slots_0)

def sF (t_0 : aV) (l_1 : List aF) (players_2 : List Int) (Q : ((Option bE) × (List Int) × Int) → Prop) : Prop :=
    oK t_0 l_1 fun r3 =>
    bif !decide (r3.2 = 0) then (Q ((none : Option bE), ([] : List Int), r3.2))
    else (nS Q players_2 (players_2.length : Int) BIG r3.1 0 ([] : List Int))

def uZ (d_100 : bE) : Option Int :=
    some d_100.Tree.Rounds

def jM (d_0 : bE) (slot_0 : Int) (t12_0 : Int) : Nat → Int → Option Int
  | 0, _ => none
  | k0 + 1, t13_0 =>
    bif decide (t13_0 < t12_0) then ((pY t13_0 slot_0).bind fun r1 =>
    (bif !(eB r1 d_0.won) then (some true) else ((idx d_0.players slot_0).bind fun x2 =>
    some (!decide ((dB r1 0 d_0.won) = x2)))).bind fun b3 =>
    bif b3 then (some t13_0)
    else ((jM d_0 slot_0 t12_0 k0) (w64 (t13_0 + 1))))
    else (uZ d_0)

def qP (d_0 : bE) (slot_1 : Int) : Option Int :=
    jM d_0 slot_1 d_0.Tree.Rounds BIG 0

def uY (d_100 : bE) : Option Int :=
    some d_100.Tree.Rounds

def jL (d_0 : bE) (slot_0 : Int) (t12_0 : Int) : Nat → Int → Option Int
  | 0, _ => none
  | k0 + 1, t13_0 =>
    bif decide (t13_0 < t12_0) then ((pY t13_0 slot_0).bind fun r1 =>
    (bif eB r1 d_0.won then ((idx d_0.players slot_0).bind fun x2 =>
    some (!decide ((dB r1 0 d_0.won) = x2))) else (some false)).bind fun b3 =>
    bif b3 then (some t13_0)
    else ((jL d_0 slot_0 t12_0 k0) (w64 (t13_0 + 1))))
    else (uY d_0)

def qO (d_0 : bE) (slot_1 : Int) : Option Int :=
    jL d_0 slot_1 d_0.Tree.Rounds BIG 0

def rL (t_0 : aV) (l_1 : List aF) (player_2 : Int) (Q : (bZ × Int) → Prop) : Prop :=
    sF t_0 l_1 ([player_2]) fun r3 =>
    bif !decide (r3.2.2 = 0) then (Q ((bZ.mk 0 0), r3.2.2))
    else (nb (idx r3.2.1 0) fun x4 =>
    bif decide (x4 < 0) then (Q ((bZ.mk 0 0), 3))
    else (nb (r3.1) fun x5 =>
    nb (idx r3.2.1 0) fun x6 =>
    nb (qP x5 x6) fun r7 =>
    nb (idx r3.2.1 0) fun x8 =>
    nb (qO x5 x8) fun r9 =>
    Q ((bZ.mk r7 r9), 0)))

def rJ (prize_0 : Int) (c_1 : bY) (c_2 : Int) : Option Int :=
    bif decide (c_1.Two = (-1)) then (some prize_0)
    else (bif decide (c_1.One = c_2) then (some (w64 ((w64 (prize_0 + 1)).tdiv 2)))
    else (some (w64 (prize_0.tdiv 2))))

def vQ : Option Int :=
    some (-1)

def kF (player_0 : Int) (d_0 : aU) : Nat → Int → Option Int
  | 0, _ => none
  | k0 + 1, s_0 =>
    bif decide (s_0 < (d_0.Slots.length : Int)) then ((idx d_0.Slots s_0).bind fun x2 =>
    bif decide (x2 = player_0) then (some s_0)
    else ((kF player_0 d_0 k0) (w64 (s_0 + 1))))
    else (vQ)

def rV (d_0 : aU) (player_1 : Int) : Option Int :=
    kF player_1 d_0 BIG 0

def rF (n_100 : Int) : Option Int :=
    some n_100

def jO (slot_0 : Int) (t_0 : aV) (d_0 : aU) : Nat → Int → Option Int
  | 0, _ => none
  | k0 + 1, n_0 =>
    (bif decide (n_0 < t_0.Rounds) then ((idx d_0.Must n_0).bind fun x3 =>
    (chk (decide (0 ≤ (IntKind.u64.wrap (w64 (n_0 + 1)))))).bind fun u4 =>
    (idx x3 (slot_0.fdiv (2 ^ (min (IntKind.u64.wrap (w64 (n_0 + 1))).toNat 64)))).bind fun x5 =>
    (idx d_0.Slots slot_0).bind fun x6 =>
    some (decide (x5 = x6))) else (some false)).bind fun b7 =>
    bif b7 then ((jO slot_0 t_0 d_0 k0) (w64 (n_0 + 1)))
    else (rF n_0)

def qT (t_0 : aV) (d_1 : aU) (slot_2 : Int) : Option Int :=
    jO slot_2 t_0 d_1 BIG 0

def rU (n_100 : Int) : Option Int :=
    some n_100

def kE (slot_0 : Int) (t_0 : aV) (d_0 : aU) : Nat → Int → Option Int
  | 0, _ => none
  | k0 + 1, n_0 =>
    (bif decide (n_0 < t_0.Rounds) then ((idx d_0.Must n_0).bind fun x3 =>
    (chk (decide (0 ≤ (IntKind.u64.wrap (w64 (n_0 + 1)))))).bind fun u4 =>
    (idx x3 (slot_0.fdiv (2 ^ (min (IntKind.u64.wrap (w64 (n_0 + 1))).toNat 64)))).bind fun x5 =>
    (bif decide (x5 = (-2)) then (some true) else ((idx d_0.Must n_0).bind fun x6 =>
    (chk (decide (0 ≤ (IntKind.u64.wrap (w64 (n_0 + 1)))))).bind fun u7 =>
    (idx x6 (slot_0.fdiv (2 ^ (min (IntKind.u64.wrap (w64 (n_0 + 1))).toNat 64)))).bind fun x8 =>
    (idx d_0.Slots slot_0).bind fun x9 =>
    some (decide (x8 = x9)))).bind fun b10 =>
    some b10) else (some false)).bind fun b11 =>
    bif b11 then ((kE slot_0 t_0 d_0 k0) (w64 (n_0 + 1)))
    else (rU n_0)

def rT (t_0 : aV) (d_1 : aU) (slot_2 : Int) : Option Int :=
    kE slot_2 t_0 d_1 BIG 0

def fZ (t_0 : aV) (l_1 : List aF) (player_2 : Int) : Option (bZ × Int) :=
    (fQ t_0 l_1).bind fun r3 =>
    bif !decide (r3 = 0) then (some ((bZ.mk 0 0), r3))
    else ((eS player_2 0 999).bind fun r4 =>
    bif !r4 then (some ((bZ.mk 0 0), 1))
    else ((fN t_0 l_1).bind fun r5 =>
    (rV r5.1 player_2).bind fun r7 =>
    bif decide (r7 < 0) then (some ((bZ.mk 0 0), 3))
    else ((qT t_0 r5.1 r7).bind fun r8 =>
    (rT t_0 r5.1 r7).bind fun r9 =>
    some ((bZ.mk r8 r9), 0))))

def sY (a0 : aV) (a1 : List aF) (a2 : Int) : Option (bZ × Int) := fZ a0 a1 a2

def uV (p_0 : aN) (person_1 : Int) : Option (bZ × Bool) :=
    (mQ p_0.Teams (fun y4 => uR y4 person_1)).bind fun r5 =>
    bif decide (r5 < 0) then (some ((bZ.mk 0 0), false))
    else ((idx p_0.Teams r5).bind fun x6 =>
    (sY p_0.Tree p_0.Slips x6.Player).bind fun r8 =>
    bif !decide (r8.2 = 0) then (some ((bZ.mk 0 0), true))
    else ((idx p_0.Prizes r8.1.Low).bind fun x10 =>
    (rJ x10 x6 person_1).bind fun r11 =>
    (idx p_0.Prizes r8.1.High).bind fun x12 =>
    (rJ x12 x6 person_1).bind fun r13 =>
    some ((bZ.mk r11 r13), true)))

def sX (p_0 : aN) (person_1 : Int) : Option (bZ × Int) :=
    (qJ p_0).bind fun r3 =>
    bif !decide (r3 = 0) then (some ((bZ.mk 0 0), r3))
    else ((uV p_0 person_1).bind fun r4 =>
    bif !r4.2 then (some ((bZ.mk 0 0), 1))
    else (some (r4.1, 0)))

def xI (paid_105 : Int) (num_105 : Int) (den_105 : Int) (o4_105 : aQ) (b_105 : aQ) : Option aQ :=
    (chk (!decide (den_105 = 0))).bind fun u13 =>
    (chk (!decide (num_105 = 0))).bind fun u14 =>
    some (aQ.mk b_105.Person b_105.Gross b_105.Tax b_105.Daily b_105.Fines b_105.Debt (w64 ((w64 (paid_105 * num_105)).tdiv den_105)) (w64 ((w64 ((w64 ((w64 ((w64 ((w64 (paid_105 * num_105)).tdiv den_105)) * den_105)) + num_105)) - 1)).tdiv num_105)) (w64 (paid_105 - (w64 ((w64 ((w64 ((w64 ((w64 ((w64 (paid_105 * num_105)).tdiv den_105)) * den_105)) + num_105)) - 1)).tdiv num_105)))))

def nF (person_5 : Int) (paid_5 : Int) (t104_5 : List cS) (t105_5 : Int) (o4_5 : aQ) (b_5 : aQ) : Nat → Int → Int → Int → Option aQ
  | 0, _, _, _ => none
  | k5 + 1, num_5, den_5, t106_5 =>
    bif decide (t106_5 < t105_5) then ((idx t104_5 t106_5).bind fun x11 =>
    bif decide (x11.Person = person_5) then ((nF person_5 paid_5 t104_5 t105_5 o4_5 b_5 k5) x11.Num x11.Den (w64 (t106_5 + 1)))
    else ((nF person_5 paid_5 t104_5 t105_5 o4_5 b_5 k5) num_5 den_5 (w64 (t106_5 + 1))))
    else (xI paid_5 num_5 den_5 o4_5 b_5)

def uQ (person_102 : Int) (p_102 : aN) (o4_102 : aQ) (b_102 : aQ) : Option aQ :=
    nF person_102 (max 0 (w64 ((w64 ((w64 (b_102.Gross + b_102.Daily)) - b_102.Tax)) - b_102.Fines))) p_102.Rates (p_102.Rates.length : Int) o4_102 (aQ.mk b_102.Person b_102.Gross b_102.Tax b_102.Daily b_102.Fines (max 0 (w64 (-(w64 ((w64 ((w64 (b_102.Gross + b_102.Daily)) - b_102.Tax)) - b_102.Fines))))) b_102.Units b_102.Used b_102.Rest) BIG 1 1 0

def lS (person_2 : Int) (t55_2 : List aH) (t56_2 : Int) (p_2 : aN) (o4_2 : aQ) : Nat → Int → aQ → Option aQ
  | 0, _, _ => none
  | k2 + 1, t57_2, b_2 =>
    bif decide (t57_2 < t56_2) then ((idx t55_2 t57_2).bind fun x9 =>
    bif !decide (x9.Person = person_2) then ((lS person_2 t55_2 t56_2 p_2 o4_2 k2) (w64 (t57_2 + 1)) b_2)
    else (bif decide (x9.Kind = 2) then ((lS person_2 t55_2 t56_2 p_2 o4_2 k2) (w64 (t57_2 + 1)) (aQ.mk b_2.Person b_2.Gross b_2.Tax (w64 (b_2.Daily + (w64 (x9.Amount * p_2.Daily)))) b_2.Fines b_2.Debt b_2.Units b_2.Used b_2.Rest))
    else ((lS person_2 t55_2 t56_2 p_2 o4_2 k2) (w64 (t57_2 + 1)) (aQ.mk b_2.Person b_2.Gross b_2.Tax b_2.Daily (w64 (b_2.Fines + x9.Amount)) b_2.Debt b_2.Units b_2.Used b_2.Rest))))
    else (uQ person_2 p_2 o4_2 b_2)

def xH (person_100 : Int) (p_100 : aN) (o4_100 : aQ) (b_100 : aQ) : Option aQ :=
    (qD p_100.Items).bind fun r8 =>
    lS person_100 r8.1 (r8.1.length : Int) p_100 o4_100 BIG 0 b_100

def lR (person_0 : Int) (t31_0 : List eR) (t32_0 : Int) (p_0 : aN) (o4_0 : aQ) : Nat → Int → aQ → Option aQ
  | 0, _, _ => none
  | k0 + 1, t33_0, b_0 =>
    bif decide (t33_0 < t32_0) then ((idx t31_0 t33_0).bind fun x6 =>
    bif decide (x6.Person = person_0) then ((lR person_0 t31_0 t32_0 p_0 o4_0 k0) (w64 (t33_0 + 1)) (aQ.mk b_0.Person b_0.Gross (w64 ((w64 (b_0.Gross * x6.Mille)).tdiv 1000)) b_0.Daily b_0.Fines b_0.Debt b_0.Units b_0.Used b_0.Rest))
    else ((lR person_0 t31_0 t32_0 p_0 o4_0 k0) (w64 (t33_0 + 1)) b_0))
    else (xH person_0 p_0 o4_0 b_0)

def wO (p_0 : aN) (person_1 : Int) : Option aQ :=
    (uV p_0 person_1).bind fun r3 =>
    lR person_1 p_0.Levies (p_0.Levies.length : Int) p_0 (aQ.mk 0 0 0 0 0 0 0 0 0) BIG 0 (aQ.mk person_1 r3.1.Low 0 0 0 0 0 0 0)

def qC (p_0 : aN) (person_1 : Int) : Option (aQ × Int) :=
    (sX p_0 person_1).bind fun r3 =>
    bif !decide (r3.2 = 0) then (some ((aQ.mk 0 0 0 0 0 0 0 0 0), r3.2))
    else ((wO p_0 person_1).bind fun r5 =>
    some (r5, 0))

def aEx (out_100 : List aQ) : Option ((List aQ) × Int) :=
    some (out_100, 0)

def nY (t14_0 : List Int) (t15_0 : Int) (p_0 : aN) : Nat → Int → (List aQ) → Option ((List aQ) × Int)
  | 0, _, _ => none
  | k0 + 1, t16_0, out_0 =>
    bif decide (t16_0 < t15_0) then ((idx t14_0 t16_0).bind fun x5 =>
    (wO p_0 x5).bind fun r6 =>
    (app 72 out_0 ([r6])).bind fun x7 =>
    (nY t14_0 t15_0 p_0 k0) (w64 (t16_0 + 1)) x7)
    else (aEx out_0)

def oG (p_0 : aN) : Option ((List aQ) × Int) :=
    (qJ p_0).bind fun r2 =>
    bif !decide (r2 = 0) then (some (([] : List aQ), r2))
    else ((pH p_0).bind fun r4 =>
    nY r4 (r4.length : Int) p_0 BIG 0 ([] : List aQ))

def aEy (o2_100 : aQ) (sum_100 : aQ) : Option (aQ × Int) :=
    some (sum_100, 0)

def nZ (t19_0 : List aQ) (t20_0 : Int) (o2_0 : aQ) : Nat → Int → aQ → Option (aQ × Int)
  | 0, _, _ => none
  | k0 + 1, t21_0, sum_0 =>
    bif decide (t21_0 < t20_0) then ((idx t19_0 t21_0).bind fun x5 =>
    (nZ t19_0 t20_0 o2_0 k0) (w64 (t21_0 + 1)) (aQ.mk sum_0.Person (w64 (sum_0.Gross + x5.Gross)) (w64 (sum_0.Tax + x5.Tax)) (w64 (sum_0.Daily + x5.Daily)) (w64 (sum_0.Fines + x5.Fines)) (w64 (sum_0.Debt + x5.Debt)) (w64 (sum_0.Units + x5.Units)) (w64 (sum_0.Used + x5.Used)) (w64 (sum_0.Rest + x5.Rest))))
    else (aEy o2_0 sum_0)

def oH (p_0 : aN) : Option (aQ × Int) :=
    (oG p_0).bind fun r3 =>
    bif !decide (r3.2 = 0) then (some ((aQ.mk 0 0 0 0 0 0 0 0 0), r3.2))
    else (nZ r3.1 (r3.1.length : Int) (aQ.mk 0 0 0 0 0 0 0 0 0) BIG 0 (aQ.mk (-1) 0 0 0 0 0 0 0 0))

def nU : Option Bool :=
    (oL).bind fun r1 =>
    (yW r1).bind fun r3 =>
    (qC r1 22).bind fun r4 =>
    (oH r1).bind fun r6 =>
    (bif decide (r3.2 = 0) then (some (decide (r4.2 = 0))) else (some false)).bind fun b8 =>
    (bif b8 then (some (decide (r6.2 = 0))) else (some false)).bind fun b9 =>
    (bif b9 then (some (decide (r3.1 = 1501))) else (some false)).bind fun b10 =>
    (bif b10 then (some (decide (r4.1 = (aQ.mk 22 50 0 0 0 0 16 48 2)))) else (some false)).bind fun b11 =>
    (bif b11 then (some (decide (r6.1.Debt = 60))) else (some false)).bind fun b12 =>
    some b12

def nV (t_0 : bY) (second_1 : Bool) (prize_2 : Int) : Option Int :=
    bif decide (t_0.Two = (-1)) then (some prize_2)
    else (bif second_1 then (some (w64 (prize_2.tdiv 2)))
    else (some (w64 ((w64 (prize_2 + 1)).tdiv 2))))

def rX (p_0 : aN) : Option aN :=
    (app 8 ([] : List Int) p_0.Tree.Slots).bind fun x4 =>
    (app 40 ([] : List aF) p_0.Slips).bind fun x5 =>
    (app 8 ([] : List Int) p_0.Prizes).bind fun x6 =>
    (app 24 ([] : List bY) p_0.Teams).bind fun x7 =>
    (app 16 ([] : List eR) p_0.Levies).bind fun x8 =>
    (app 24 ([] : List cS) p_0.Rates).bind fun x9 =>
    (app 32 ([] : List aH) p_0.Items).bind fun x10 =>
    some (aN.mk (aV.mk p_0.Tree.Rounds x4) x5 x6 p_0.Daily x7 x8 x9 x10)

def qU (p_0 : aN) (person_1 : Int) : Option bZ :=
    (oW p_0 person_1).bind fun r3 =>
    (fZ p_0.Tree p_0.Slips r3.1.Player).bind fun r5 =>
    bif !decide (r5.2 = 0) then (some (bZ.mk 0 0))
    else ((idx p_0.Prizes r5.1.Low).bind fun x7 =>
    (nV r3.1 r3.2.1 x7).bind fun r8 =>
    (idx p_0.Prizes r5.1.High).bind fun x9 =>
    (nV r3.1 r3.2.1 x9).bind fun r10 =>
    some (bZ.mk r8 r10))

def nM (again0 : Int → (List aH) → Option ((List aH))) (l_101 : List aH) (id_101 : Int) (out_101 : List aH) : Option ((List aH)) :=
    again0 (w64 (id_101 + 1)) out_101

def lJ (again0 : Int → (List aH) → Option ((List aH))) (l_102 : List aH) (id_102 : Int) (out_102 : List aH) : Option ((List aH)) :=
    nM again0 l_102 id_102 out_102

def iN (again0 : Int → (List aH) → Option ((List aH))) (l_2 : List aH) (id_2 : Int) : Nat → Int → (List aH) → Option ((List aH))
  | 0, _, _ => none
  | k2 + 1, i_2, out_2 =>
    bif decide (i_2 < (l_2.length : Int)) then ((idx l_2 i_2).bind fun x2 =>
    bif decide (x2.Id = id_2) then ((idx l_2 i_2).bind fun x3 =>
    (app 32 out_2 ([x3])).bind fun x4 =>
    lJ again0 l_2 id_2 x4)
    else ((iN again0 l_2 id_2 k2) (w64 (i_2 + 1)) out_2))
    else (lJ again0 l_2 id_2 out_2)

def zL (out_100 : List aH) : Option ((List aH)) :=
    some out_100

def iM (l_0 : List aH) : Nat → Int → (List aH) → Option ((List aH))
  | 0, _, _ => none
  | k0 + 1, id_0, out_0 =>
    bif decide (id_0 ≤ 99) then (iN (iM l_0 k0) l_0 id_0 BIG 0 out_0)
    else (zL out_0)

def qV (l_0 : List aH) : Option ((List aH)) :=
    iM l_0 BIG 0 ([] : List aH)

def aAt (person_100 : Int) (o4_100 : cS) : Option cS :=
    some (cS.mk person_100 1 1)

def kK (person_0 : Int) (p_0 : aN) : Nat → Int → cS → Option cS
  | 0, _, _ => none
  | k0 + 1, i_0, o4_0 =>
    bif decide (i_0 < (p_0.Rates.length : Int)) then ((idx p_0.Rates i_0).bind fun x3 =>
    bif decide (x3.Person = person_0) then ((idx p_0.Rates i_0).bind fun x4 =>
    some x4)
    else ((kK person_0 p_0 k0) (w64 (i_0 + 1)) o4_0))
    else (aAt person_0 o4_0)

def rZ (p_0 : aN) (person_1 : Int) : Option cS :=
    kK person_1 p_0 BIG 0 (cS.mk 0 0 0)

def oP (person_102 : Int) (p_102 : aN) (o4_102 : aQ) (b_102 : aQ) : Option aQ :=
    (rZ p_102 person_102).bind fun r12 =>
    (chk (!decide (r12.Den = 0))).bind fun u14 =>
    (chk (!decide (r12.Num = 0))).bind fun u15 =>
    some (aQ.mk b_102.Person b_102.Gross b_102.Tax b_102.Daily b_102.Fines (max 0 (w64 (-(w64 ((w64 ((w64 (b_102.Gross + b_102.Daily)) - b_102.Tax)) - b_102.Fines))))) (w64 ((w64 ((max 0 (w64 ((w64 ((w64 (b_102.Gross + b_102.Daily)) - b_102.Tax)) - b_102.Fines))) * r12.Num)).tdiv r12.Den)) (w64 ((w64 ((w64 ((w64 ((w64 ((w64 ((max 0 (w64 ((w64 ((w64 (b_102.Gross + b_102.Daily)) - b_102.Tax)) - b_102.Fines))) * r12.Num)).tdiv r12.Den)) * r12.Den)) + r12.Num)) - 1)).tdiv r12.Num)) (w64 ((max 0 (w64 ((w64 ((w64 (b_102.Gross + b_102.Daily)) - b_102.Tax)) - b_102.Fines))) - (w64 ((w64 ((w64 ((w64 ((w64 ((w64 ((max 0 (w64 ((w64 ((w64 (b_102.Gross + b_102.Daily)) - b_102.Tax)) - b_102.Fines))) * r12.Num)).tdiv r12.Den)) * r12.Den)) + r12.Num)) - 1)).tdiv r12.Num)))))

def gF (person_2 : Int) (allv_2 : List aH) (p_2 : aN) (o4_2 : aQ) : Nat → Int → aQ → Option aQ
  | 0, _, _ => none
  | k2 + 1, i_2, b_2 =>
    bif decide (i_2 < (allv_2.length : Int)) then ((idx allv_2 i_2).bind fun x8 =>
    bif !decide (x8.Person = person_2) then ((gF person_2 allv_2 p_2 o4_2 k2) (w64 (i_2 + 1)) b_2)
    else ((idx allv_2 i_2).bind fun x9 =>
    bif decide (x9.Kind = 1) then ((idx allv_2 i_2).bind fun x10 =>
    (gF person_2 allv_2 p_2 o4_2 k2) (w64 (i_2 + 1)) (aQ.mk b_2.Person b_2.Gross b_2.Tax b_2.Daily (w64 (b_2.Fines + x10.Amount)) b_2.Debt b_2.Units b_2.Used b_2.Rest))
    else ((idx allv_2 i_2).bind fun x11 =>
    (gF person_2 allv_2 p_2 o4_2 k2) (w64 (i_2 + 1)) (aQ.mk b_2.Person b_2.Gross b_2.Tax (w64 (b_2.Daily + (w64 (x11.Amount * p_2.Daily)))) b_2.Fines b_2.Debt b_2.Units b_2.Used b_2.Rest))))
    else (oP person_2 p_2 o4_2 b_2)

def rY (person_100 : Int) (p_100 : aN) (o4_100 : aQ) (b_100 : aQ) : Option aQ :=
    (qV p_100.Items).bind fun r7 =>
    gF person_100 r7 p_100 o4_100 BIG 0 b_100

def iA (person_0 : Int) (p_0 : aN) (o4_0 : aQ) : Nat → Int → aQ → Option aQ
  | 0, _, _ => none
  | k0 + 1, i_0, b_0 =>
    bif decide (i_0 < (p_0.Levies.length : Int)) then ((idx p_0.Levies i_0).bind fun x5 =>
    bif decide (x5.Person = person_0) then ((idx p_0.Levies i_0).bind fun x6 =>
    (iA person_0 p_0 o4_0 k0) (w64 (i_0 + 1)) (aQ.mk b_0.Person b_0.Gross (w64 ((w64 (b_0.Gross * x6.Mille)).tdiv 1000)) b_0.Daily b_0.Fines b_0.Debt b_0.Units b_0.Used b_0.Rest))
    else ((iA person_0 p_0 o4_0 k0) (w64 (i_0 + 1)) b_0))
    else (rY person_0 p_0 o4_0 b_0)

def oX (p_0 : aN) (person_1 : Int) : Option aQ :=
    (qU p_0 person_1).bind fun r3 =>
    iA person_1 p_0 (aQ.mk 0 0 0 0 0 0 0 0 0) BIG 0 (aQ.mk person_1 r3.Low 0 0 0 0 0 0 0)

def lF (p_0 : aN) (person_1 : Int) : Option (aQ × Int) :=
    (kH p_0).bind fun r3 =>
    bif !decide (r3 = 0) then (some ((aQ.mk 0 0 0 0 0 0 0 0 0), r3))
    else ((gR p_0 person_1).bind fun r4 =>
    bif !r4 then (some ((aQ.mk 0 0 0 0 0 0 0 0 0), 1))
    else ((oX p_0 person_1).bind fun r5 =>
    some (r5, 0)))

def zK (out_100 : List aQ) : Option ((List aQ)) :=
    some out_100

def iL (p_0 : aN) : Nat → Int → (List aQ) → Option ((List aQ))
  | 0, _, _ => none
  | k0 + 1, person_0, out_0 =>
    bif decide (person_0 ≤ 999) then ((gR p_0 person_0).bind fun r3 =>
    bif r3 then ((oX p_0 person_0).bind fun r4 =>
    (app 72 out_0 ([r4])).bind fun x5 =>
    (iL p_0 k0) (w64 (person_0 + 1)) x5)
    else ((iL p_0 k0) (w64 (person_0 + 1)) out_0))
    else (zK out_0)

def nW (p_0 : aN) : Option ((List aQ)) :=
    iL p_0 BIG 0 ([] : List aQ)

def kG (p_0 : aN) : Option ((List aQ) × Int) :=
    (kH p_0).bind fun r2 =>
    bif !decide (r2 = 0) then (some (([] : List aQ), r2))
    else ((nW p_0).bind fun r3 =>
    some (r3, 0))

def zJ (o2_100 : aQ) (t_100 : aQ) : Option (aQ × Int) :=
    some (t_100, 0)

def jP (allv_0 : List aQ) (o2_0 : aQ) : Nat → Int → aQ → Option (aQ × Int)
  | 0, _, _ => none
  | k0 + 1, i_0, t_0 =>
    bif decide (i_0 < (allv_0.length : Int)) then ((idx allv_0 i_0).bind fun x6 =>
    (jP allv_0 o2_0 k0) (w64 (i_0 + 1)) (aQ.mk t_0.Person (w64 (t_0.Gross + x6.Gross)) (w64 (t_0.Tax + x6.Tax)) (w64 (t_0.Daily + x6.Daily)) (w64 (t_0.Fines + x6.Fines)) (w64 (t_0.Debt + x6.Debt)) (w64 (t_0.Units + x6.Units)) (w64 (t_0.Used + x6.Used)) (w64 (t_0.Rest + x6.Rest))))
    else (zJ o2_0 t_0)

def kJ (p_0 : aN) : Option (aQ × Int) :=
    (kH p_0).bind fun r3 =>
    bif !decide (r3 = 0) then (some ((aQ.mk 0 0 0 0 0 0 0 0 0), r3))
    else ((nW p_0).bind fun r5 =>
    jP r5 (aQ.mk 0 0 0 0 0 0 0 0 0) BIG 0 (aQ.mk (-1) 0 0 0 0 0 0 0 0))

def wU : Option Bool :=
    some true

def gX (a_0 : List aH) (b_0 : List aH) : Nat → Int → Option Bool
  | 0, _ => none
  | k0 + 1, i_0 =>
    bif decide (i_0 < (a_0.length : Int)) then ((idx a_0 i_0).bind fun x1 =>
    (idx b_0 i_0).bind fun x2 =>
    bif !decide (x1 = x2) then (some false)
    else ((gX a_0 b_0 k0) (w64 (i_0 + 1))))
    else (wU)

def mS (a_0 : List aH) (b_1 : List aH) : Option Bool :=
    bif !decide ((a_0.length : Int) = (b_1.length : Int)) then (some false)
    else (gX a_0 b_1 BIG 0)

def zH : Option Bool :=
    some true

def jN (a_10 : aN) (b_10 : aN) : Nat → Int → Option Bool
  | 0, _ => none
  | k10 + 1, i_10 =>
    bif decide (i_10 < (a_10.Rates.length : Int)) then ((idx a_10.Rates i_10).bind fun x22 =>
    (idx b_10.Rates i_10).bind fun x23 =>
    bif !decide (x22 = x23) then (some false)
    else ((jN a_10 b_10 k10) (w64 (i_10 + 1))))
    else (zH)

def rR (a_108 : aN) (b_108 : aN) : Option Bool :=
    jN a_108 b_108 BIG 0

def kD (a_8 : aN) (b_8 : aN) : Nat → Int → Option Bool
  | 0, _ => none
  | k8 + 1, i_8 =>
    bif decide (i_8 < (a_8.Levies.length : Int)) then ((idx a_8.Levies i_8).bind fun x20 =>
    (idx b_8.Levies i_8).bind fun x21 =>
    bif !decide (x20 = x21) then (some false)
    else ((kD a_8 b_8 k8) (w64 (i_8 + 1))))
    else (rR a_8 b_8)

def rQ (a_106 : aN) (b_106 : aN) : Option Bool :=
    kD a_106 b_106 BIG 0

def kC (a_6 : aN) (b_6 : aN) : Nat → Int → Option Bool
  | 0, _ => none
  | k6 + 1, i_6 =>
    bif decide (i_6 < (a_6.Teams.length : Int)) then ((idx a_6.Teams i_6).bind fun x18 =>
    (idx b_6.Teams i_6).bind fun x19 =>
    bif !decide (x18 = x19) then (some false)
    else ((kC a_6 b_6 k6) (w64 (i_6 + 1))))
    else (rQ a_6 b_6)

def rP (a_104 : aN) (b_104 : aN) : Option Bool :=
    kC a_104 b_104 BIG 0

def kB (a_4 : aN) (b_4 : aN) : Nat → Int → Option Bool
  | 0, _ => none
  | k4 + 1, i_4 =>
    bif decide (i_4 < (a_4.Prizes.length : Int)) then ((idx a_4.Prizes i_4).bind fun x16 =>
    (idx b_4.Prizes i_4).bind fun x17 =>
    bif !decide (x16 = x17) then (some false)
    else ((kB a_4 b_4 k4) (w64 (i_4 + 1))))
    else (rP a_4 b_4)

def rO (a_102 : aN) (b_102 : aN) : Option Bool :=
    kB a_102 b_102 BIG 0

def kA (a_2 : aN) (b_2 : aN) : Nat → Int → Option Bool
  | 0, _ => none
  | k2 + 1, i_2 =>
    bif decide (i_2 < (a_2.Slips.length : Int)) then ((idx a_2.Slips i_2).bind fun x14 =>
    (idx b_2.Slips i_2).bind fun x15 =>
    bif !decide (x14 = x15) then (some false)
    else ((kA a_2 b_2 k2) (w64 (i_2 + 1))))
    else (rO a_2 b_2)

def rN (a_100 : aN) (b_100 : aN) : Option Bool :=
    kA a_100 b_100 BIG 0

def iV (a_0 : aN) (b_0 : aN) : Nat → Int → Option Bool
  | 0, _ => none
  | k0 + 1, i_0 =>
    bif decide (i_0 < (a_0.Tree.Slots.length : Int)) then ((idx a_0.Tree.Slots i_0).bind fun x12 =>
    (idx b_0.Tree.Slots i_0).bind fun x13 =>
    bif !decide (x12 = x13) then (some false)
    else ((iV a_0 b_0 k0) (w64 (i_0 + 1))))
    else (rN a_0 b_0)

def rM (a_0 : aN) (b_1 : aN) : Option Bool :=
    (bif !decide (a_0.Tree.Rounds = b_1.Tree.Rounds) then (some true) else (some (!decide ((a_0.Tree.Slots.length : Int) = (b_1.Tree.Slots.length : Int))))).bind fun b3 =>
    (bif b3 then (some true) else (some (!decide ((a_0.Slips.length : Int) = (b_1.Slips.length : Int))))).bind fun b4 =>
    (bif b4 then (some true) else (some (!decide ((a_0.Prizes.length : Int) = (b_1.Prizes.length : Int))))).bind fun b5 =>
    (bif b5 then (some true) else (some (!decide (a_0.Daily = b_1.Daily)))).bind fun b6 =>
    (bif b6 then (some true) else (some (!decide ((a_0.Teams.length : Int) = (b_1.Teams.length : Int))))).bind fun b7 =>
    (bif b7 then (some true) else (some (!decide ((a_0.Levies.length : Int) = (b_1.Levies.length : Int))))).bind fun b8 =>
    (bif b8 then (some true) else (some (!decide ((a_0.Rates.length : Int) = (b_1.Rates.length : Int))))).bind fun b9 =>
    (bif b9 then (some true) else ((mS a_0.Items b_1.Items).bind fun r10 =>
    some (!r10))).bind fun b11 =>
    bif b11 then (some false)
    else (iV a_0 b_1 BIG 0)

def qS (p_100 : aN) (o_100 : aN) : Option Bool :=
    (rM o_100 p_100).bind fun r25 =>
    (bif r25 then ((nU).bind fun r26 =>
    some r26) else (some false)).bind fun b27 =>
    some b27

def fI (k_0 : List aQ) (l_0 : List aQ) (p_0 : aN) (o_0 : aN) : Nat → Int → Option Bool
  | 0, _ => none
  | k0 + 1, n_0 =>
    bif decide (n_0 < (k_0.length : Int)) then ((idx k_0 n_0).bind fun x23 =>
    (idx l_0 n_0).bind fun x24 =>
    bif !decide (x23 = x24) then (some false)
    else ((fI k_0 l_0 p_0 o_0 k0) (w64 (n_0 + 1))))
    else (qS p_0 o_0)

def oT (p_0 : aN) (person_1 : Int) : Option Bool :=
    (nT p_0).bind fun r2 =>
    bif r2 then ((nU).bind fun r3 =>
    some r3)
    else ((rX p_0).bind fun r4 =>
    (qJ r4).bind fun r6 =>
    (kH p_0).bind fun r7 =>
    bif !decide (r6 = r7) then (some false)
    else ((qC r4 person_1).bind fun r8 =>
    (lF p_0 person_1).bind fun r10 =>
    (oG r4).bind fun r12 =>
    (kG p_0).bind fun r13 =>
    (oH r4).bind fun r14 =>
    (kJ p_0).bind fun r16 =>
    (bif !decide (r8.1 = r10.1) then (some true) else (some (!decide (r8.2 = r10.2)))).bind fun b18 =>
    (bif b18 then (some true) else (some (!decide ((r12.1.length : Int) = (r13.1.length : Int))))).bind fun b19 =>
    (bif b19 then (some true) else (some (!decide (r12.2 = r13.2)))).bind fun b20 =>
    (bif b20 then (some true) else (some (!decide (r14.1 = r16.1)))).bind fun b21 =>
    (bif b21 then (some true) else (some (!decide (r14.2 = r16.2)))).bind fun b22 =>
    bif b22 then (some false)
    else (fI r12.1 r13.1 p_0 r4 BIG 0)))

end Go.Am
