/- Shallow functions, printed by program. -/
import Derived.Test.YtoflekecpkjghaaAmFull
import Derived.Test.YtoflekecpkjghaaAmNd
import Derived.Test.YtoflekecpkjghaaAmSort
namespace Go.Am

def pC (x : List Int) : List D := [.sl 1 (x.map aK)]

structure aR where
  Rounds : Int
  Slots : List Int
  deriving DecidableEq, Inhabited
def bD (x : aR) : List D := [.lit (.int .i64 x.Rounds), .sl 1 (x.Slots.map aK)]

structure aG where
  Kind : Int
  Round : Int
  Place : Int
  Player : Int
  Old : Int
  deriving DecidableEq, Inhabited
def aJ (x : aG) : List D := [.lit (.int .i64 x.Kind), .lit (.int .i64 x.Round), .lit (.int .i64 x.Place), .lit (.int .i64 x.Player), .lit (.int .i64 x.Old)]

def aNt (x : List aG) : List D := [.sl 5 (x.map aJ)]

structure bP where
  Player : Int
  One : Int
  Two : Int
  deriving DecidableEq, Inhabited
def bI (x : bP) : List D := [.lit (.int .i64 x.Player), .lit (.int .i64 x.One), .lit (.int .i64 x.Two)]

def aNu (x : List bP) : List D := [.sl 3 (x.map bI)]

structure eG where
  Person : Int
  Mille : Int
  deriving DecidableEq, Inhabited
def cE (x : eG) : List D := [.lit (.int .i64 x.Person), .lit (.int .i64 x.Mille)]

def aNr (x : List eG) : List D := [.sl 2 (x.map cE)]

structure dI where
  Person : Int
  Num : Int
  Den : Int
  deriving DecidableEq, Inhabited
def cM (x : dI) : List D := [.lit (.int .i64 x.Person), .lit (.int .i64 x.Num), .lit (.int .i64 x.Den)]

def aNs (x : List dI) : List D := [.sl 3 (x.map cM)]

structure aH where
  Id : Int
  Kind : Int
  Person : Int
  Amount : Int
  deriving DecidableEq, Inhabited
def aE (x : aH) : List D := [.lit (.int .i64 x.Id), .lit (.int .i64 x.Kind), .lit (.int .i64 x.Person), .lit (.int .i64 x.Amount)]

def aNq (x : List aH) : List D := [.sl 4 (x.map aE)]

structure aN where
  Tree : aR
  Slips : List aG
  Prizes : List Int
  Daily : Int
  Teams : List bP
  Levies : List eG
  Rates : List dI
  Items : List aH
  deriving DecidableEq, Inhabited
def aQ (x : aN) : List D := [.lit (.int .i64 x.Tree.Rounds), .sl 1 (x.Tree.Slots.map aK), .sl 5 (x.Slips.map aJ), .sl 1 (x.Prizes.map aK), .lit (.int .i64 x.Daily), .sl 3 (x.Teams.map bI), .sl 2 (x.Levies.map cE), .sl 3 (x.Rates.map cM), .sl 4 (x.Items.map aE)]

structure aS where
  Slots : List Int
  Must : List (List Int)
  deriving DecidableEq, Inhabited
def cI (x : aS) : List D := [.sl 1 (x.Slots.map aK), .sl 1 (x.Must.map pC)]

structure aF where
  round : Int
  place : Int
  deriving DecidableEq, Inhabited
def aO (x : aF) : List D := [.lit (.int .i64 x.round), .lit (.int .i64 x.place)]

structure bB where
  Tree : aR
  players : List Int
  won : List (aF × Int)
  deriving DecidableEq, Inhabited
def bF (x : bB) : List D := [.lit (.int .i64 x.Tree.Rounds), .sl 1 (x.Tree.Slots.map aK), .sl 1 (x.players.map aK), .mp false (x.won.map fun p : aF × Int => ((fun a : aF => Value.agg ((aO a).map bM).toArray) p.1, aK p.2))]

structure cG where
  Low : Int
  High : Int
  deriving DecidableEq, Inhabited
def cB (x : cG) : List D := [.lit (.int .i64 x.Low), .lit (.int .i64 x.High)]

structure aY where
  Person : Int
  Gross : Int
  Tax : Int
  Daily : Int
  Fines : Int
  Debt : Int
  Units : Int
  Used : Int
  Rest : Int
  deriving DecidableEq, Inhabited
def bJ (x : aY) : List D := [.lit (.int .i64 x.Person), .lit (.int .i64 x.Gross), .lit (.int .i64 x.Tax), .lit (.int .i64 x.Daily), .lit (.int .i64 x.Fines), .lit (.int .i64 x.Debt), .lit (.int .i64 x.Units), .lit (.int .i64 x.Used), .lit (.int .i64 x.Rest)]

def aNe (x : aR) : Prop := okI x.Rounds ∧ (okL okI) x.Slots

def aGu (x : aG) : Prop := okI x.Kind ∧ okI x.Round ∧ okI x.Place ∧ okI x.Player ∧ okI x.Old

def aGv (x : bP) : Prop := okI x.Player ∧ okI x.One ∧ okI x.Two

def aGs (x : eG) : Prop := okI x.Person ∧ okI x.Mille

def aGt (x : dI) : Prop := okI x.Person ∧ okI x.Num ∧ okI x.Den

def aGr (x : aH) : Prop := okI x.Id ∧ okI x.Kind ∧ okI x.Person ∧ okI x.Amount

def aLg (x : aN) : Prop := aNe x.Tree ∧ (okL aGu) x.Slips ∧ (okL okI) x.Prizes ∧ okI x.Daily ∧ (okL aGv) x.Teams ∧ (okL aGs) x.Levies ∧ (okL aGt) x.Rates ∧ (okL aGr) x.Items

def mX (p_0 : aN) : Option Bool :=
    (bif decide (8 < (p_0.Tree.Slots.length : Int)) then (some true) else (some (decide (20 < (p_0.Slips.length : Int))))).bind fun b2 =>
    (bif b2 then (some true) else (some (decide (20 < (p_0.Prizes.length : Int))))).bind fun b3 =>
    (bif b3 then (some true) else (some (decide (40 < (p_0.Teams.length : Int))))).bind fun b4 =>
    (bif b4 then (some true) else (some (decide (40 < (p_0.Levies.length : Int))))).bind fun b5 =>
    (bif b5 then (some true) else (some (decide (40 < (p_0.Rates.length : Int))))).bind fun b6 =>
    (bif b6 then (some true) else (some (decide (60 < (p_0.Items.length : Int))))).bind fun b7 =>
    some b7

def eX (n_0 : Int) (low_1 : Int) (high_2 : Int) : Option Bool :=
    (bif decide (low_1 ≤ n_0) then (some (decide (n_0 ≤ high_2))) else (some false)).bind fun b1 =>
    some b1

def sA (again0 : Int → Option Bool) (i_101 : Int) (t_101 : aR) : Option Bool :=
    again0 (w64 (i_101 + 1))

def sB (again0 : Int → Option Bool) (i_102 : Int) (t_102 : aR) : Option Bool :=
    sA again0 i_102 t_102

def gT (again0 : Int → Option Bool) (i_2 : Int) (t_2 : aR) : Nat → Int → Option Bool
  | 0, _ => none
  | k2 + 1, k_2 =>
    bif decide (k_2 < i_2) then ((idx t_2.Slots k_2).bind fun x12 =>
    (idx t_2.Slots i_2).bind fun x13 =>
    (bif decide (x12 = x13) then ((idx t_2.Slots i_2).bind fun x14 =>
    some (!decide (x14 = (-1)))) else (some false)).bind fun b15 =>
    bif b15 then (some false)
    else ((gT again0 i_2 t_2 k2) (w64 (k_2 + 1))))
    else (sB again0 i_2 t_2)

def rZ : Option Bool :=
    some true

def gS (t_0 : aR) : Nat → Int → Option Bool
  | 0, _ => none
  | k0 + 1, i_0 =>
    bif decide (i_0 < (t_0.Slots.length : Int)) then ((idx t_0.Slots i_0).bind fun x5 =>
    (eX x5 (-1) 999).bind fun r6 =>
    (bif !r6 then (some true) else ((bif decide ((i_0.tmod 2) = 1) then ((idx t_0.Slots i_0).bind fun x7 =>
    some (decide (x7 = (-1)))) else (some false)).bind fun b8 =>
    (bif b8 then ((idx t_0.Slots (w64 (i_0 - 1))).bind fun x9 =>
    some (decide (x9 = (-1)))) else (some false)).bind fun b10 =>
    some b10)).bind fun b11 =>
    bif b11 then (some false)
    else (gT (gS t_0 k0) i_0 t_0 BIG 0))
    else (rZ)

def mA (t_0 : aR) : Option Bool :=
    (eX t_0.Rounds 1 5).bind fun r2 =>
    (bif !r2 then (some true) else ((chk (decide (0 ≤ (IntKind.u64.wrap t_0.Rounds)))).bind fun u3 =>
    some (!decide ((t_0.Slots.length : Int) = (w64 (1 * 2 ^ (min (IntKind.u64.wrap t_0.Rounds).toNat 64))))))).bind fun b4 =>
    bif b4 then (some false)
    else (gS t_0 BIG 0)

def mB (t_0 : aR) (round_1 : Int) : Option Int :=
    (chk (decide (0 ≤ (IntKind.u64.wrap (w64 ((w64 (t_0.Rounds - 1)) - round_1)))))).bind fun u2 =>
    some (w64 (1 * 2 ^ (min (IntKind.u64.wrap (w64 ((w64 (t_0.Rounds - 1)) - round_1))).toNat 64)))

def nO (t_0 : aR) (round_1 : Int) (place_2 : Int) : Option Bool :=
    (eX round_1 0 (w64 (t_0.Rounds - 1))).bind fun r2 =>
    (bif r2 then ((mB t_0 round_1).bind fun r3 =>
    (eX place_2 0 (w64 (r3 - 1))).bind fun r4 =>
    some r4) else (some false)).bind fun b5 =>
    some b5

def oK (t_0 : aR) (x_1 : aG) : Option Bool :=
    (eX x_1.Player 0 999).bind fun r3 =>
    bif !r3 then (some false)
    else (bif decide (x_1.Kind = 5) then ((bif decide (x_1.Round = 0) then ((eX x_1.Place 0 (w64 ((t_0.Slots.length : Int) - 1))).bind fun r4 =>
    some r4) else (some false)).bind fun b5 =>
    (bif b5 then ((eX x_1.Old 0 999).bind fun r6 =>
    some r6) else (some false)).bind fun b7 =>
    some b7)
    else ((eX x_1.Kind 1 4).bind fun r8 =>
    (bif !r8 then (some true) else ((nO t_0 x_1.Round x_1.Place).bind fun r9 =>
    some (!r9))).bind fun b10 =>
    (bif b10 then (some true) else (some (!decide (x_1.Old = 0)))).bind fun b11 =>
    bif b11 then (some false)
    else ((bif decide (0 < x_1.Round) then (some true) else ((idx t_0.Slots (w64 (2 * x_1.Place))).bind fun x12 =>
    (bif !decide (x12 = (-1)) then ((idx t_0.Slots (w64 ((w64 (2 * x_1.Place)) + 1))).bind fun x13 =>
    some (!decide (x13 = (-1)))) else (some false)).bind fun b14 =>
    some b14)).bind fun b15 =>
    some b15)))

def lJ (again0 : Int → (List aG) → Option ((List aG))) (l_101 : List aG) (i_101 : Int) (out_101 : List aG) : Option ((List aG)) :=
    again0 (w64 (i_101 + 1)) out_101

def nR (again0 : Int → (List aG) → Option ((List aG))) (l_102 : List aG) (i_102 : Int) (twin_102 : Bool) (out_102 : List aG) : Option ((List aG)) :=
    bif !twin_102 then ((idx l_102 i_102).bind fun x5 =>
    (app 40 out_102 ([x5])).bind fun x6 =>
    lJ again0 l_102 i_102 x6)
    else (lJ again0 l_102 i_102 out_102)

def iN (again0 : Int → (List aG) → Option ((List aG))) (l_2 : List aG) (i_2 : Int) (out_2 : List aG) : Nat → Bool → Int → Option ((List aG))
  | 0, _, _ => none
  | k2 + 1, twin_2, k_2 =>
    bif decide (k_2 < (out_2.length : Int)) then ((bif twin_2 then (some true) else ((idx out_2 k_2).bind fun x2 =>
    (idx l_2 i_2).bind fun x3 =>
    some (decide (x2 = x3)))).bind fun b4 =>
    (iN again0 l_2 i_2 out_2 k2) b4 (w64 (k_2 + 1)))
    else (nR again0 l_2 i_2 twin_2 out_2)

def tT (out_100 : List aG) : Option ((List aG)) :=
    some out_100

def fA (l_0 : List aG) : Nat → Int → (List aG) → Option ((List aG))
  | 0, _, _ => none
  | k0 + 1, i_0, out_0 =>
    bif decide (i_0 < (l_0.length : Int)) then (iN (fA l_0 k0) l_0 i_0 out_0 BIG false 0)
    else (tT out_0)

def nZ (l_0 : List aG) : Option ((List aG)) :=
    fA l_0 BIG 0 ([] : List aG)

def vK : Option Bool :=
    some false

def kU (l_0 : List Int) (n_0 : Int) : Nat → Int → Option Bool
  | 0, _ => none
  | k0 + 1, i_0 =>
    bif decide (i_0 < (l_0.length : Int)) then ((idx l_0 i_0).bind fun x1 =>
    bif decide (x1 = n_0) then (some true)
    else ((kU l_0 n_0 k0) (w64 (i_0 + 1))))
    else (vK)

def sK (l_0 : List Int) (n_1 : Int) : Option Bool :=
    kU l_0 n_1 BIG 0

def jL (again0 : Int → Int → (List Int) → (List Int) → Option ((List Int) × Bool)) (again2 : Int → Int → Bool → (List Int) → Option ((List Int) × Bool)) (allv_103 : List aG) (used_103 : Int) (i_103 : Int) (now_103 : Int) (again_103 : Bool) (t_103 : aR) (out_103 : List Int) (o18_103 : List Int) : Option ((List Int) × Bool) :=
    again2 used_103 now_103 again_103 o18_103

def lF (again0 : Int → Int → (List Int) → (List Int) → Option ((List Int) × Bool)) (again2 : Int → Int → Bool → (List Int) → Option ((List Int) × Bool)) (allv_104 : List aG) (used_104 : Int) (i_104 : Int) (now_104 : Int) (again_104 : Bool) (t_104 : aR) (out_104 : List Int) (nextv_104 : List Int) (o18_104 : List Int) : Option ((List Int) × Bool) :=
    (bif decide (1 < (nextv_104.length : Int)) then (some true) else ((bif decide ((nextv_104.length : Int) = 1) then ((idx nextv_104 0).bind fun x17 =>
    (sK o18_104 x17).bind fun r18 =>
    some r18) else (some false)).bind fun b19 =>
    some b19)).bind fun b20 =>
    bif b20 then (some (([] : List Int), false))
    else (bif decide ((nextv_104.length : Int) = 1) then ((idx nextv_104 0).bind fun x21 =>
    (app 8 o18_104 ([x21])).bind fun x22 =>
    jL again0 again2 allv_104 (w64 (used_104 + 1)) i_104 x21 true t_104 out_104 x22)
    else (jL again0 again2 allv_104 used_104 i_104 now_104 again_104 t_104 out_104 o18_104))

def fM (again0 : Int → Int → (List Int) → (List Int) → Option ((List Int) × Bool)) (again2 : Int → Int → Bool → (List Int) → Option ((List Int) × Bool)) (allv_4 : List aG) (used_4 : Int) (i_4 : Int) (now_4 : Int) (again_4 : Bool) (t_4 : aR) (out_4 : List Int) (o18_4 : List Int) : Nat → Int → (List Int) → Option ((List Int) × Bool)
  | 0, _, _ => none
  | k4 + 1, k_4, nextv_4 =>
    bif decide (k_4 < (allv_4.length : Int)) then ((idx allv_4 k_4).bind fun x9 =>
    (bif decide (x9.Kind = 5) then ((idx allv_4 k_4).bind fun x10 =>
    some (decide (x10.Place = i_4))) else (some false)).bind fun b11 =>
    (bif b11 then ((idx allv_4 k_4).bind fun x12 =>
    some (decide (x12.Old = now_4))) else (some false)).bind fun b13 =>
    bif b13 then ((idx allv_4 k_4).bind fun x14 =>
    (app 8 nextv_4 ([x14.Player])).bind fun x15 =>
    (fM again0 again2 allv_4 used_4 i_4 now_4 again_4 t_4 out_4 o18_4 k4) (w64 (k_4 + 1)) x15)
    else ((fM again0 again2 allv_4 used_4 i_4 now_4 again_4 t_4 out_4 o18_4 k4) (w64 (k_4 + 1)) nextv_4))
    else (lF again0 again2 allv_4 used_4 i_4 now_4 again_4 t_4 out_4 nextv_4 o18_4)

def rF (again0 : Int → Int → (List Int) → (List Int) → Option ((List Int) × Bool)) (allv_101 : List aG) (used_101 : Int) (i_101 : Int) (t_101 : aR) (out_101 : List Int) (o18_101 : List Int) : Option ((List Int) × Bool) :=
    again0 used_101 (w64 (i_101 + 1)) out_101 o18_101

def nY (again0 : Int → Int → (List Int) → (List Int) → Option ((List Int) × Bool)) (allv_102 : List aG) (used_102 : Int) (i_102 : Int) (now_102 : Int) (t_102 : aR) (out_102 : List Int) (o18_102 : List Int) : Option ((List Int) × Bool) :=
    (app 8 out_102 ([now_102])).bind fun x24 =>
    rF again0 allv_102 used_102 i_102 t_102 x24 o18_102

def gK (again0 : Int → Int → (List Int) → (List Int) → Option ((List Int) × Bool)) (allv_2 : List aG) (i_2 : Int) (t_2 : aR) (out_2 : List Int) : Nat → Int → Int → Bool → (List Int) → Option ((List Int) × Bool)
  | 0, _, _, _, _ => none
  | k2 + 1, used_2, now_2, again_2, o18_2 =>
    bif again_2 then (fM again0 (gK again0 allv_2 i_2 t_2 out_2 k2) allv_2 used_2 i_2 now_2 false t_2 out_2 o18_2 BIG 0 ([] : List Int))
    else (nY again0 allv_2 used_2 i_2 now_2 t_2 out_2 o18_2)

def rG (used_106 : Int) (out_106 : List Int) : Option ((List Int) × Bool) :=
    some (out_106, decide (used_106 = 0))

def fN (allv_6 : List aG) (out_6 : List Int) : Nat → Int → Int → Option ((List Int) × Bool)
  | 0, _, _ => none
  | k6 + 1, used_6, k_6 =>
    bif decide (k_6 < (allv_6.length : Int)) then ((idx allv_6 k_6).bind fun x26 =>
    bif decide (x26.Kind = 5) then ((fN allv_6 out_6 k6) (w64 (used_6 - 1)) (w64 (k_6 + 1)))
    else ((fN allv_6 out_6 k6) used_6 (w64 (k_6 + 1))))
    else (rG used_6 out_6)

def rE (allv_100 : List aG) (used_100 : Int) (out_100 : List Int) : Option ((List Int) × Bool) :=
    fN allv_100 out_100 BIG used_100 0

def eN (allv_0 : List aG) (t_0 : aR) : Nat → Int → Int → (List Int) → (List Int) → Option ((List Int) × Bool)
  | 0, _, _, _, _ => none
  | k0 + 1, used_0, i_0, out_0, o18_0 =>
    bif decide (i_0 < (t_0.Slots.length : Int)) then ((idx t_0.Slots i_0).bind fun x7 =>
    gK (eN allv_0 t_0 k0) allv_0 i_0 t_0 out_0 BIG used_0 x7 true o18_0)
    else (rE allv_0 used_0 out_0)

def nP (t_0 : aR) (l_1 : List aG) : Option ((List Int) × Bool) :=
    (nZ l_1).bind fun r2 =>
    (app 8 ([] : List Int) t_0.Slots).bind fun x4 =>
    eN r2 t_0 BIG 0 0 ([] : List Int) x4

def tQ (again0 : Int → (List (List Int)) → (List Int) → Option (aS × Bool)) (l_101 : List aG) (slots_101 : List Int) (r_101 : Int) (t_101 : aR) (o4_101 : aS) (d_101 : List (List Int)) (d_101_2 : List Int) : Option (aS × Bool) :=
    again0 (w64 (r_101 + 1)) d_101 d_101_2

def lH (again0 : Int → (List (List Int)) → (List Int) → Option (aS × Bool)) (l_102 : List aG) (slots_102 : List Int) (r_102 : Int) (t_102 : aR) (o4_102 : aS) (d_102 : List (List Int)) (d_102_2 : List Int) (row_102 : List Int) : Option (aS × Bool) :=
    (app 24 d_102 [row_102]).bind fun x24 =>
    tQ again0 l_102 slots_102 r_102 t_102 o4_102 x24 d_102_2

def eZ (again0 : Int → (List (List Int)) → (List Int) → Option (aS × Bool)) (l_2 : List aG) (slots_2 : List Int) (r_2 : Int) (t_2 : aR) (o4_2 : aS) (d_2 : List (List Int)) (d_2_2 : List Int) : Nat → Int → (List Int) → Option (aS × Bool)
  | 0, _, _ => none
  | k2 + 1, p_2, row_2 =>
    (mB t_2 r_2).bind fun r6 =>
    bif decide (p_2 < r6) then ((bif decide (r_2 = 0) then ((idx slots_2 (w64 (2 * p_2))).bind fun x7 =>
    some (decide (x7 = (-1)))) else (some false)).bind fun b8 =>
    bif b8 then ((idx slots_2 (w64 ((w64 (2 * p_2)) + 1))).bind fun x9 =>
    (bif decide (r_2 = 0) then ((idx slots_2 (w64 ((w64 (2 * p_2)) + 1))).bind fun x10 =>
    some (decide (x10 = (-1)))) else (some false)).bind fun b11 =>
    bif b11 then ((idx slots_2 (w64 (2 * p_2))).bind fun x12 =>
    (app 8 row_2 ([x12])).bind fun x13 =>
    (eZ again0 l_2 slots_2 r_2 t_2 o4_2 d_2 d_2_2 k2) (w64 (p_2 + 1)) x13)
    else ((app 8 row_2 ([x9])).bind fun x15 =>
    (eZ again0 l_2 slots_2 r_2 t_2 o4_2 d_2 d_2_2 k2) (w64 (p_2 + 1)) x15))
    else ((bif decide (r_2 = 0) then ((idx slots_2 (w64 ((w64 (2 * p_2)) + 1))).bind fun x17 =>
    some (decide (x17 = (-1)))) else (some false)).bind fun b18 =>
    bif b18 then ((idx slots_2 (w64 (2 * p_2))).bind fun x19 =>
    (app 8 row_2 ([x19])).bind fun x20 =>
    (eZ again0 l_2 slots_2 r_2 t_2 o4_2 d_2 d_2_2 k2) (w64 (p_2 + 1)) x20)
    else ((app 8 row_2 ([(-2)])).bind fun x22 =>
    (eZ again0 l_2 slots_2 r_2 t_2 o4_2 d_2 d_2_2 k2) (w64 (p_2 + 1)) x22)))
    else (lH again0 l_2 slots_2 r_2 t_2 o4_2 d_2 d_2_2 row_2)

def lI (again4 : Int → aS → (List (List Int)) → Option (aS × Bool)) (slots_105 : List Int) (allv_105 : List aG) (i_105 : Int) (o4_105 : aS) (d_105 : List (List Int)) (d_105_2 : List Int) : Option (aS × Bool) :=
    again4 (w64 (i_105 + 1)) o4_105 d_105

def sY (again4 : Int → aS → (List (List Int)) → Option (aS × Bool)) (slots_110 : List Int) (allv_110 : List aG) (i_110 : Int) (o4_110 : aS) (d_110 : List (List Int)) (d_110_2 : List Int) : Option (aS × Bool) :=
    lI again4 slots_110 allv_110 i_110 o4_110 d_110 d_110_2

def iA (again4 : Int → aS → (List (List Int)) → Option (aS × Bool)) (slots_10 : List Int) (allv_10 : List aG) (i_10 : Int) (atv_10 : Int) (d_10_2 : List Int) (x_10 : aG) : Nat → Int → aS → (List (List Int)) → Option (aS × Bool)
  | 0, _, _, _ => none
  | k10 + 1, r_10, o4_10, d_10 =>
    bif decide (r_10 ≤ x_10.Round) then ((chk (decide (0 ≤ (IntKind.u64.wrap (w64 (r_10 + 1)))))).bind fun u36 =>
    (idx d_10 r_10).bind fun x37 =>
    (idx x37 (atv_10.fdiv (2 ^ (min (IntKind.u64.wrap (w64 (r_10 + 1))).toNat 64)))).bind fun x38 =>
    (bif !decide (x38 = (-2)) then ((idx d_10 r_10).bind fun x39 =>
    (idx x39 (atv_10.fdiv (2 ^ (min (IntKind.u64.wrap (w64 (r_10 + 1))).toNat 64)))).bind fun x40 =>
    some (!decide (x40 = x_10.Player))) else (some false)).bind fun b41 =>
    bif b41 then (some ((aS.mk ([] : List Int) ([] : List (List Int))), false))
    else ((idx d_10 r_10).bind fun x42 =>
    (idx x42 (atv_10.fdiv (2 ^ (min (IntKind.u64.wrap (w64 (r_10 + 1))).toNat 64)))).bind fun x43 =>
    (iA again4 slots_10 allv_10 i_10 atv_10 d_10_2 x_10 k10) (w64 (r_10 + 1)) o4_10 (d_10.set r_10.toNat (x42.set (atv_10.fdiv (2 ^ (min (IntKind.u64.wrap (w64 (r_10 + 1))).toNat 64))).toNat x_10.Player))))
    else (sY again4 slots_10 allv_10 i_10 o4_10 d_10 d_10_2)

def iL (again4 : Int → aS → (List (List Int)) → Option (aS × Bool)) (slots_108 : List Int) (allv_108 : List aG) (i_108 : Int) (atv_108 : Int) (o4_108 : aS) (d_108 : List (List Int)) (d_108_2 : List Int) (x_108 : aG) : Option (aS × Bool) :=
    (bif decide (atv_108 < 0) then (some true) else ((chk (decide (0 ≤ (IntKind.u64.wrap (w64 (x_108.Round + 1)))))).bind fun u34 =>
    some (!decide ((atv_108.fdiv (2 ^ (min (IntKind.u64.wrap (w64 (x_108.Round + 1))).toNat 64))) = x_108.Place)))).bind fun b35 =>
    bif b35 then (some ((aS.mk ([] : List Int) ([] : List (List Int))), false))
    else (iA again4 slots_108 allv_108 i_108 atv_108 d_108_2 x_108 BIG 0 o4_108 d_108)

def eO (again4 : Int → aS → (List (List Int)) → Option (aS × Bool)) (slots_8 : List Int) (allv_8 : List aG) (i_8 : Int) (o4_8 : aS) (d_8 : List (List Int)) (d_8_2 : List Int) (x_8 : aG) : Nat → Int → Int → Option (aS × Bool)
  | 0, _, _ => none
  | k8 + 1, atv_8, s_8 =>
    bif decide (s_8 < (slots_8.length : Int)) then ((idx slots_8 s_8).bind fun x33 =>
    bif decide (x33 = x_8.Player) then ((eO again4 slots_8 allv_8 i_8 o4_8 d_8 d_8_2 x_8 k8) s_8 (w64 (s_8 + 1)))
    else ((eO again4 slots_8 allv_8 i_8 o4_8 d_8 d_8_2 x_8 k8) atv_8 (w64 (s_8 + 1))))
    else (iL again4 slots_8 allv_8 i_8 atv_8 o4_8 d_8 d_8_2 x_8)

def qA (again4 : Int → aS → (List (List Int)) → Option (aS × Bool)) (slots_106 : List Int) (allv_106 : List aG) (i_106 : Int) (o4_106 : aS) (d_106 : List (List Int)) (d_106_2 : List Int) (x_106 : aG) : Option (aS × Bool) :=
    eO again4 slots_106 allv_106 i_106 o4_106 d_106 d_106_2 x_106 BIG (-1) 0

def iM (again4 : Int → aS → (List (List Int)) → Option (aS × Bool)) (slots_6 : List Int) (allv_6 : List aG) (i_6 : Int) (d_6 : List (List Int)) (d_6_2 : List Int) (x_6 : aG) : Nat → Int → aS → Option (aS × Bool)
  | 0, _, _ => none
  | k6 + 1, k_6, o4_6 =>
    bif decide (k_6 < i_6) then ((idx allv_6 k_6).bind fun x29 =>
    (bif !decide (x29.Kind = 5) then (some (decide (x29.Round = x_6.Round))) else (some false)).bind fun b31 =>
    (bif b31 then (some (decide (x29.Place = x_6.Place))) else (some false)).bind fun b32 =>
    bif b32 then (some ((aS.mk ([] : List Int) ([] : List (List Int))), false))
    else ((iM again4 slots_6 allv_6 i_6 d_6 d_6_2 x_6 k6) (w64 (k_6 + 1)) o4_6))
    else (qA again4 slots_6 allv_6 i_6 o4_6 d_6 d_6_2 x_6)

def tR (o4_104 : aS) (d_104 : List (List Int)) (d_104_2 : List Int) : Option (aS × Bool) :=
    some ((aS.mk d_104_2 d_104), true)

def dL (slots_4 : List Int) (allv_4 : List aG) (d_4_2 : List Int) : Nat → Int → aS → (List (List Int)) → Option (aS × Bool)
  | 0, _, _, _ => none
  | k4 + 1, i_4, o4_4, d_4 =>
    bif decide (i_4 < (allv_4.length : Int)) then ((idx allv_4 i_4).bind fun x27 =>
    bif decide (x27.Kind = 5) then (lI (dL slots_4 allv_4 d_4_2 k4) slots_4 allv_4 i_4 o4_4 d_4 d_4_2)
    else (iM (dL slots_4 allv_4 d_4_2 k4) slots_4 allv_4 i_4 d_4 d_4_2 x27 BIG 0 o4_4))
    else (tR o4_4 d_4 d_4_2)

def lG (l_100 : List aG) (slots_100 : List Int) (o4_100 : aS) (d_100 : List (List Int)) (d_100_2 : List Int) : Option (aS × Bool) :=
    (nZ l_100).bind fun r26 =>
    dL slots_100 r26 d_100_2 BIG 0 o4_100 d_100

def gU (l_0 : List aG) (slots_0 : List Int) (t_0 : aR) (o4_0 : aS) : Nat → Int → (List (List Int)) → (List Int) → Option (aS × Bool)
  | 0, _, _, _ => none
  | k0 + 1, r_0, d_0, d_0_2 =>
    bif decide (r_0 < t_0.Rounds) then (eZ (gU l_0 slots_0 t_0 o4_0 k0) l_0 slots_0 r_0 t_0 o4_0 d_0 d_0_2 BIG 0 ([] : List Int))
    else (lG l_0 slots_0 o4_0 d_0 d_0_2)

def eT (t_0 : aR) (l_1 : List aG) : Option (aS × Bool) :=
    (nP t_0 l_1).bind fun r3 =>
    bif !r3.2 then (some ((aS.mk ([] : List Int) ([] : List (List Int))), false))
    else (gU l_1 r3.1 t_0 (aS.mk ([] : List Int) ([] : List (List Int))) BIG 0 ([] : List (List Int)) r3.1)

def kG (l_100 : List aG) (t_100 : aR) : Option Int :=
    (eT t_100 l_100).bind fun r5 =>
    bif !r5.2 then (some 72)
    else (some 0)

def hZ (l_0 : List aG) (t_0 : aR) : Nat → Int → Option Int
  | 0, _ => none
  | k0 + 1, i_0 =>
    bif decide (i_0 < (l_0.length : Int)) then ((idx l_0 i_0).bind fun x3 =>
    (oK t_0 x3).bind fun r4 =>
    bif !r4 then (some 71)
    else ((hZ l_0 t_0 k0) (w64 (i_0 + 1))))
    else (kG l_0 t_0)

def fG (t_0 : aR) (l_1 : List aG) : Option Int :=
    (mA t_0).bind fun r2 =>
    bif !r2 then (some 70)
    else (bif decide (60 < (l_1.length : Int)) then (some 71)
    else (hZ l_1 t_0 BIG 0))

def dY (n_0 : Int) (low_1 : Int) (high_2 : Int) : Option Bool :=
    (bif decide (low_1 ≤ n_0) then (some (decide (n_0 ≤ high_2))) else (some false)).bind fun b1 =>
    some b1

def vZ : Option Bool :=
    some false

def iG (player_0 : Int) (p_0 : aN) : Nat → Int → Option Bool
  | 0, _ => none
  | k0 + 1, i_0 =>
    bif decide (i_0 < (p_0.Teams.length : Int)) then ((idx p_0.Teams i_0).bind fun x2 =>
    bif decide (x2.Player = player_0) then (some true)
    else ((iG player_0 p_0 k0) (w64 (i_0 + 1))))
    else (vZ)

def lK (p_0 : aN) (player_1 : Int) : Option Bool :=
    iG player_1 p_0 BIG 0

def qS (again0 : Int → Option Bool) (i_101 : Int) (p_101 : aN) : Option Bool :=
    again0 (w64 (i_101 + 1))

def qT (again0 : Int → Option Bool) (i_102 : Int) (p_102 : aN) : Option Bool :=
    qS again0 i_102 p_102

def fW (again0 : Int → Option Bool) (i_2 : Int) (p_2 : aN) (t_2 : bP) : Nat → Int → Option Bool
  | 0, _ => none
  | k2 + 1, k_2 =>
    bif decide (k_2 < i_2) then ((idx p_2.Teams k_2).bind fun x10 =>
    (bif decide (x10.Player = t_2.Player) then (some true) else (some (decide (x10.One = t_2.One)))).bind fun b12 =>
    (bif b12 then (some true) else (some (decide (x10.Two = t_2.One)))).bind fun b13 =>
    (bif b13 then (some true) else ((bif decide (0 ≤ t_2.Two) then ((bif decide (x10.One = t_2.Two) then (some true) else (some (decide (x10.Two = t_2.Two)))).bind fun b14 =>
    some b14) else (some false)).bind fun b15 =>
    some b15)).bind fun b16 =>
    bif b16 then (some false)
    else ((fW again0 i_2 p_2 t_2 k2) (w64 (k_2 + 1))))
    else (qT again0 i_2 p_2)

def nK (p_106 : aN) : Option Bool :=
    some (decide ((p_106.Teams.length : Int) ≤ 64))

def gX (p_6 : aN) : Nat → Int → Option Bool
  | 0, _ => none
  | k6 + 1, i_6 =>
    bif decide (i_6 < (p_6.Slips.length : Int)) then ((idx p_6.Slips i_6).bind fun x21 =>
    (bif decide (x21.Kind = 5) then ((idx p_6.Slips i_6).bind fun x22 =>
    (lK p_6 x22.Player).bind fun r23 =>
    some (!r23)) else (some false)).bind fun b24 =>
    bif b24 then (some false)
    else ((gX p_6 k6) (w64 (i_6 + 1))))
    else (nK p_6)

def kK (p_104 : aN) : Option Bool :=
    gX p_104 BIG 0

def gW (p_4 : aN) : Nat → Int → Option Bool
  | 0, _ => none
  | k4 + 1, i_4 =>
    bif decide (i_4 < (p_4.Tree.Slots.length : Int)) then ((idx p_4.Tree.Slots i_4).bind fun x17 =>
    (bif !decide (x17 = (-1)) then ((idx p_4.Tree.Slots i_4).bind fun x18 =>
    (lK p_4 x18).bind fun r19 =>
    some (!r19)) else (some false)).bind fun b20 =>
    bif b20 then (some false)
    else ((gW p_4 k4) (w64 (i_4 + 1))))
    else (kK p_4)

def kJ (p_100 : aN) : Option Bool :=
    gW p_100 BIG 0

def fV (p_0 : aN) : Nat → Int → Option Bool
  | 0, _ => none
  | k0 + 1, i_0 =>
    bif decide (i_0 < (p_0.Teams.length : Int)) then ((idx p_0.Teams i_0).bind fun x2 =>
    (dY x2.Player 0 999).bind fun r4 =>
    (bif !r4 then (some true) else ((dY x2.One 0 999).bind fun r5 =>
    some (!r5))).bind fun b6 =>
    (bif b6 then (some true) else ((dY x2.Two (-1) 999).bind fun r7 =>
    some (!r7))).bind fun b8 =>
    (bif b8 then (some true) else (some (decide (x2.One = x2.Two)))).bind fun b9 =>
    bif b9 then (some false)
    else (fW (fV p_0 k0) i_0 p_0 x2 BIG 0))
    else (kJ p_0)

def kH (p_0 : aN) : Option Bool :=
    fV p_0 BIG 0

def yQ (t_100 : bP) : Option (bP × Bool × Bool) :=
    some ((bP.mk 0 0 0), false, false)

def jO (person_0 : Int) (p_0 : aN) : Nat → Int → bP → Option (bP × Bool × Bool)
  | 0, _, _ => none
  | k0 + 1, i_0, t_0 =>
    bif decide (i_0 < (p_0.Teams.length : Int)) then ((idx p_0.Teams i_0).bind fun x3 =>
    (bif decide (x3.One = person_0) then (some true) else ((idx p_0.Teams i_0).bind fun x4 =>
    (bif decide (x4.Two = person_0) then (some (decide (0 ≤ person_0))) else (some false)).bind fun b5 =>
    some b5)).bind fun b6 =>
    bif b6 then ((idx p_0.Teams i_0).bind fun x7 =>
    (idx p_0.Teams i_0).bind fun x8 =>
    some (x7, decide (x8.Two = person_0), true))
    else ((jO person_0 p_0 k0) (w64 (i_0 + 1)) t_0))
    else (yQ t_0)

def qC (p_0 : aN) (person_1 : Int) : Option (bP × Bool × Bool) :=
    jO person_1 p_0 BIG 0 (bP.mk 0 0 0)

def jC (p_0 : aN) (person_1 : Int) : Option Bool :=
    (qC p_0 person_1).bind fun r2 =>
    (bif r2.2.2 then (some (decide (0 ≤ person_1))) else (some false)).bind fun b4 =>
    some b4

def qM (again0 : Int → Option Bool) (i_101 : Int) (p_101 : aN) : Option Bool :=
    again0 (w64 (i_101 + 1))

def qN (again0 : Int → Option Bool) (i_102 : Int) (p_102 : aN) : Option Bool :=
    qM again0 i_102 p_102

def fT (again0 : Int → Option Bool) (i_2 : Int) (p_2 : aN) : Nat → Int → Option Bool
  | 0, _ => none
  | k2 + 1, k_2 =>
    bif decide (k_2 < i_2) then ((idx p_2.Levies k_2).bind fun x7 =>
    (idx p_2.Levies i_2).bind fun x8 =>
    bif decide (x7.Person = x8.Person) then (some false)
    else ((fT again0 i_2 p_2 k2) (w64 (k_2 + 1))))
    else (qN again0 i_2 p_2)

def qP (again4 : Int → Option Bool) (i_105 : Int) (p_105 : aN) : Option Bool :=
    again4 (w64 (i_105 + 1))

def qQ (again4 : Int → Option Bool) (i_106 : Int) (p_106 : aN) : Option Bool :=
    qP again4 i_106 p_106

def fU (again4 : Int → Option Bool) (i_6 : Int) (p_6 : aN) (r_6 : dI) : Nat → Int → Option Bool
  | 0, _ => none
  | k6 + 1, k_6 =>
    bif decide (k_6 < i_6) then ((idx p_6.Rates k_6).bind fun x16 =>
    bif decide (x16.Person = r_6.Person) then (some false)
    else ((fU again4 i_6 p_6 r_6 k6) (w64 (k_6 + 1))))
    else (qQ again4 i_6 p_6)

def qO : Option Bool :=
    some true

def dP (p_4 : aN) : Nat → Int → Option Bool
  | 0, _ => none
  | k4 + 1, i_4 =>
    bif decide (i_4 < (p_4.Rates.length : Int)) then ((idx p_4.Rates i_4).bind fun x9 =>
    (jC p_4 x9.Person).bind fun r11 =>
    (bif !r11 then (some true) else ((dY x9.Num 1 10000).bind fun r12 =>
    some (!r12))).bind fun b13 =>
    (bif b13 then (some true) else ((dY x9.Den 1 10000).bind fun r14 =>
    some (!r14))).bind fun b15 =>
    bif b15 then (some false)
    else (fU (dP p_4 k4) i_4 p_4 x9 BIG 0))
    else (qO)

def kI (p_100 : aN) : Option Bool :=
    dP p_100 BIG 0

def dO (p_0 : aN) : Nat → Int → Option Bool
  | 0, _ => none
  | k0 + 1, i_0 =>
    bif decide (i_0 < (p_0.Levies.length : Int)) then ((idx p_0.Levies i_0).bind fun x2 =>
    (jC p_0 x2.Person).bind fun r3 =>
    (bif !r3 then (some true) else ((idx p_0.Levies i_0).bind fun x4 =>
    (dY x4.Mille 0 500).bind fun r5 =>
    some (!r5))).bind fun b6 =>
    bif b6 then (some false)
    else (fT (dO p_0 k0) i_0 p_0 BIG 0))
    else (kI p_0)

def mO (p_0 : aN) : Option Bool :=
    dO p_0 BIG 0

def qK (again0 : Int → Option Bool) (i_101 : Int) (p_101 : aN) : Option Bool :=
    again0 (w64 (i_101 + 1))

def qL (again0 : Int → Option Bool) (i_102 : Int) (p_102 : aN) : Option Bool :=
    qK again0 i_102 p_102

def fS (again0 : Int → Option Bool) (i_2 : Int) (p_2 : aN) (x_2 : aH) : Nat → Int → Option Bool
  | 0, _ => none
  | k2 + 1, k_2 =>
    bif decide (k_2 < i_2) then ((idx p_2.Items k_2).bind fun x13 =>
    (bif decide (x13.Id = x_2.Id) then ((idx p_2.Items k_2).bind fun x14 =>
    some (!decide (x14 = x_2))) else (some false)).bind fun b15 =>
    bif b15 then (some false)
    else ((fS again0 i_2 p_2 x_2 k2) (w64 (k_2 + 1))))
    else (qL again0 i_2 p_2)

def nJ (p_100 : aN) : Option Bool :=
    some (decide ((p_100.Items.length : Int) ≤ 40))

def dN (p_0 : aN) : Nat → Int → Option Bool
  | 0, _ => none
  | k0 + 1, i_0 =>
    bif decide (i_0 < (p_0.Items.length : Int)) then ((idx p_0.Items i_0).bind fun x2 =>
    (dY x2.Id 0 99).bind fun r4 =>
    (bif !r4 then (some true) else ((jC p_0 x2.Person).bind fun r5 =>
    some (!r5))).bind fun b6 =>
    (bif b6 then (some true) else ((bif decide (x2.Kind = 1) then ((dY x2.Amount 0 10000000).bind fun r7 =>
    some r7) else (some false)).bind fun b8 =>
    (bif b8 then (some true) else ((bif decide (x2.Kind = 2) then ((dY x2.Amount 0 30).bind fun r9 =>
    some r9) else (some false)).bind fun b10 =>
    some b10)).bind fun b11 =>
    some (!b11))).bind fun b12 =>
    bif b12 then (some false)
    else (fS (dN p_0 k0) i_0 p_0 x2 BIG 0))
    else (nJ p_0)

def mN (p_0 : aN) : Option Bool :=
    dN p_0 BIG 0

def pR (p_100 : aN) : Option Int :=
    (bif !decide ((p_100.Prizes.length : Int) = (w64 (p_100.Tree.Rounds + 1))) then (some true) else ((dY p_100.Daily 0 100000).bind fun r9 =>
    some (!r9))).bind fun b10 =>
    bif b10 then (some 100)
    else ((kH p_100).bind fun r11 =>
    (bif !r11 then (some true) else ((mO p_100).bind fun r12 =>
    some (!r12))).bind fun b13 =>
    bif b13 then (some 101)
    else ((mN p_100).bind fun r14 =>
    bif !r14 then (some 102)
    else (some 0)))

def iC (p_0 : aN) : Nat → Int → Option Int
  | 0, _ => none
  | k0 + 1, i_0 =>
    bif decide (i_0 < (p_0.Prizes.length : Int)) then ((idx p_0.Prizes i_0).bind fun x3 =>
    (dY x3 0 10000000).bind fun r4 =>
    (bif !r4 then (some true) else ((bif decide (0 < i_0) then ((idx p_0.Prizes i_0).bind fun x5 =>
    (idx p_0.Prizes (w64 (i_0 - 1))).bind fun x6 =>
    some (decide (x5 < x6))) else (some false)).bind fun b7 =>
    some b7)).bind fun b8 =>
    bif b8 then (some 100)
    else ((iC p_0 k0) (w64 (i_0 + 1))))
    else (pR p_0)

def mZ (p_0 : aN) : Option Int :=
    (fG p_0.Tree p_0.Slips).bind fun r2 =>
    bif !decide (r2 = 0) then (some r2)
    else (iC p_0 BIG 0)

def mY (p_0 : aN) : Option Bool :=
    (mX p_0).bind fun r2 =>
    (bif !r2 then ((mZ p_0).bind fun r3 =>
    some (decide (r3 = 0))) else (some false)).bind fun b4 =>
    some b4

def nN : Option aN :=
    some (aN.mk (aR.mk 2 ([1, 2, 3, 4])) ([(aG.mk 1 0 0 1 0)]) ([100, 300, 1001]) 40 ([(bP.mk 1 11 12), (bP.mk 2 21 22), (bP.mk 3 31 (-1)), (bP.mk 4 41 (-1))]) ([(eG.mk 11 250)]) ([(dI.mk 21 3 2), (dI.mk 22 1 3)]) ([(aH.mk 1 1 21 30), (aH.mk 2 2 11 2), (aH.mk 3 1 31 160)]))

def fY (n_0 : Int) (low_1 : Int) (high_2 : Int) : Option Bool :=
    (bif decide (low_1 ≤ n_0) then (some (decide (n_0 ≤ high_2))) else (some false)).bind fun b1 =>
    some b1

def uT : Option Bool :=
    some true

def iX (t21_0 : List Int) (t22_0 : Int) (t_0 : aR) : Nat → Int → (List (Int × Int)) → Option Bool
  | 0, _, _ => none
  | k0 + 1, t23_0, o19_0 =>
    bif decide (t23_0 < t22_0) then ((idx t21_0 t23_0).bind fun x6 =>
    bif decide (x6 = (-1)) then ((idx t_0.Slots (aOm t23_0 1)).bind fun x7 =>
    bif decide (x7 = (-1)) then (some false)
    else ((iX t21_0 t22_0 t_0 k0) (w64 (t23_0 + 1)) o19_0))
    else ((bif decide (1 < (cX x6 0 (gO x6 (w64 ((cX x6 0 o19_0) + 1)) o19_0))) then (some true) else ((fY x6 0 999).bind fun r8 =>
    some (!r8))).bind fun b9 =>
    bif b9 then (some false)
    else ((iX t21_0 t22_0 t_0 k0) (w64 (t23_0 + 1)) (gO x6 (w64 ((cX x6 0 o19_0) + 1)) o19_0))))
    else (uT)

def pA (t_0 : aR) : Option Bool :=
    (fY t_0.Rounds 1 5).bind fun r2 =>
    (bif !r2 then (some true) else ((chk (decide (0 ≤ t_0.Rounds))).bind fun u3 =>
    some (!decide ((t_0.Slots.length : Int) = (w64 (1 * 2 ^ (min t_0.Rounds.toNat 64))))))).bind fun b4 =>
    bif b4 then (some false)
    else (iX t_0.Slots (t_0.Slots.length : Int) t_0 BIG 0 ([] : List (Int × Int)))

def nG : Option Int :=
    some (-1)

def fH (s_0 : List aG) (f_0 : aG → Option Bool) (t7_0 : Int) : Nat → Int → Option Int
  | 0, _ => none
  | k0 + 1, t8_0 =>
    bif decide (t8_0 < t7_0) then ((idx s_0 t8_0).bind fun x1 =>
    (f_0 x1).bind fun r2 =>
    bif r2 then (some t8_0)
    else ((fH s_0 f_0 t7_0 k0) (w64 (t8_0 + 1))))
    else (nG)

def jI (s_0 : List aG) (f_1 : aG → Option Bool) : Option Int :=
    fH s_0 f_1 (s_0.length : Int) BIG 0

def iI (s_0 : List aG) (f_1 : aG → Option Bool) : Option Bool :=
    (jI s_0 f_1).bind fun r1 =>
    some (decide (0 ≤ r1))

def pI (m_0 : aF) (t_1 : aR) : Option Bool :=
    (fY m_0.round 0 (w64 (t_1.Rounds - 1))).bind fun r3 =>
    (bif r3 then ((chk (decide (0 ≤ (w64 (m_0.round + 1))))).bind fun u4 =>
    (fY m_0.place 0 (w64 (((t_1.Slots.length : Int).fdiv (2 ^ (min (w64 (m_0.round + 1)).toNat 64))) - 1))).bind fun r5 =>
    some r5) else (some false)).bind fun b6 =>
    some b6

def tD : Option Int :=
    some (-1)

def jF (s_0 : List Int) (v_0 : Int) (t7_0 : Int) : Nat → Int → Option Int
  | 0, _ => none
  | k0 + 1, t8_0 =>
    bif decide (t8_0 < t7_0) then ((idx s_0 t8_0).bind fun x1 =>
    bif decide (v_0 = x1) then (some t8_0)
    else ((jF s_0 v_0 t7_0 k0) (w64 (t8_0 + 1))))
    else (tD)

def gY (s_0 : List Int) (v_1 : Int) : Option Int :=
    jF s_0 v_1 (s_0.length : Int) BIG 0

def dH (s_0 : List Int) (v_1 : Int) : Option Bool :=
    (gY s_0 v_1).bind fun r1 =>
    some (decide (0 ≤ r1))

def rC (t_0 : aR) (s_1 : aG) : Option Bool :=
    (fY s_1.Player 0 999).bind fun r3 =>
    bif !r3 then (some false)
    else (bif decide (s_1.Kind = 5) then ((bif decide (s_1.Round = 0) then ((fY s_1.Place 0 (w64 ((t_0.Slots.length : Int) - 1))).bind fun r4 =>
    some r4) else (some false)).bind fun b5 =>
    (bif b5 then ((fY s_1.Old 0 999).bind fun r6 =>
    some r6) else (some false)).bind fun b7 =>
    some b7)
    else ((fY s_1.Kind 1 4).bind fun r9 =>
    (bif !r9 then (some true) else (some (!decide (s_1.Old = 0)))).bind fun b10 =>
    (bif b10 then (some true) else ((pI (aF.mk s_1.Round s_1.Place) t_0).bind fun r11 =>
    some (!r11))).bind fun b12 =>
    bif b12 then (some false)
    else ((bif decide (0 < s_1.Round) then (some true) else ((sub t_0.Slots (w64 (2 * s_1.Place)) (w64 ((w64 (2 * s_1.Place)) + 2))).bind fun x13 =>
    (dH x13 (-1)).bind fun r14 =>
    some (!r14))).bind fun b15 =>
    some b15)))

def pB (s_0 : aG) (c_1 : aR) : Option Bool :=
    (rC c_1 s_0).bind fun r2 =>
    some (!r2)

def slices_Clone_int (s_0 : List Int) : Option ((List Int)) :=
    (app 8 ([] : List Int) s_0).bind fun x5 =>
    some x5

def oP (againQ : (aG × Bool) → Prop) (d_100 : List Int) (d_100_2 : aR) (lucky_100 : List (aG × Int)) (o6_100 : aG) : Prop :=
    againQ ((aG.mk 0 0 0 0 0), false)

def iR (againQ : (aG × Bool) → Prop) (slot_0 : Int) (d_0 : List Int) (d_0_2 : aR) (lucky_0 : List (aG × Int)) : Nat → aG → (List (aG × Int)) → Prop
  | 0, _, _ => False
  | k0 + 1, o6_0, left_0 =>
    aPk left_0 (oP againQ d_0 d_0_2 lucky_0 o6_0)
    (fun p5 left6 =>
    nb (bif decide (p5.1.Place = slot_0) then ((idx d_0 slot_0).bind fun x8 =>
    some (decide (p5.1.Old = x8))) else (some false)) fun b9 =>
    bif b9 then (againQ (p5.1, true))
    else ((iR againQ slot_0 d_0 d_0_2 lucky_0 k0) o6_0 left6))

def iW (d_0_Tree : aR) (d_0_players : List Int) (lucky_1 : List (aG × Int)) (slot_2 : Int) (Q : (aG × Bool) → Prop) : Prop :=
    aDb lucky_1 fun left3 =>
    iR Q slot_2 d_0_players d_0_Tree lucky_1 BIG (aG.mk 0 0 0 0 0) left3

def mJ (againQ : (Bool × (List Int) × (List (aG × Int))) → Prop) (again0 : Int → (List Int) → (List (aG × Int)) → (List Int) → Prop) (t19_101 : Int) (t20_101 : Int) (d_101 : List Int) (d_101_2 : aR) (lucky_101 : List (aG × Int)) (o14_101 : List Int) : Prop :=
    again0 (w64 (t20_101 + 1)) d_101 lucky_101 o14_101

def mK (againQ : (Bool × (List Int) × (List (aG × Int))) → Prop) (again0 : Int → (List Int) → (List (aG × Int)) → (List Int) → Prop) (t19_102 : Int) (t20_102 : Int) (d_102 : List Int) (d_102_2 : aR) (lucky_102 : List (aG × Int)) (o14_102 : List Int) : Prop :=
    mJ againQ again0 t19_102 t20_102 d_102 d_102_2 lucky_102 o14_102

def eL (againQ : (Bool × (List Int) × (List (aG × Int))) → Prop) (again0 : Int → (List Int) → (List (aG × Int)) → (List Int) → Prop) (i_2 : Int) (t19_2 : Int) (t20_2 : Int) (d_2_2 : aR) : Nat → Bool → (List Int) → (List (aG × Int)) → aG → (List Int) → Prop
  | 0, _, _, _, _, _ => False
  | k2 + 1, isv_2, d_2, lucky_2, s_2, o14_2 =>
    bif isv_2 then (nb (dH o14_2 s_2.Player) fun r5 =>
    bif r5 then (againQ (false, d_2, lucky_2))
    else (nb (idx d_2 i_2) fun x6 =>
    nb (app 8 o14_2 ([s_2.Player])) fun x7 =>
    iW d_2_2 (d_2.set i_2.toNat s_2.Player) (qX s_2 lucky_2) i_2 fun r10 =>
    (eL againQ again0 i_2 t19_2 t20_2 d_2_2 k2) r10.2 (d_2.set i_2.toNat s_2.Player) (qX s_2 lucky_2) r10.1 x7))
    else (mK againQ again0 t19_2 t20_2 d_2 d_2_2 lucky_2 o14_2)

def mI (againQ : (Bool × (List Int) × (List (aG × Int))) → Prop) (d_100 : List Int) (d_100_2 : aR) (lucky_100 : List (aG × Int)) : Prop :=
    againQ (decide ((lucky_100.length : Int) = 0), d_100, lucky_100)

def dB (againQ : (Bool × (List Int) × (List (aG × Int))) → Prop) (t19_0 : Int) (d_0_2 : aR) : Nat → Int → (List Int) → (List (aG × Int)) → (List Int) → Prop
  | 0, _, _, _, _ => False
  | k0 + 1, t20_0, d_0, lucky_0, o14_0 =>
    bif decide (t20_0 < t19_0) then (iW d_0_2 d_0 lucky_0 t20_0 fun r3 =>
    eL againQ (dB againQ t19_0 d_0_2 k0) t20_0 t19_0 t20_0 d_0_2 BIG r3.2 d_0 lucky_0 r3.1 o14_0)
    else (mI againQ d_0 d_0_2 lucky_0)

def lT (d_0_Tree : aR) (d_0_players : List Int) (lucky_1 : List (aG × Int)) (Q : (Bool × (List Int) × (List (aG × Int))) → Prop) : Prop :=
    nb (slices_Clone_int d_0_Tree.Slots) fun r1 =>
    dB Q (d_0_players.length : Int) d_0_Tree BIG 0 d_0_players lucky_1 r1

def oQ (round_0 : Int) (slot_1 : Int) : Option aF :=
    (chk (decide (0 ≤ (w64 (round_0 + 1))))).bind fun u2 =>
    some (aF.mk round_0 (slot_1.fdiv (2 ^ (min (w64 (round_0 + 1)).toNat 64))))

def rX (d_100 : List Int) (d_100_2 : List (aF × Int)) (d_100_3 : aR) : Option (Bool × (List (aF × Int))) :=
    some (true, d_100_2)

def iS (slot_0 : Int) (t12_0 : Int) (d_0 : List Int) (d_0_3 : aR) : Nat → Int → (List (aF × Int)) → Option (Bool × (List (aF × Int)))
  | 0, _, _ => none
  | k0 + 1, t13_0, d_0_2 =>
    bif decide (t13_0 < t12_0) then ((oQ t13_0 slot_0).bind fun r1 =>
    (bif dZ r1 d_0_2 then ((idx d_0 slot_0).bind fun x3 =>
    some (!decide ((cX r1 0 d_0_2) = x3))) else (some false)).bind fun b4 =>
    bif b4 then (some (false, d_0_2))
    else ((idx d_0 slot_0).bind fun x5 =>
    (iS slot_0 t12_0 d_0 d_0_3 k0) (w64 (t13_0 + 1)) (gO r1 x5 d_0_2)))
    else (rX d_0 d_0_2 d_0_3)

def lZ (d_0_Tree : aR) (d_0_players : List Int) (d_0_won : List (aF × Int)) (slot_1 : Int) (round_2 : Int) : Option (Bool × (List (aF × Int))) :=
    iS slot_1 (w64 (round_2 + 1)) d_0_players d_0_Tree BIG 0 d_0_won

def vJ (againQ : ((Option bB) × Bool) → Prop) (o22_104 : List Int) (o23_104 : List (aF × Int)) (o25_104 : aR) : Prop :=
    againQ ((some (bB.mk o25_104 o22_104 o23_104)), true)

def kS (againQ : ((Option bB) × Bool) → Prop) (o22_4 : List Int) (o25_4 : aR) (o27_4 : List (aF × aG)) : Nat → (List (aF × Int)) → (List (aF × aG)) → Prop
  | 0, _, _ => False
  | k4 + 1, o23_4, left_4 =>
    aPk left_4 (vJ againQ o22_4 o23_4 o25_4)
    (fun p23 left24 =>
    nb (gY o22_4 p23.2.Player) fun r27 =>
    nb (bif decide (r27 < 0) then (some true) else ((oQ p23.1.round r27).bind fun r28 =>
    some (!decide (r28 = p23.1)))) fun b29 =>
    bif b29 then (againQ ((none : Option bB), false))
    else (nb (lZ o25_4 o22_4 o23_4 r27 p23.1.round) fun r31 =>
    bif !r31.1 then (againQ ((none : Option bB), false))
    else ((kS againQ o22_4 o25_4 o27_4 k4) r31.2 left24)))

def rW (againQ : ((Option bB) × Bool) → Prop) (o22_102 : List Int) (o23_102 : List (aF × Int)) (o25_102 : aR) (o27_102 : List (aF × aG)) : Prop :=
    aDb o27_102 fun left21 =>
    kS againQ o22_102 o25_102 o27_102 BIG o23_102 left21

def iQ (againQ : ((Option bB) × Bool) → Prop) (t72_2 : Int) (o22_2 : List Int) (o25_2 : aR) (o27_2 : List (aF × aG)) : Nat → Int → (List (aF × Int)) → Prop
  | 0, _, _ => False
  | k2 + 1, t73_2, o23_2 =>
    bif decide (t73_2 < t72_2) then (nb (idx o22_2 t73_2) fun x16 =>
    bif decide (x16 = (-1)) then (nb (lZ o25_2 o22_2 o23_2 (aOm t73_2 1) 0) fun r17 =>
    (iQ againQ t72_2 o22_2 o25_2 o27_2 k2) (w64 (t73_2 + 1)) r17.2)
    else ((iQ againQ t72_2 o22_2 o25_2 o27_2 k2) (w64 (t73_2 + 1)) o23_2))
    else (rW againQ o22_2 o23_2 o25_2 o27_2)

def rV (againQ : ((Option bB) × Bool) → Prop) (o22_100 : List Int) (o23_100 : List (aF × Int)) (o25_100 : aR) (o26_100 : List (aG × Int)) (o27_100 : List (aF × aG)) : Prop :=
    lT o25_100 o22_100 o26_100 fun r13 =>
    bif !r13.1 then (againQ ((none : Option bB), false))
    else (iQ againQ (r13.2.1.length : Int) r13.2.1 o25_100 o27_100 BIG 0 o23_100)

def iP (againQ : ((Option bB) × Bool) → Prop) (t28_0 : List aG) (t29_0 : Int) (o22_0 : List Int) (o23_0 : List (aF × Int)) (o25_0 : aR) : Nat → Int → (List (aG × Int)) → (List (aF × aG)) → Prop
  | 0, _, _, _ => False
  | k0 + 1, t30_0, o26_0, o27_0 =>
    bif decide (t30_0 < t29_0) then (nb (idx t28_0 t30_0) fun x8 =>
    bif decide (x8.Kind = 5) then ((iP againQ t28_0 t29_0 o22_0 o23_0 o25_0 k0) (w64 (t30_0 + 1)) (gO x8 (w64 ((cX x8 0 o26_0) + 1)) o26_0) o27_0)
    else (nb (bif dZ (aF.mk x8.Round x8.Place) o27_0 then (some (!decide ((cX (aF.mk x8.Round x8.Place) (aG.mk 0 0 0 0 0) o27_0) = x8))) else (some false)) fun b12 =>
    bif b12 then (againQ ((none : Option bB), false))
    else ((iP againQ t28_0 t29_0 o22_0 o23_0 o25_0 k0) (w64 (t30_0 + 1)) o26_0 (gO (aF.mk x8.Round x8.Place) x8 o27_0))))
    else (rV againQ o22_0 o23_0 o25_0 o26_0 o27_0)

def sI (t_0 : aR) (l_1 : List aG) (Q : ((Option bB) × Bool) → Prop) : Prop :=
    nb (slices_Clone_int t_0.Slots) fun r2 =>
    iP Q l_1 (l_1.length : Int) r2 ([] : List (aF × Int)) t_0 BIG 0 ([] : List (aG × Int)) ([] : List (aF × aG))

def lU (t_0 : aR) (l_1 : List aG) (Q : ((Option bB) × Int) → Prop) : Prop :=
    nb (pA t_0) fun r2 =>
    bif !r2 then (Q ((none : Option bB), 70))
    else (nb (bif decide (60 < (l_1.length : Int)) then (some true) else ((iI l_1 (fun y3 => pB y3 t_0)).bind fun r4 =>
    some r4)) fun b5 =>
    bif b5 then (Q ((none : Option bB), 71))
    else (sI t_0 l_1 fun r6 =>
    bif !r6.2 then (Q ((none : Option bB), 72))
    else (Q (r6.1, 0))))

def sH (t_0 : aR) (l_1 : List aG) (Q : Int → Prop) : Prop :=
    lU t_0 l_1 fun r2 =>
    Q r2.2

def sJ (x_0 : Int) : Option Bool :=
    some (!decide (x_0 = x_0))

def tO (x_0 : Int) (y_1 : Int) : Option Bool :=
    (sJ x_0).bind fun r1 =>
    (bif r1 then ((sJ y_1).bind fun r2 =>
    some (!r2)) else (some false)).bind fun b3 =>
    (bif b3 then (some true) else (some (decide (x_0 < y_1)))).bind fun b4 =>
    some b4

def vB : Option Bool :=
    some true

def gZ (x_0 : List Int) : Nat → Int → Option Bool
  | 0, _ => none
  | k0 + 1, i_0 =>
    bif decide (0 < i_0) then ((idx x_0 i_0).bind fun x1 =>
    (idx x_0 (w64 (i_0 - 1))).bind fun x2 =>
    (tO x1 x2).bind fun r3 =>
    bif r3 then (some false)
    else ((gZ x_0 k0) (w64 (i_0 - 1))))
    else (vB)

def mQ (x_0 : List Int) : Option Bool :=
    gZ x_0 BIG (w64 ((x_0.length : Int) - 1))

def gH (n_0 : Int) (low_1 : Int) (high_2 : Int) : Option Bool :=
    (bif decide (low_1 ≤ n_0) then (some (decide (n_0 ≤ high_2))) else (some false)).bind fun b1 =>
    some b1

def sQ (p_0 : aN) : Option Bool :=
    (bif !decide ((p_0.Prizes.length : Int) = (w64 (p_0.Tree.Rounds + 1))) then (some true) else ((mQ p_0.Prizes).bind fun r2 =>
    some (!r2))).bind fun b3 =>
    (bif b3 then (some true) else ((gH p_0.Daily 0 100000).bind fun r4 =>
    some (!r4))).bind fun b5 =>
    bif b5 then (some false)
    else ((idx p_0.Prizes 0).bind fun x6 =>
    (bif decide (0 ≤ x6) then ((idx p_0.Prizes (w64 ((p_0.Prizes.length : Int) - 1))).bind fun x7 =>
    some (decide (x7 ≤ 10000000))) else (some false)).bind fun b8 =>
    some b8)

def slices_Sort_int (x : List Int) : Option (List Int) := if x.length < 4611686018427387904 then some (eY x) else none

def sE (out_100 : List Int) : Option ((List Int)) :=
    (slices_Sort_int out_100).bind fun r9 =>
    some r9

def jQ (t7_0 : List bP) (t8_0 : Int) : Nat → Int → (List Int) → Option ((List Int))
  | 0, _, _ => none
  | k0 + 1, t9_0, out_0 =>
    bif decide (t9_0 < t8_0) then ((idx t7_0 t9_0).bind fun x3 =>
    (app 8 out_0 ([x3.One])).bind fun x5 =>
    bif !decide (x3.Two = (-1)) then ((app 8 x5 ([x3.Two])).bind fun x7 =>
    (jQ t7_0 t8_0 k0) (w64 (t9_0 + 1)) x7)
    else ((jQ t7_0 t8_0 k0) (w64 (t9_0 + 1)) x5))
    else (sE out_0)

def oF (p_0 : aN) : Option ((List Int)) :=
    jQ p_0.Teams (p_0.Teams.length : Int) BIG 0 ([] : List Int)

def rO (again0 : Int → (List Int) → Option ((List Int))) (k_102 : Int) (s_102 : List Int) : Option ((List Int)) :=
    (chk (decide (0 ≤ k_102) && decide (k_102 ≤ (s_102.length : Int)))).bind fun u9 =>
    (chk (decide (k_102.toNat ≤ s_102.length))).bind fun u10 =>
    (chk (decide (0 ≤ k_102))).bind fun u11 =>
    some (s_102.take k_102.toNat)

def gL (again0 : Int → (List Int) → Option ((List Int))) (s2_2 : Int) : Nat → Int → Int → (List Int) → Option ((List Int))
  | 0, _, _, _ => none
  | k2 + 1, k_2, k2_2, s_2 =>
    bif decide (k2_2 < ((s_2.drop s2_2.toNat).length : Int)) then ((idx (s_2.drop s2_2.toNat) k2_2).bind fun x5 =>
    (idx (s_2.drop s2_2.toNat) (w64 (k2_2 - 1))).bind fun x6 =>
    bif !decide (x5 = x6) then ((idx (s_2.drop s2_2.toNat) k2_2).bind fun x7 =>
    (idx s_2 k_2).bind fun x8 =>
    (gL again0 s2_2 k2) (w64 (k_2 + 1)) (w64 (k2_2 + 1)) (s_2.set k_2.toNat x7))
    else ((gL again0 s2_2 k2) k_2 (w64 (k2_2 + 1)) s_2))
    else (rO again0 k_2 s_2)

def rN (again0 : Int → (List Int) → Option ((List Int))) (k_101 : Int) (s_101 : List Int) : Option ((List Int)) :=
    again0 (w64 (k_101 + 1)) s_101

def rM (s_100 : List Int) : Option ((List Int)) :=
    some s_100

def fD : Nat → Int → (List Int) → Option ((List Int))
  | 0, _, _ => none
  | k0 + 1, k_0, s_0 =>
    bif decide (k_0 < (s_0.length : Int)) then ((idx s_0 k_0).bind fun x2 =>
    (idx s_0 (w64 (k_0 - 1))).bind fun x3 =>
    bif decide (x2 = x3) then ((chk (decide (0 ≤ k_0) && decide (k_0 ≤ (s_0.length : Int)))).bind fun u4 =>
    gL (fD k0) k_0 BIG k_0 1 s_0)
    else (rN (fD k0) k_0 s_0))
    else (rM s_0)

def slices_Compact_int (s_0 : List Int) : Option ((List Int)) :=
    bif decide ((s_0.length : Int) < 2) then (some s_0)
    else (fD BIG 1 s_0)

def oD (l_0 : List Int) : Option Bool :=
    (slices_Clone_int l_0).bind fun r1 =>
    (slices_Compact_int r1).bind fun r3 =>
    some (decide ((r3.length : Int) = (l_0.length : Int)))

def uE : Option Bool :=
    some true

def gF (people_0 : List Int) (ofv_0 : eG → Option (Int × Bool)) (t12_0 : List eG) (t13_0 : Int) : Nat → Int → (List Int) → Option Bool
  | 0, _, _ => none
  | k0 + 1, t14_0, done_0 =>
    bif decide (t14_0 < t13_0) then ((idx t12_0 t14_0).bind fun x2 =>
    (ofv_0 x2).bind fun r4 =>
    (bif !r4.2 then (some true) else ((dH people_0 r4.1).bind fun r5 =>
    some (!r5))).bind fun b6 =>
    (bif b6 then (some true) else ((dH done_0 r4.1).bind fun r7 =>
    some r7)).bind fun b8 =>
    bif b8 then (some false)
    else ((app 8 done_0 ([r4.1])).bind fun x9 =>
    (gF people_0 ofv_0 t12_0 t13_0 k0) (w64 (t14_0 + 1)) x9))
    else (uE)

def lM (people_0 : List Int) (l_1 : List eG) (of_2 : eG → Option (Int × Bool)) : Option Bool :=
    gF people_0 of_2 l_1 (l_1.length : Int) BIG 0 ([] : List Int)

def kX (l_0 : eG) : Option (Int × Bool) :=
    (gH l_0.Mille 0 500).bind fun r2 =>
    some (l_0.Person, r2)

def uF : Option Bool :=
    some true

def gG (people_0 : List Int) (ofv_0 : dI → Option (Int × Bool)) (t12_0 : List dI) (t13_0 : Int) : Nat → Int → (List Int) → Option Bool
  | 0, _, _ => none
  | k0 + 1, t14_0, done_0 =>
    bif decide (t14_0 < t13_0) then ((idx t12_0 t14_0).bind fun x2 =>
    (ofv_0 x2).bind fun r4 =>
    (bif !r4.2 then (some true) else ((dH people_0 r4.1).bind fun r5 =>
    some (!r5))).bind fun b6 =>
    (bif b6 then (some true) else ((dH done_0 r4.1).bind fun r7 =>
    some r7)).bind fun b8 =>
    bif b8 then (some false)
    else ((app 8 done_0 ([r4.1])).bind fun x9 =>
    (gG people_0 ofv_0 t12_0 t13_0 k0) (w64 (t14_0 + 1)) x9))
    else (uF)

def lN (people_0 : List Int) (l_1 : List dI) (of_2 : dI → Option (Int × Bool)) : Option Bool :=
    gG people_0 of_2 l_1 (l_1.length : Int) BIG 0 ([] : List Int)

def kY (r_0 : dI) : Option (Int × Bool) :=
    (gH r_0.Num 1 10000).bind fun r2 =>
    (bif r2 then ((gH r_0.Den 1 10000).bind fun r3 =>
    some r3) else (some false)).bind fun b4 =>
    some (r_0.Person, b4)

def oN (people_104 : List Int) (p_104 : aN) : Option Bool :=
    (lM people_104 p_104.Levies (fun y24 => kX y24)).bind fun r25 =>
    (bif r25 then ((lN people_104 p_104.Rates (fun y26 => kY y26)).bind fun r27 =>
    some r27) else (some false)).bind fun b28 =>
    some b28

def kA (people_4 : List Int) (t76_4 : List aG) (t77_4 : Int) (p_4 : aN) (players_4 : List Int) : Nat → Int → Option Bool
  | 0, _ => none
  | k4 + 1, t78_4 =>
    bif decide (t78_4 < t77_4) then ((idx t76_4 t78_4).bind fun x20 =>
    (bif decide (x20.Kind = 5) then ((dH players_4 x20.Player).bind fun r22 =>
    some (!r22)) else (some false)).bind fun b23 =>
    bif b23 then (some false)
    else ((kA people_4 t76_4 t77_4 p_4 players_4 k4) (w64 (t78_4 + 1))))
    else (oN people_4 p_4)

def oM (people_102 : List Int) (p_102 : aN) (players_102 : List Int) : Option Bool :=
    kA people_102 p_102.Slips (p_102.Slips.length : Int) p_102 players_102 BIG 0

def iZ (people_2 : List Int) (t60_2 : List Int) (t61_2 : Int) (p_2 : aN) (players_2 : List Int) : Nat → Int → Option Bool
  | 0, _ => none
  | k2 + 1, t62_2 =>
    bif decide (t62_2 < t61_2) then ((idx t60_2 t62_2).bind fun x17 =>
    (bif !decide (x17 = (-1)) then ((dH players_2 x17).bind fun r18 =>
    some (!r18)) else (some false)).bind fun b19 =>
    bif b19 then (some false)
    else ((iZ people_2 t60_2 t61_2 p_2 players_2 k2) (w64 (t62_2 + 1))))
    else (oM people_2 p_2 players_2)

def oL (p_100 : aN) (players_100 : List Int) : Option Bool :=
    (slices_Sort_int players_100).bind fun r12 =>
    (oF p_100).bind fun r13 =>
    (oD r12).bind fun r14 =>
    (bif !r14 then (some true) else ((oD r13).bind fun r15 =>
    some (!r15))).bind fun b16 =>
    bif b16 then (some false)
    else (iZ r13 p_100.Tree.Slots (p_100.Tree.Slots.length : Int) p_100 r12 BIG 0)

def jZ (t18_0 : List bP) (t19_0 : Int) (p_0 : aN) : Nat → Int → (List Int) → Option Bool
  | 0, _, _ => none
  | k0 + 1, t20_0, players_0 =>
    bif decide (t20_0 < t19_0) then ((idx t18_0 t20_0).bind fun x3 =>
    (gH x3.Player 0 999).bind fun r5 =>
    (bif !r5 then (some true) else ((gH x3.One 0 999).bind fun r6 =>
    some (!r6))).bind fun b7 =>
    (bif b7 then (some true) else ((gH x3.Two (-1) 999).bind fun r8 =>
    some (!r8))).bind fun b9 =>
    bif b9 then (some false)
    else ((app 8 players_0 ([x3.Player])).bind fun x10 =>
    (jZ t18_0 t19_0 p_0 k0) (w64 (t20_0 + 1)) x10))
    else (oL p_0 players_0)

def rJ (p_0 : aN) : Option Bool :=
    bif decide (64 < (p_0.Teams.length : Int)) then (some false)
    else (jZ p_0.Teams (p_0.Teams.length : Int) p_0 BIG 0 ([] : List Int))

def lP (s_0 : List aH) : Option ((List aH)) :=
    (app 32 ([] : List aH) s_0).bind fun x5 =>
    some x5

def gC (again0 : Int → (List aH) → Option ((List aH))) (a_101 : Int) (b_101 : Int) (cmp_101 : aH → aH → Option Int) (i_101 : Int) (data_101 : List aH) : Option ((List aH)) :=
    again0 (w64 (i_101 + 1)) data_101

def gD (again0 : Int → (List aH) → Option ((List aH))) (a_102 : Int) (b_102 : Int) (cmp_102 : aH → aH → Option Int) (i_102 : Int) (data_102 : List aH) : Option ((List aH)) :=
    gC again0 a_102 b_102 cmp_102 i_102 data_102

def cW (again0 : Int → (List aH) → Option ((List aH))) (a_2 : Int) (b_2 : Int) (cmp_2 : aH → aH → Option Int) (i_2 : Int) : Nat → Int → (List aH) → Option ((List aH))
  | 0, _, _ => none
  | k2 + 1, j_2, data_2 =>
    (bif decide (a_2 < j_2) then ((idx data_2 j_2).bind fun x1 =>
    (idx data_2 (w64 (j_2 - 1))).bind fun x2 =>
    (cmp_2 x1 x2).bind fun r3 =>
    some (decide (r3 < 0))) else (some false)).bind fun b4 =>
    bif b4 then ((idx data_2 (w64 (j_2 - 1))).bind fun x5 =>
    (idx data_2 j_2).bind fun x6 =>
    (idx data_2 j_2).bind fun x7 =>
    (idx (data_2.set j_2.toNat x5) (w64 (j_2 - 1))).bind fun x8 =>
    (cW again0 a_2 b_2 cmp_2 i_2 k2) (w64 (j_2 - 1)) ((data_2.set j_2.toNat x5).set (w64 (j_2 - 1)).toNat x6))
    else (gD again0 a_2 b_2 cmp_2 i_2 data_2)

def gB (data_100 : List aH) : Option ((List aH)) :=
    some data_100

def cF (a_0 : Int) (b_0 : Int) (cmp_0 : aH → aH → Option Int) : Nat → Int → (List aH) → Option ((List aH))
  | 0, _, _ => none
  | k0 + 1, i_0, data_0 =>
    bif decide (i_0 < b_0) then (cW (cF a_0 b_0 cmp_0 k0) a_0 b_0 cmp_0 i_0 BIG i_0 data_0)
    else (gB data_0)

def dM (data_0 : List aH) (a_1 : Int) (b_2 : Int) (cmp_3 : aH → aH → Option Int) : Option ((List aH)) :=
    cF a_1 b_2 cmp_3 BIG (w64 (a_1 + 1)) data_0

def jV (data_100 : List aH) : Option ((List aH)) :=
    some data_100

def dX (a_0 : Int) (b_0 : Int) (n_0 : Int) : Nat → Int → (List aH) → Option ((List aH))
  | 0, _, _ => none
  | k0 + 1, i_0, data_0 =>
    bif decide (i_0 < n_0) then ((idx data_0 (w64 (b_0 + i_0))).bind fun x1 =>
    (idx data_0 (w64 (a_0 + i_0))).bind fun x2 =>
    (idx data_0 (w64 (a_0 + i_0))).bind fun x3 =>
    (idx (data_0.set (w64 (a_0 + i_0)).toNat x1) (w64 (b_0 + i_0))).bind fun x4 =>
    (dX a_0 b_0 n_0 k0) (w64 (i_0 + 1)) ((data_0.set (w64 (a_0 + i_0)).toNat x1).set (w64 (b_0 + i_0)).toNat x2))
    else (jV data_0)

def eJ (data_0 : List aH) (a_1 : Int) (b_2 : Int) (n_3 : Int) (cmp_4 : aH → aH → Option Int) : Option ((List aH)) :=
    dX a_1 b_2 n_3 BIG 0 data_0

def kZ (m_100 : Int) (cmp_100 : aH → aH → Option Int) (i_100 : Int) (data_100 : List aH) : Option ((List aH)) :=
    (eJ data_100 (w64 (m_100 - i_100)) m_100 i_100 cmp_100).bind fun r3 =>
    some r3

def dD (m_0 : Int) (cmp_0 : aH → aH → Option Int) : Nat → Int → Int → (List aH) → Option ((List aH))
  | 0, _, _, _ => none
  | k0 + 1, i_0, j_0, data_0 =>
    bif !decide (i_0 = j_0) then (bif decide (j_0 < i_0) then ((eJ data_0 (w64 (m_0 - i_0)) m_0 j_0 cmp_0).bind fun r1 =>
    (dD m_0 cmp_0 k0) (w64 (i_0 - j_0)) j_0 r1)
    else ((eJ data_0 (w64 (m_0 - i_0)) (w64 ((w64 (m_0 + j_0)) - i_0)) i_0 cmp_0).bind fun r2 =>
    (dD m_0 cmp_0 k0) i_0 (w64 (j_0 - i_0)) r2))
    else (kZ m_0 cmp_0 i_0 data_0)

def fR (data_0 : List aH) (a_1 : Int) (m_2 : Int) (b_3 : Int) (cmp_4 : aH → aH → Option Int) : Option ((List aH)) :=
    dD m_2 cmp_4 BIG (w64 (m_2 - a_1)) (w64 (b_3 - m_2)) data_0

def kC (againR : (List aH) → Int → Int → Int → Option ((List aH))) (data_102 : List aH) : Option ((List aH)) :=
    some data_102

def eA (againR : (List aH) → Int → Int → Int → Option ((List aH))) (i_2 : Int) : Nat → Int → (List aH) → Option ((List aH))
  | 0, _, _ => none
  | k2 + 1, k_2, data_2 =>
    bif decide (k_2 < (w64 (i_2 - 1))) then ((idx data_2 (w64 (k_2 + 1))).bind fun x4 =>
    (idx data_2 k_2).bind fun x5 =>
    (idx data_2 k_2).bind fun x6 =>
    (idx (data_2.set k_2.toNat x4) (w64 (k_2 + 1))).bind fun x7 =>
    (eA againR i_2 k2) (w64 (k_2 + 1)) ((data_2.set k_2.toNat x4).set (w64 (k_2 + 1)).toNat x5))
    else (kC againR data_2)

def iE (againR : (List aH) → Int → Int → Int → Option ((List aH))) (a_100 : Int) (i_100 : Int) (data_100 : List aH) : Option ((List aH)) :=
    eA againR i_100 BIG a_100 data_100

def cS (againR : (List aH) → Int → Int → Int → Option ((List aH))) (a_0 : Int) (cmp_0 : aH → aH → Option Int) (data_0 : List aH) : Nat → Int → Int → Option ((List aH))
  | 0, _, _ => none
  | k0 + 1, i_0, j_0 =>
    bif decide (i_0 < j_0) then ((idx data_0 (w64 ((IntKind.u64.wrap (w64 (i_0 + j_0))).fdiv (2 ^ (min (1 : Int).toNat 64))))).bind fun x1 =>
    (idx data_0 a_0).bind fun x2 =>
    (cmp_0 x1 x2).bind fun r3 =>
    bif decide (r3 < 0) then ((cS againR a_0 cmp_0 data_0 k0) (w64 ((w64 ((IntKind.u64.wrap (w64 (i_0 + j_0))).fdiv (2 ^ (min (1 : Int).toNat 64)))) + 1)) j_0)
    else ((cS againR a_0 cmp_0 data_0 k0) i_0 (w64 ((IntKind.u64.wrap (w64 (i_0 + j_0))).fdiv (2 ^ (min (1 : Int).toNat 64))))))
    else (iE againR a_0 i_0 data_0)

def kD (againR : (List aH) → Int → Int → Int → Option ((List aH))) (data_106 : List aH) : Option ((List aH)) :=
    some data_106

def eB (againR : (List aH) → Int → Int → Int → Option ((List aH))) (i_6 : Int) : Nat → Int → (List aH) → Option ((List aH))
  | 0, _, _ => none
  | k6 + 1, k_6, data_6 =>
    bif decide (i_6 < k_6) then ((idx data_6 (w64 (k_6 - 1))).bind fun x11 =>
    (idx data_6 k_6).bind fun x12 =>
    (idx data_6 k_6).bind fun x13 =>
    (idx (data_6.set k_6.toNat x11) (w64 (k_6 - 1))).bind fun x14 =>
    (eB againR i_6 k6) (w64 (k_6 - 1)) ((data_6.set k_6.toNat x11).set (w64 (k_6 - 1)).toNat x12))
    else (kD againR data_6)

def iF (againR : (List aH) → Int → Int → Int → Option ((List aH))) (m_104 : Int) (i_104 : Int) (data_104 : List aH) : Option ((List aH)) :=
    eB againR i_104 BIG m_104 data_104

def cT (againR : (List aH) → Int → Int → Int → Option ((List aH))) (m_4 : Int) (cmp_4 : aH → aH → Option Int) (data_4 : List aH) : Nat → Int → Int → Option ((List aH))
  | 0, _, _ => none
  | k4 + 1, i_4, j_4 =>
    bif decide (i_4 < j_4) then ((idx data_4 m_4).bind fun x8 =>
    (idx data_4 (w64 ((IntKind.u64.wrap (w64 (i_4 + j_4))).fdiv (2 ^ (min (1 : Int).toNat 64))))).bind fun x9 =>
    (cmp_4 x8 x9).bind fun r10 =>
    bif !(decide (r10 < 0)) then ((cT againR m_4 cmp_4 data_4 k4) (w64 ((w64 ((IntKind.u64.wrap (w64 (i_4 + j_4))).fdiv (2 ^ (min (1 : Int).toNat 64)))) + 1)) j_4)
    else ((cT againR m_4 cmp_4 data_4 k4) i_4 (w64 ((IntKind.u64.wrap (w64 (i_4 + j_4))).fdiv (2 ^ (min (1 : Int).toNat 64))))))
    else (iF againR m_4 i_4 data_4)

def dG (againR : (List aH) → Int → Int → Int → Option ((List aH))) (a_108 : Int) (m_108 : Int) (b_108 : Int) (cmp_108 : aH → aH → Option Int) (mid_108 : Int) (n_108 : Int) (start_108 : Int) (data_108 : List aH) : Option ((List aH)) :=
    (bif decide (start_108 < m_108) then (some (decide (m_108 < (w64 (n_108 - start_108))))) else (some false)).bind fun b18 =>
    bif b18 then ((fR data_108 start_108 m_108 (w64 (n_108 - start_108)) cmp_108).bind fun r19 =>
    (bif decide (a_108 < start_108) then (some (decide (start_108 < mid_108))) else (some false)).bind fun b20 =>
    bif b20 then ((againR r19 a_108 start_108 mid_108).bind fun r21 =>
    (bif decide (mid_108 < (w64 (n_108 - start_108))) then (some (decide ((w64 (n_108 - start_108)) < b_108))) else (some false)).bind fun b22 =>
    bif b22 then ((againR r21 mid_108 (w64 (n_108 - start_108)) b_108).bind fun r23 =>
    some r23)
    else (some r21))
    else ((bif decide (mid_108 < (w64 (n_108 - start_108))) then (some (decide ((w64 (n_108 - start_108)) < b_108))) else (some false)).bind fun b24 =>
    bif b24 then ((againR r19 mid_108 (w64 (n_108 - start_108)) b_108).bind fun r25 =>
    some r25)
    else (some r19)))
    else ((bif decide (a_108 < start_108) then (some (decide (start_108 < mid_108))) else (some false)).bind fun b26 =>
    bif b26 then ((againR data_108 a_108 start_108 mid_108).bind fun r27 =>
    (bif decide (mid_108 < (w64 (n_108 - start_108))) then (some (decide ((w64 (n_108 - start_108)) < b_108))) else (some false)).bind fun b28 =>
    bif b28 then ((againR r27 mid_108 (w64 (n_108 - start_108)) b_108).bind fun r29 =>
    some r29)
    else (some r27))
    else ((bif decide (mid_108 < (w64 (n_108 - start_108))) then (some (decide ((w64 (n_108 - start_108)) < b_108))) else (some false)).bind fun b30 =>
    bif b30 then ((againR data_108 mid_108 (w64 (n_108 - start_108)) b_108).bind fun r31 =>
    some r31)
    else (some data_108)))

def cC (againR : (List aH) → Int → Int → Int → Option ((List aH))) (a_8 : Int) (m_8 : Int) (b_8 : Int) (cmp_8 : aH → aH → Option Int) (mid_8 : Int) (n_8 : Int) (p_8 : Int) (data_8 : List aH) : Nat → Int → Int → Option ((List aH))
  | 0, _, _ => none
  | k8 + 1, start_8, r_8 =>
    bif decide (start_8 < r_8) then ((idx data_8 (w64 (p_8 - (w64 ((IntKind.u64.wrap (w64 (start_8 + r_8))).fdiv (2 ^ (min (1 : Int).toNat 64))))))).bind fun x15 =>
    (idx data_8 (w64 ((IntKind.u64.wrap (w64 (start_8 + r_8))).fdiv (2 ^ (min (1 : Int).toNat 64))))).bind fun x16 =>
    (cmp_8 x15 x16).bind fun r17 =>
    bif !(decide (r17 < 0)) then ((cC againR a_8 m_8 b_8 cmp_8 mid_8 n_8 p_8 data_8 k8) (w64 ((w64 ((IntKind.u64.wrap (w64 (start_8 + r_8))).fdiv (2 ^ (min (1 : Int).toNat 64)))) + 1)) r_8)
    else ((cC againR a_8 m_8 b_8 cmp_8 mid_8 n_8 p_8 data_8 k8) start_8 (w64 ((IntKind.u64.wrap (w64 (start_8 + r_8))).fdiv (2 ^ (min (1 : Int).toNat 64))))))
    else (dG againR a_8 m_8 b_8 cmp_8 mid_8 n_8 start_8 data_8)

def bE (cmp_4 : aH → aH → Option Int) : Nat → (List aH) → Int → Int → Int → Option ((List aH))
  | 0, _, _, _, _ => none
  | kr + 1, data_0, a_1, m_2, b_3 =>
    bif decide ((w64 (m_2 - a_1)) = 1) then (cS (bE cmp_4 kr) a_1 cmp_4 data_0 BIG m_2 b_3)
    else (bif decide ((w64 (b_3 - m_2)) = 1) then (cT (bE cmp_4 kr) m_2 cmp_4 data_0 BIG a_1 m_2)
    else (bif decide ((w64 ((IntKind.u64.wrap (w64 (a_1 + b_3))).fdiv (2 ^ (min (1 : Int).toNat 64)))) < m_2) then (cC (bE cmp_4 kr) a_1 m_2 b_3 cmp_4 (w64 ((IntKind.u64.wrap (w64 (a_1 + b_3))).fdiv (2 ^ (min (1 : Int).toNat 64)))) (w64 ((w64 ((IntKind.u64.wrap (w64 (a_1 + b_3))).fdiv (2 ^ (min (1 : Int).toNat 64)))) + m_2)) (w64 ((w64 ((w64 ((IntKind.u64.wrap (w64 (a_1 + b_3))).fdiv (2 ^ (min (1 : Int).toNat 64)))) + m_2)) - 1)) data_0 BIG (w64 ((w64 ((w64 ((IntKind.u64.wrap (w64 (a_1 + b_3))).fdiv (2 ^ (min (1 : Int).toNat 64)))) + m_2)) - b_3)) (w64 ((IntKind.u64.wrap (w64 (a_1 + b_3))).fdiv (2 ^ (min (1 : Int).toNat 64)))))
    else (cC (bE cmp_4 kr) a_1 m_2 b_3 cmp_4 (w64 ((IntKind.u64.wrap (w64 (a_1 + b_3))).fdiv (2 ^ (min (1 : Int).toNat 64)))) (w64 ((w64 ((IntKind.u64.wrap (w64 (a_1 + b_3))).fdiv (2 ^ (min (1 : Int).toNat 64)))) + m_2)) (w64 ((w64 ((w64 ((IntKind.u64.wrap (w64 (a_1 + b_3))).fdiv (2 ^ (min (1 : Int).toNat 64)))) + m_2)) - 1)) data_0 BIG a_1 m_2)))

def iV (data_0 : List aH) (a_1 : Int) (m_2 : Int) (b_3 : Int) (cmp_4 : aH → aH → Option Int) : Option ((List aH)) := bE cmp_4 BIG data_0 a_1 m_2 b_3

def gJ (again2 : Int → (List aH) → Option ((List aH))) (n_103 : Int) (cmp_103 : aH → aH → Option Int) (blockSize_103 : Int) (data_103 : List aH) : Option ((List aH)) :=
    again2 blockSize_103 data_103

def lC (again2 : Int → (List aH) → Option ((List aH))) (n_104 : Int) (cmp_104 : aH → aH → Option Int) (blockSize_104 : Int) (a_104 : Int) (data_104 : List aH) : Option ((List aH)) :=
    bif decide ((w64 (a_104 + blockSize_104)) < n_104) then ((iV data_104 a_104 (w64 (a_104 + blockSize_104)) n_104 cmp_104).bind fun r4 =>
    gJ again2 n_104 cmp_104 (w64 (blockSize_104 * 2)) r4)
    else (gJ again2 n_104 cmp_104 (w64 (blockSize_104 * 2)) data_104)

def eI (again2 : Int → (List aH) → Option ((List aH))) (n_4 : Int) (cmp_4 : aH → aH → Option Int) (blockSize_4 : Int) : Nat → Int → Int → (List aH) → Option ((List aH))
  | 0, _, _, _ => none
  | k4 + 1, a_4, b_4, data_4 =>
    bif decide (b_4 ≤ n_4) then ((iV data_4 a_4 (w64 (a_4 + blockSize_4)) b_4 cmp_4).bind fun r3 =>
    (eI again2 n_4 cmp_4 blockSize_4 k4) b_4 (w64 (b_4 + (w64 (2 * blockSize_4)))) r3)
    else (lC again2 n_4 cmp_4 blockSize_4 a_4 data_4)

def lB (data_102 : List aH) : Option ((List aH)) :=
    some data_102

def dE (n_2 : Int) (cmp_2 : aH → aH → Option Int) : Nat → Int → (List aH) → Option ((List aH))
  | 0, _, _ => none
  | k2 + 1, blockSize_2, data_2 =>
    bif decide (blockSize_2 < n_2) then (eI (dE n_2 cmp_2 k2) n_2 cmp_2 blockSize_2 BIG 0 (w64 (2 * blockSize_2)) data_2)
    else (lB data_2)

def lA (n_100 : Int) (cmp_100 : aH → aH → Option Int) (blockSize_100 : Int) (a_100 : Int) (data_100 : List aH) : Option ((List aH)) :=
    (dM data_100 a_100 n_100 cmp_100).bind fun r2 =>
    dE n_100 cmp_100 BIG blockSize_100 r2

def eH (n_0 : Int) (cmp_0 : aH → aH → Option Int) (blockSize_0 : Int) : Nat → Int → Int → (List aH) → Option ((List aH))
  | 0, _, _, _ => none
  | k0 + 1, a_0, b_0, data_0 =>
    bif decide (b_0 ≤ n_0) then ((dM data_0 a_0 b_0 cmp_0).bind fun r1 =>
    (eH n_0 cmp_0 blockSize_0 k0) b_0 (w64 (b_0 + blockSize_0)) r1)
    else (lA n_0 cmp_0 blockSize_0 a_0 data_0)

def jM (data_0 : List aH) (n_1 : Int) (cmp_2 : aH → aH → Option Int) : Option ((List aH)) :=
    eH n_1 cmp_2 20 BIG 0 20 data_0

def gV (x_0 : List aH) (cmp_1 : aH → aH → Option Int) : Option ((List aH)) :=
    (jM x_0 (x_0.length : Int) cmp_1).bind fun r1 =>
    some r1

def rK (a_0 : aH) (b_1 : aH) : Option Int :=
    some (w64 (a_0.Id - b_1.Id))

def oJ (again0 : Int → (List aH) → Option ((List aH))) (k_102 : Int) (s_102 : List aH) : Option ((List aH)) :=
    (chk (decide (0 ≤ k_102) && decide (k_102 ≤ (s_102.length : Int)))).bind fun u9 =>
    (chk (decide (k_102.toNat ≤ s_102.length))).bind fun u10 =>
    (chk (decide (0 ≤ k_102))).bind fun u11 =>
    some (s_102.take k_102.toNat)

def fB (again0 : Int → (List aH) → Option ((List aH))) (s2_2 : Int) : Nat → Int → Int → (List aH) → Option ((List aH))
  | 0, _, _, _ => none
  | k2 + 1, k_2, k2_2, s_2 =>
    bif decide (k2_2 < ((s_2.drop s2_2.toNat).length : Int)) then ((idx (s_2.drop s2_2.toNat) k2_2).bind fun x5 =>
    (idx (s_2.drop s2_2.toNat) (w64 (k2_2 - 1))).bind fun x6 =>
    bif !decide (x5 = x6) then ((idx (s_2.drop s2_2.toNat) k2_2).bind fun x7 =>
    (idx s_2 k_2).bind fun x8 =>
    (fB again0 s2_2 k2) (w64 (k_2 + 1)) (w64 (k2_2 + 1)) (s_2.set k_2.toNat x7))
    else ((fB again0 s2_2 k2) k_2 (w64 (k2_2 + 1)) s_2))
    else (oJ again0 k_2 s_2)

def oI (again0 : Int → (List aH) → Option ((List aH))) (k_101 : Int) (s_101 : List aH) : Option ((List aH)) :=
    again0 (w64 (k_101 + 1)) s_101

def oH (s_100 : List aH) : Option ((List aH)) :=
    some s_100

def dQ : Nat → Int → (List aH) → Option ((List aH))
  | 0, _, _ => none
  | k0 + 1, k_0, s_0 =>
    bif decide (k_0 < (s_0.length : Int)) then ((idx s_0 k_0).bind fun x2 =>
    (idx s_0 (w64 (k_0 - 1))).bind fun x3 =>
    bif decide (x2 = x3) then ((chk (decide (0 ≤ k_0) && decide (k_0 ≤ (s_0.length : Int)))).bind fun u4 =>
    fB (dQ k0) k_0 BIG k_0 1 s_0)
    else (oI (dQ k0) k_0 s_0))
    else (oH s_0)

def jY (s_0 : List aH) : Option ((List aH)) :=
    bif decide ((s_0.length : Int) < 2) then (some s_0)
    else (dQ BIG 1 s_0)

def zE (o7_100 : List aH) : Option ((List aH) × Bool) :=
    (jY o7_100).bind fun r11 =>
    some (r11, true)

def kP (o7_0 : List aH) : Nat → Int → Option ((List aH) × Bool)
  | 0, _ => none
  | k0 + 1, i_0 =>
    bif decide (i_0 < (o7_0.length : Int)) then ((idx o7_0 i_0).bind fun x6 =>
    (idx o7_0 (w64 (i_0 - 1))).bind fun x7 =>
    (bif decide (x6.Id = x7.Id) then ((idx o7_0 i_0).bind fun x8 =>
    (idx o7_0 (w64 (i_0 - 1))).bind fun x9 =>
    some (!decide (x8 = x9))) else (some false)).bind fun b10 =>
    bif b10 then (some (([] : List aH), false))
    else ((kP o7_0 k0) (w64 (i_0 + 1))))
    else (zE o7_0)

def oV (all_0 : List aH) : Option ((List aH) × Bool) :=
    (lP all_0).bind fun r1 =>
    (gV r1 (fun y3 y4 => rK y3 y4)).bind fun r5 =>
    kP r5 BIG 1

def rB (p_100 : aN) : Option Bool :=
    (oV p_100.Items).bind fun r19 =>
    (bif r19.2 then (some (decide ((p_100.Items.length : Int) ≤ 40))) else (some false)).bind fun b20 =>
    some b20

def iY (people_0 : List Int) (t12_0 : List aH) (t13_0 : Int) (p_0 : aN) : Nat → Int → Option Bool
  | 0, _ => none
  | k0 + 1, t14_0 =>
    bif decide (t14_0 < t13_0) then ((idx t12_0 t14_0).bind fun x3 =>
    bif decide (x3.Kind = 2) then ((bif !decide (x3.Kind = 1) then (some (!decide (x3.Kind = 2))) else (some false)).bind fun b5 =>
    (bif b5 then (some true) else ((gH x3.Id 0 99).bind fun r6 =>
    some (!r6))).bind fun b7 =>
    (bif b7 then (some true) else ((dH people_0 x3.Person).bind fun r8 =>
    some (!r8))).bind fun b9 =>
    (bif b9 then (some true) else ((gH x3.Amount 0 30).bind fun r10 =>
    some (!r10))).bind fun b11 =>
    bif b11 then (some false)
    else ((iY people_0 t12_0 t13_0 p_0 k0) (w64 (t14_0 + 1))))
    else ((bif !decide (x3.Kind = 1) then (some (!decide (x3.Kind = 2))) else (some false)).bind fun b12 =>
    (bif b12 then (some true) else ((gH x3.Id 0 99).bind fun r13 =>
    some (!r13))).bind fun b14 =>
    (bif b14 then (some true) else ((dH people_0 x3.Person).bind fun r15 =>
    some (!r15))).bind fun b16 =>
    (bif b16 then (some true) else ((gH x3.Amount 0 10000000).bind fun r17 =>
    some (!r17))).bind fun b18 =>
    bif b18 then (some false)
    else ((iY people_0 t12_0 t13_0 p_0 k0) (w64 (t14_0 + 1)))))
    else (rB p_0)

def rI (p_0 : aN) : Option Bool :=
    (oF p_0).bind fun r2 =>
    iY r2 p_0.Items (p_0.Items.length : Int) p_0 BIG 0

def tE (a0 : aR) (a1 : List aG) : Option Int := fG a0 a1

def qZ (p_0 : aN) : Option Int :=
    (tE p_0.Tree p_0.Slips).bind fun r2 =>
    bif !decide (r2 = 0) then (some r2)
    else ((sQ p_0).bind fun r3 =>
    bif !r3 then (some 100)
    else ((rJ p_0).bind fun r4 =>
    bif !r4 then (some 101)
    else ((rI p_0).bind fun r5 =>
    bif !r5 then (some 102)
    else (some 0))))

def aFe (n_102 : Int) : Option (Int × Int) :=
    some (n_102, 0)

def mF (t44_2 : List Int) (t45_2 : Int) (p_2 : aN) : Nat → Int → Int → Option (Int × Int)
  | 0, _, _ => none
  | k2 + 1, n_2, t46_2 =>
    bif decide (t46_2 < t45_2) then ((idx t44_2 t46_2).bind fun x6 =>
    bif decide (x6 = (-1)) then ((idx p_2.Prizes 0).bind fun x7 =>
    (mF t44_2 t45_2 p_2 k2) (w64 (n_2 - x7)) (w64 (t46_2 + 1)))
    else ((mF t44_2 t45_2 p_2 k2) n_2 (w64 (t46_2 + 1))))
    else (aFe n_2)

def vF (n_100 : Int) (p_100 : aN) : Option (Int × Int) :=
    mF p_100.Tree.Slots (p_100.Tree.Slots.length : Int) p_100 BIG n_100 0

def mE (t23_0 : Int) (p_0 : aN) : Nat → Int → Int → Option (Int × Int)
  | 0, _, _ => none
  | k0 + 1, n_0, t24_0 =>
    bif decide (t24_0 < t23_0) then ((idx p_0.Prizes t24_0).bind fun x4 =>
    (chk (decide (0 ≤ (w64 ((w64 (p_0.Tree.Rounds - 1)) - t24_0))))).bind fun u5 =>
    (mE t23_0 p_0 k0) (w64 (n_0 + (w64 (x4 * 2 ^ (min (w64 ((w64 (p_0.Tree.Rounds - 1)) - t24_0)).toNat 64))))) (w64 (t24_0 + 1)))
    else (vF n_0 p_0)

def sD (p_0 : aN) : Option (Int × Int) :=
    (qZ p_0).bind fun r2 =>
    bif !decide (r2 = 0) then (some (0, r2))
    else ((idx p_0.Prizes p_0.Tree.Rounds).bind fun x3 =>
    mE p_0.Tree.Rounds p_0 BIG x3 0)

def rP : Option Int :=
    some (-1)

def fI (s_0 : List bP) (f_0 : bP → Option Bool) (t7_0 : Int) : Nat → Int → Option Int
  | 0, _ => none
  | k0 + 1, t8_0 =>
    bif decide (t8_0 < t7_0) then ((idx s_0 t8_0).bind fun x1 =>
    (f_0 x1).bind fun r2 =>
    bif r2 then (some t8_0)
    else ((fI s_0 f_0 t7_0 k0) (w64 (t8_0 + 1))))
    else (rP)

def lS (s_0 : List bP) (f_1 : bP → Option Bool) : Option Int :=
    fI s_0 f_1 (s_0.length : Int) BIG 0

def sP (t_0 : bP) (c_1 : Int) : Option Bool :=
    (bif decide (t_0.One = c_1) then (some true) else ((bif decide (t_0.Two = c_1) then (some (!decide (t_0.Two = (-1)))) else (some false)).bind fun b2 =>
    some b2)).bind fun b3 =>
    some b3

def xJ (againQ : ((Option bB) × (List Int) × Int) → Prop) (d_100 : Option bB) (slots_100 : List Int) : Prop :=
    againQ (d_100, slots_100, 0)

def mW (againQ : ((Option bB) × (List Int) × Int) → Prop) (t20_0 : List Int) (t21_0 : Int) : Nat → (Option bB) → Int → (List Int) → Prop
  | 0, _, _, _ => False
  | k0 + 1, d_0, t22_0, slots_0 =>
    bif decide (t22_0 < t21_0) then (nb (idx t20_0 t22_0) fun x5 =>
    nb (fY x5 0 999) fun r6 =>
    bif !r6 then (againQ ((none : Option bB), ([] : List Int), 1))
    else (nb (d_0) fun x8 =>
    nb (gY x8.players x5) fun r9 =>
    nb (app 8 slots_0 ([r9])) fun x10 =>
    (mW againQ t20_0 t21_0 k0) d_0 (w64 (t22_0 + 1)) x10))
    else (xJ againQ d_0 slots_0)

def qJ (t_0 : aR) (l_1 : List aG) (players_2 : List Int) (Q : ((Option bB) × (List Int) × Int) → Prop) : Prop :=
    lU t_0 l_1 fun r3 =>
    bif !decide (r3.2 = 0) then (Q ((none : Option bB), ([] : List Int), r3.2))
    else (mW Q players_2 (players_2.length : Int) BIG r3.1 0 ([] : List Int))

def sX (d_100 : bB) : Option Int :=
    some d_100.Tree.Rounds

def jB (d_0 : bB) (slot_0 : Int) (t12_0 : Int) : Nat → Int → Option Int
  | 0, _ => none
  | k0 + 1, t13_0 =>
    bif decide (t13_0 < t12_0) then ((oQ t13_0 slot_0).bind fun r1 =>
    (bif !(dZ r1 d_0.won) then (some true) else ((idx d_0.players slot_0).bind fun x2 =>
    some (!decide ((cX r1 0 d_0.won) = x2)))).bind fun b3 =>
    bif b3 then (some t13_0)
    else ((jB d_0 slot_0 t12_0 k0) (w64 (t13_0 + 1))))
    else (sX d_0)

def pH (d_0 : bB) (slot_1 : Int) : Option Int :=
    jB d_0 slot_1 d_0.Tree.Rounds BIG 0

def sW (d_100 : bB) : Option Int :=
    some d_100.Tree.Rounds

def jA (d_0 : bB) (slot_0 : Int) (t12_0 : Int) : Nat → Int → Option Int
  | 0, _ => none
  | k0 + 1, t13_0 =>
    bif decide (t13_0 < t12_0) then ((oQ t13_0 slot_0).bind fun r1 =>
    (bif dZ r1 d_0.won then ((idx d_0.players slot_0).bind fun x2 =>
    some (!decide ((cX r1 0 d_0.won) = x2))) else (some false)).bind fun b3 =>
    bif b3 then (some t13_0)
    else ((jA d_0 slot_0 t12_0 k0) (w64 (t13_0 + 1))))
    else (sW d_0)

def pG (d_0 : bB) (slot_1 : Int) : Option Int :=
    jA d_0 slot_1 d_0.Tree.Rounds BIG 0

def pZ (t_0 : aR) (l_1 : List aG) (player_2 : Int) (Q : (cG × Int) → Prop) : Prop :=
    qJ t_0 l_1 ([player_2]) fun r3 =>
    bif !decide (r3.2.2 = 0) then (Q ((cG.mk 0 0), r3.2.2))
    else (nb (idx r3.2.1 0) fun x4 =>
    bif decide (x4 < 0) then (Q ((cG.mk 0 0), 3))
    else (nb (r3.1) fun x5 =>
    nb (idx r3.2.1 0) fun x6 =>
    nb (pH x5 x6) fun r7 =>
    nb (idx r3.2.1 0) fun x8 =>
    nb (pG x5 x8) fun r9 =>
    Q ((cG.mk r7 r9), 0)))

def pY (prize_0 : Int) (c_1 : bP) (c_2 : Int) : Option Int :=
    bif decide (c_1.Two = (-1)) then (some prize_0)
    else (bif decide (c_1.One = c_2) then (some (w64 ((w64 (prize_0 + 1)).tdiv 2)))
    else (some (w64 (prize_0.tdiv 2))))

def yO : Option Int :=
    some (-1)

def nS (player_0 : Int) (d_0 : aS) : Nat → Int → Option Int
  | 0, _ => none
  | k0 + 1, s_0 =>
    bif decide (s_0 < (d_0.Slots.length : Int)) then ((idx d_0.Slots s_0).bind fun x2 =>
    bif decide (x2 = player_0) then (some s_0)
    else ((nS player_0 d_0 k0) (w64 (s_0 + 1))))
    else (yO)

def wN (d_0 : aS) (player_1 : Int) : Option Int :=
    nS player_1 d_0 BIG 0

def sZ (n_100 : Int) : Option Int :=
    some n_100

def mM (slot_0 : Int) (t_0 : aR) (d_0 : aS) : Nat → Int → Option Int
  | 0, _ => none
  | k0 + 1, n_0 =>
    (bif decide (n_0 < t_0.Rounds) then ((idx d_0.Must n_0).bind fun x3 =>
    (chk (decide (0 ≤ (IntKind.u64.wrap (w64 (n_0 + 1)))))).bind fun u4 =>
    (idx x3 (slot_0.fdiv (2 ^ (min (IntKind.u64.wrap (w64 (n_0 + 1))).toNat 64)))).bind fun x5 =>
    (idx d_0.Slots slot_0).bind fun x6 =>
    some (decide (x5 = x6))) else (some false)).bind fun b7 =>
    bif b7 then ((mM slot_0 t_0 d_0 k0) (w64 (n_0 + 1)))
    else (sZ n_0)

def vL (t_0 : aR) (d_1 : aS) (slot_2 : Int) : Option Int :=
    mM slot_2 t_0 d_1 BIG 0

def tS (n_100 : Int) : Option Int :=
    some n_100

def nQ (slot_0 : Int) (t_0 : aR) (d_0 : aS) : Nat → Int → Option Int
  | 0, _ => none
  | k0 + 1, n_0 =>
    (bif decide (n_0 < t_0.Rounds) then ((idx d_0.Must n_0).bind fun x3 =>
    (chk (decide (0 ≤ (IntKind.u64.wrap (w64 (n_0 + 1)))))).bind fun u4 =>
    (idx x3 (slot_0.fdiv (2 ^ (min (IntKind.u64.wrap (w64 (n_0 + 1))).toNat 64)))).bind fun x5 =>
    (bif decide (x5 = (-2)) then (some true) else ((idx d_0.Must n_0).bind fun x6 =>
    (chk (decide (0 ≤ (IntKind.u64.wrap (w64 (n_0 + 1)))))).bind fun u7 =>
    (idx x6 (slot_0.fdiv (2 ^ (min (IntKind.u64.wrap (w64 (n_0 + 1))).toNat 64)))).bind fun x8 =>
    (idx d_0.Slots slot_0).bind fun x9 =>
    some (decide (x8 = x9)))).bind fun b10 =>
    some b10) else (some false)).bind fun b11 =>
    bif b11 then ((nQ slot_0 t_0 d_0 k0) (w64 (n_0 + 1)))
    else (tS n_0)

def wM (t_0 : aR) (d_1 : aS) (slot_2 : Int) : Option Int :=
    nQ slot_2 t_0 d_1 BIG 0

def jN (t_0 : aR) (l_1 : List aG) (player_2 : Int) : Option (cG × Int) :=
    (fG t_0 l_1).bind fun r3 =>
    bif !decide (r3 = 0) then (some ((cG.mk 0 0), r3))
    else ((eX player_2 0 999).bind fun r4 =>
    bif !r4 then (some ((cG.mk 0 0), 1))
    else ((eT t_0 l_1).bind fun r5 =>
    (wN r5.1 player_2).bind fun r7 =>
    bif decide (r7 < 0) then (some ((cG.mk 0 0), 3))
    else ((vL t_0 r5.1 r7).bind fun r8 =>
    (wM t_0 r5.1 r7).bind fun r9 =>
    some ((cG.mk r8 r9), 0))))

def rA (a0 : aR) (a1 : List aG) (a2 : Int) : Option (cG × Int) := jN a0 a1 a2

def sU (p_0 : aN) (person_1 : Int) : Option (cG × Bool) :=
    (lS p_0.Teams (fun y4 => sP y4 person_1)).bind fun r5 =>
    bif decide (r5 < 0) then (some ((cG.mk 0 0), false))
    else ((idx p_0.Teams r5).bind fun x6 =>
    (rA p_0.Tree p_0.Slips x6.Player).bind fun r8 =>
    bif !decide (r8.2 = 0) then (some ((cG.mk 0 0), true))
    else ((idx p_0.Prizes r8.1.Low).bind fun x10 =>
    (pY x10 x6 person_1).bind fun r11 =>
    (idx p_0.Prizes r8.1.High).bind fun x12 =>
    (pY x12 x6 person_1).bind fun r13 =>
    some ((cG.mk r11 r13), true)))

def uZ (p_0 : aN) (person_1 : Int) : Option (cG × Int) :=
    (qZ p_0).bind fun r3 =>
    bif !decide (r3 = 0) then (some ((cG.mk 0 0), r3))
    else ((sU p_0 person_1).bind fun r4 =>
    bif !r4.2 then (some ((cG.mk 0 0), 1))
    else (some (r4.1, 0)))

def vH (paid_105 : Int) (num_105 : Int) (den_105 : Int) (o4_105 : aY) (b_105 : aY) : Option aY :=
    (chk (!decide (den_105 = 0))).bind fun u13 =>
    (chk (!decide (num_105 = 0))).bind fun u14 =>
    some (aY.mk b_105.Person b_105.Gross b_105.Tax b_105.Daily b_105.Fines b_105.Debt (w64 ((w64 (paid_105 * num_105)).tdiv den_105)) (w64 ((w64 ((w64 ((w64 ((w64 ((w64 (paid_105 * num_105)).tdiv den_105)) * den_105)) + num_105)) - 1)).tdiv num_105)) (w64 (paid_105 - (w64 ((w64 ((w64 ((w64 ((w64 ((w64 (paid_105 * num_105)).tdiv den_105)) * den_105)) + num_105)) - 1)).tdiv num_105)))))

def mG (person_5 : Int) (paid_5 : Int) (t104_5 : List dI) (t105_5 : Int) (o4_5 : aY) (b_5 : aY) : Nat → Int → Int → Int → Option aY
  | 0, _, _, _ => none
  | k5 + 1, num_5, den_5, t106_5 =>
    bif decide (t106_5 < t105_5) then ((idx t104_5 t106_5).bind fun x11 =>
    bif decide (x11.Person = person_5) then ((mG person_5 paid_5 t104_5 t105_5 o4_5 b_5 k5) x11.Num x11.Den (w64 (t106_5 + 1)))
    else ((mG person_5 paid_5 t104_5 t105_5 o4_5 b_5 k5) num_5 den_5 (w64 (t106_5 + 1))))
    else (vH paid_5 num_5 den_5 o4_5 b_5)

def sO (person_102 : Int) (p_102 : aN) (o4_102 : aY) (b_102 : aY) : Option aY :=
    mG person_102 (max 0 (w64 ((w64 ((w64 (b_102.Gross + b_102.Daily)) - b_102.Tax)) - b_102.Fines))) p_102.Rates (p_102.Rates.length : Int) o4_102 (aY.mk b_102.Person b_102.Gross b_102.Tax b_102.Daily b_102.Fines (max 0 (w64 (-(w64 ((w64 ((w64 (b_102.Gross + b_102.Daily)) - b_102.Tax)) - b_102.Fines))))) b_102.Units b_102.Used b_102.Rest) BIG 1 1 0

def kO (person_2 : Int) (t55_2 : List aH) (t56_2 : Int) (p_2 : aN) (o4_2 : aY) : Nat → Int → aY → Option aY
  | 0, _, _ => none
  | k2 + 1, t57_2, b_2 =>
    bif decide (t57_2 < t56_2) then ((idx t55_2 t57_2).bind fun x9 =>
    bif !decide (x9.Person = person_2) then ((kO person_2 t55_2 t56_2 p_2 o4_2 k2) (w64 (t57_2 + 1)) b_2)
    else (bif decide (x9.Kind = 2) then ((kO person_2 t55_2 t56_2 p_2 o4_2 k2) (w64 (t57_2 + 1)) (aY.mk b_2.Person b_2.Gross b_2.Tax (w64 (b_2.Daily + (w64 (x9.Amount * p_2.Daily)))) b_2.Fines b_2.Debt b_2.Units b_2.Used b_2.Rest))
    else ((kO person_2 t55_2 t56_2 p_2 o4_2 k2) (w64 (t57_2 + 1)) (aY.mk b_2.Person b_2.Gross b_2.Tax b_2.Daily (w64 (b_2.Fines + x9.Amount)) b_2.Debt b_2.Units b_2.Used b_2.Rest))))
    else (sO person_2 p_2 o4_2 b_2)

def vG (person_100 : Int) (p_100 : aN) (o4_100 : aY) (b_100 : aY) : Option aY :=
    (oV p_100.Items).bind fun r8 =>
    kO person_100 r8.1 (r8.1.length : Int) p_100 o4_100 BIG 0 b_100

def kN (person_0 : Int) (t31_0 : List eG) (t32_0 : Int) (p_0 : aN) (o4_0 : aY) : Nat → Int → aY → Option aY
  | 0, _, _ => none
  | k0 + 1, t33_0, b_0 =>
    bif decide (t33_0 < t32_0) then ((idx t31_0 t33_0).bind fun x6 =>
    bif decide (x6.Person = person_0) then ((kN person_0 t31_0 t32_0 p_0 o4_0 k0) (w64 (t33_0 + 1)) (aY.mk b_0.Person b_0.Gross (w64 ((w64 (b_0.Gross * x6.Mille)).tdiv 1000)) b_0.Daily b_0.Fines b_0.Debt b_0.Units b_0.Used b_0.Rest))
    else ((kN person_0 t31_0 t32_0 p_0 o4_0 k0) (w64 (t33_0 + 1)) b_0))
    else (vG person_0 p_0 o4_0 b_0)

def uP (p_0 : aN) (person_1 : Int) : Option aY :=
    (sU p_0 person_1).bind fun r3 =>
    kN person_1 p_0.Levies (p_0.Levies.length : Int) p_0 (aY.mk 0 0 0 0 0 0 0 0 0) BIG 0 (aY.mk person_1 r3.1.Low 0 0 0 0 0 0 0)

def wW (p_0 : aN) (person_1 : Int) : Option (aY × Int) :=
    (uZ p_0 person_1).bind fun r3 =>
    bif !decide (r3.2 = 0) then (some ((aY.mk 0 0 0 0 0 0 0 0 0), r3.2))
    else ((uP p_0 person_1).bind fun r5 =>
    some (r5, 0))

def aDe (out_100 : List aY) : Option ((List aY) × Int) :=
    some (out_100, 0)

def nE (t14_0 : List Int) (t15_0 : Int) (p_0 : aN) : Nat → Int → (List aY) → Option ((List aY) × Int)
  | 0, _, _ => none
  | k0 + 1, t16_0, out_0 =>
    bif decide (t16_0 < t15_0) then ((idx t14_0 t16_0).bind fun x5 =>
    (uP p_0 x5).bind fun r6 =>
    (app 72 out_0 ([r6])).bind fun x7 =>
    (nE t14_0 t15_0 p_0 k0) (w64 (t16_0 + 1)) x7)
    else (aDe out_0)

def uY (p_0 : aN) : Option ((List aY) × Int) :=
    (qZ p_0).bind fun r2 =>
    bif !decide (r2 = 0) then (some (([] : List aY), r2))
    else ((oF p_0).bind fun r4 =>
    nE r4 (r4.length : Int) p_0 BIG 0 ([] : List aY))

def aDf (o2_100 : aY) (sum_100 : aY) : Option (aY × Int) :=
    some (sum_100, 0)

def nF (t19_0 : List aY) (t20_0 : Int) (o2_0 : aY) : Nat → Int → aY → Option (aY × Int)
  | 0, _, _ => none
  | k0 + 1, t21_0, sum_0 =>
    bif decide (t21_0 < t20_0) then ((idx t19_0 t21_0).bind fun x5 =>
    (nF t19_0 t20_0 o2_0 k0) (w64 (t21_0 + 1)) (aY.mk sum_0.Person (w64 (sum_0.Gross + x5.Gross)) (w64 (sum_0.Tax + x5.Tax)) (w64 (sum_0.Daily + x5.Daily)) (w64 (sum_0.Fines + x5.Fines)) (w64 (sum_0.Debt + x5.Debt)) (w64 (sum_0.Units + x5.Units)) (w64 (sum_0.Used + x5.Used)) (w64 (sum_0.Rest + x5.Rest))))
    else (aDf o2_0 sum_0)

def sT (p_0 : aN) : Option (aY × Int) :=
    (uY p_0).bind fun r3 =>
    bif !decide (r3.2 = 0) then (some ((aY.mk 0 0 0 0 0 0 0 0 0), r3.2))
    else (nF r3.1 (r3.1.length : Int) (aY.mk 0 0 0 0 0 0 0 0 0) BIG 0 (aY.mk (-1) 0 0 0 0 0 0 0 0))

def kT : Option Bool :=
    (nN).bind fun r1 =>
    (sD r1).bind fun r3 =>
    (wW r1 22).bind fun r4 =>
    (sT r1).bind fun r6 =>
    (bif decide (r3.2 = 0) then (some (decide (r4.2 = 0))) else (some false)).bind fun b8 =>
    (bif b8 then (some (decide (r6.2 = 0))) else (some false)).bind fun b9 =>
    (bif b9 then (some (decide (r3.1 = 1501))) else (some false)).bind fun b10 =>
    (bif b10 then (some (decide (r4.1 = (aY.mk 22 50 0 0 0 0 16 48 2)))) else (some false)).bind fun b11 =>
    (bif b11 then (some (decide (r6.1.Debt = 60))) else (some false)).bind fun b12 =>
    some b12

def qB (p_0 : aN) : Option aN :=
    (app 8 ([] : List Int) p_0.Tree.Slots).bind fun x4 =>
    (app 40 ([] : List aG) p_0.Slips).bind fun x5 =>
    (app 8 ([] : List Int) p_0.Prizes).bind fun x6 =>
    (app 24 ([] : List bP) p_0.Teams).bind fun x7 =>
    (app 16 ([] : List eG) p_0.Levies).bind fun x8 =>
    (app 24 ([] : List dI) p_0.Rates).bind fun x9 =>
    (app 32 ([] : List aH) p_0.Items).bind fun x10 =>
    some (aN.mk (aR.mk p_0.Tree.Rounds x4) x5 x6 p_0.Daily x7 x8 x9 x10)

end Go.Am
