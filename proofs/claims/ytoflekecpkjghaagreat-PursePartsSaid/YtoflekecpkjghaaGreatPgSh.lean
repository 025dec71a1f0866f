/- Shallow functions, printed by program. -/
import Derived.Test.YtoflekecpkjghaaGreatAmFull
import Derived.Test.YtoflekecpkjghaaGreatAmNd
import Derived.Test.YtoflekecpkjghaaGreatAmSort
namespace Go.Am

def pY (x : List Int) : List D := [.sl 1 (x.map aL)]

structure aU where
  Rounds : Int
  Slots : List Int
  deriving DecidableEq, Inhabited
def bG (x : aU) : List D := [.lit (.int .i64 x.Rounds), .sl 1 (x.Slots.map aL)]

structure aE where
  Kind : Int
  Round : Int
  Place : Int
  Player : Int
  Old : Int
  deriving DecidableEq, Inhabited
def aJ (x : aE) : List D := [.lit (.int .i64 x.Kind), .lit (.int .i64 x.Round), .lit (.int .i64 x.Place), .lit (.int .i64 x.Player), .lit (.int .i64 x.Old)]

def aPh (x : List aE) : List D := [.sl 5 (x.map aJ)]

structure bX where
  Player : Int
  One : Int
  Two : Int
  deriving DecidableEq, Inhabited
def bP (x : bX) : List D := [.lit (.int .i64 x.Player), .lit (.int .i64 x.One), .lit (.int .i64 x.Two)]

def aPi (x : List bX) : List D := [.sl 3 (x.map bP)]

structure fE where
  Person : Int
  Mille : Int
  deriving DecidableEq, Inhabited
def cS (x : fE) : List D := [.lit (.int .i64 x.Person), .lit (.int .i64 x.Mille)]

def aPf (x : List fE) : List D := [.sl 2 (x.map cS)]

structure dX where
  Person : Int
  Num : Int
  Den : Int
  deriving DecidableEq, Inhabited
def cY (x : dX) : List D := [.lit (.int .i64 x.Person), .lit (.int .i64 x.Num), .lit (.int .i64 x.Den)]

def aPg (x : List dX) : List D := [.sl 3 (x.map cY)]

structure aI where
  Id : Int
  Kind : Int
  Person : Int
  Amount : Int
  deriving DecidableEq, Inhabited
def aF (x : aI) : List D := [.lit (.int .i64 x.Id), .lit (.int .i64 x.Kind), .lit (.int .i64 x.Person), .lit (.int .i64 x.Amount)]

def aPe (x : List aI) : List D := [.sl 4 (x.map aF)]

structure aK where
  Tree : aU
  Slips : List aE
  Prizes : List Int
  Daily : Int
  Teams : List bX
  Levies : List fE
  Rates : List dX
  Items : List aI
  deriving DecidableEq, Inhabited
def aN (x : aK) : List D := [.lit (.int .i64 x.Tree.Rounds), .sl 1 (x.Tree.Slots.map aL), .sl 5 (x.Slips.map aJ), .sl 1 (x.Prizes.map aL), .lit (.int .i64 x.Daily), .sl 3 (x.Teams.map bP), .sl 2 (x.Levies.map cS), .sl 3 (x.Rates.map cY), .sl 4 (x.Items.map aF)]

structure aT where
  Slots : List Int
  Must : List (List Int)
  deriving DecidableEq, Inhabited
def cM (x : aT) : List D := [.sl 1 (x.Slots.map aL), .sl 1 (x.Must.map pY)]

structure aG where
  round : Int
  place : Int
  deriving DecidableEq, Inhabited
def aQ (x : aG) : List D := [.lit (.int .i64 x.round), .lit (.int .i64 x.place)]

structure bE where
  Tree : aU
  players : List Int
  won : List (aG × Int)
  deriving DecidableEq, Inhabited
def bR (x : bE) : List D := [.lit (.int .i64 x.Tree.Rounds), .sl 1 (x.Tree.Slots.map aL), .sl 1 (x.players.map aL), .mp false (x.won.map fun p : aG × Int => ((fun a : aG => Value.agg ((aQ a).map bW).toArray) p.1, aL p.2))]

structure cK where
  Low : Int
  High : Int
  deriving DecidableEq, Inhabited
def cD (x : cK) : List D := [.lit (.int .i64 x.Low), .lit (.int .i64 x.High)]

structure aY where
  Person : Int
  Gross : Int
  Tax : Int
  Daily : Int
  Fines : Int
  Debt : Int
  Units : Int
  Used : Int
  Rest : Int
  deriving DecidableEq, Inhabited
def bF (x : aY) : List D := [.lit (.int .i64 x.Person), .lit (.int .i64 x.Gross), .lit (.int .i64 x.Tax), .lit (.int .i64 x.Daily), .lit (.int .i64 x.Fines), .lit (.int .i64 x.Debt), .lit (.int .i64 x.Units), .lit (.int .i64 x.Used), .lit (.int .i64 x.Rest)]

structure aR where
  Person : Int
  Units : Int
  deriving DecidableEq, Inhabited
def bA (x : aR) : List D := [.lit (.int .i64 x.Person), .lit (.int .i64 x.Units)]

def aOs (x : aU) : Prop := okI x.Rounds ∧ (okL okI) x.Slots

def aIh (x : aE) : Prop := okI x.Kind ∧ okI x.Round ∧ okI x.Place ∧ okI x.Player ∧ okI x.Old

def aIi (x : bX) : Prop := okI x.Player ∧ okI x.One ∧ okI x.Two

def aIf (x : fE) : Prop := okI x.Person ∧ okI x.Mille

def aIg (x : dX) : Prop := okI x.Person ∧ okI x.Num ∧ okI x.Den

def aIe (x : aI) : Prop := okI x.Id ∧ okI x.Kind ∧ okI x.Person ∧ okI x.Amount

def aMp (x : aK) : Prop := aOs x.Tree ∧ (okL aIh) x.Slips ∧ (okL okI) x.Prizes ∧ okI x.Daily ∧ (okL aIi) x.Teams ∧ (okL aIf) x.Levies ∧ (okL aIg) x.Rates ∧ (okL aIe) x.Items

def nK (p_0 : aK) : Option Bool :=
    (bif decide (8 < (p_0.Tree.Slots.length : Int)) then (some true) else (some (decide (20 < (p_0.Slips.length : Int))))).bind fun b2 =>
    (bif b2 then (some true) else (some (decide (20 < (p_0.Prizes.length : Int))))).bind fun b3 =>
    (bif b3 then (some true) else (some (decide (40 < (p_0.Teams.length : Int))))).bind fun b4 =>
    (bif b4 then (some true) else (some (decide (40 < (p_0.Levies.length : Int))))).bind fun b5 =>
    (bif b5 then (some true) else (some (decide (40 < (p_0.Rates.length : Int))))).bind fun b6 =>
    (bif b6 then (some true) else (some (decide (60 < (p_0.Items.length : Int))))).bind fun b7 =>
    some b7

def fF (n_0 : Int) (low_1 : Int) (high_2 : Int) : Option Bool :=
    (bif decide (low_1 ≤ n_0) then (some (decide (n_0 ≤ high_2))) else (some false)).bind fun b1 =>
    some b1

def tI (again0 : Int → Option Bool) (i_101 : Int) (t_101 : aU) : Option Bool :=
    again0 (w64 (i_101 + 1))

def tJ (again0 : Int → Option Bool) (i_102 : Int) (t_102 : aU) : Option Bool :=
    tI again0 i_102 t_102

def iA (again0 : Int → Option Bool) (i_2 : Int) (t_2 : aU) : Nat → Int → Option Bool
  | 0, _ => none
  | k2 + 1, k_2 =>
    bif decide (k_2 < i_2) then ((idx t_2.Slots k_2).bind fun x12 =>
    (idx t_2.Slots i_2).bind fun x13 =>
    (bif decide (x12 = x13) then ((idx t_2.Slots i_2).bind fun x14 =>
    some (!decide (x14 = (-1)))) else (some false)).bind fun b15 =>
    bif b15 then (some false)
    else ((iA again0 i_2 t_2 k2) (w64 (k_2 + 1))))
    else (tJ again0 i_2 t_2)

def tH : Option Bool :=
    some true

def hZ (t_0 : aU) : Nat → Int → Option Bool
  | 0, _ => none
  | k0 + 1, i_0 =>
    bif decide (i_0 < (t_0.Slots.length : Int)) then ((idx t_0.Slots i_0).bind fun x5 =>
    (fF x5 (-1) 999).bind fun r6 =>
    (bif !r6 then (some true) else ((bif decide ((i_0.tmod 2) = 1) then ((idx t_0.Slots i_0).bind fun x7 =>
    some (decide (x7 = (-1)))) else (some false)).bind fun b8 =>
    (bif b8 then ((idx t_0.Slots (w64 (i_0 - 1))).bind fun x9 =>
    some (decide (x9 = (-1)))) else (some false)).bind fun b10 =>
    some b10)).bind fun b11 =>
    bif b11 then (some false)
    else (iA (hZ t_0 k0) i_0 t_0 BIG 0))
    else (tH)

def mO (t_0 : aU) : Option Bool :=
    (fF t_0.Rounds 1 5).bind fun r2 =>
    (bif !r2 then (some true) else ((chk (decide (0 ≤ (IntKind.u64.wrap t_0.Rounds)))).bind fun u3 =>
    some (!decide ((t_0.Slots.length : Int) = (w64 (1 * 2 ^ (min (IntKind.u64.wrap t_0.Rounds).toNat 64))))))).bind fun b4 =>
    bif b4 then (some false)
    else (hZ t_0 BIG 0)

def mP (t_0 : aU) (round_1 : Int) : Option Int :=
    (chk (decide (0 ≤ (IntKind.u64.wrap (w64 ((w64 (t_0.Rounds - 1)) - round_1)))))).bind fun u2 =>
    some (w64 (1 * 2 ^ (min (IntKind.u64.wrap (w64 ((w64 (t_0.Rounds - 1)) - round_1))).toNat 64)))

def oC (t_0 : aU) (round_1 : Int) (place_2 : Int) : Option Bool :=
    (fF round_1 0 (w64 (t_0.Rounds - 1))).bind fun r2 =>
    (bif r2 then ((mP t_0 round_1).bind fun r3 =>
    (fF place_2 0 (w64 (r3 - 1))).bind fun r4 =>
    some r4) else (some false)).bind fun b5 =>
    some b5

def oZ (t_0 : aU) (x_1 : aE) : Option Bool :=
    (fF x_1.Player 0 999).bind fun r3 =>
    bif !r3 then (some false)
    else (bif decide (x_1.Kind = 5) then ((bif decide (x_1.Round = 0) then ((fF x_1.Place 0 (w64 ((t_0.Slots.length : Int) - 1))).bind fun r4 =>
    some r4) else (some false)).bind fun b5 =>
    (bif b5 then ((fF x_1.Old 0 999).bind fun r6 =>
    some r6) else (some false)).bind fun b7 =>
    some b7)
    else ((fF x_1.Kind 1 4).bind fun r8 =>
    (bif !r8 then (some true) else ((oC t_0 x_1.Round x_1.Place).bind fun r9 =>
    some (!r9))).bind fun b10 =>
    (bif b10 then (some true) else (some (!decide (x_1.Old = 0)))).bind fun b11 =>
    bif b11 then (some false)
    else ((bif decide (0 < x_1.Round) then (some true) else ((idx t_0.Slots (w64 (2 * x_1.Place))).bind fun x12 =>
    (bif !decide (x12 = (-1)) then ((idx t_0.Slots (w64 ((w64 (2 * x_1.Place)) + 1))).bind fun x13 =>
    some (!decide (x13 = (-1)))) else (some false)).bind fun b14 =>
    some b14)).bind fun b15 =>
    some b15)))

def lX (again0 : Int → (List aE) → Option ((List aE))) (l_101 : List aE) (i_101 : Int) (out_101 : List aE) : Option ((List aE)) :=
    again0 (w64 (i_101 + 1)) out_101

def oF (again0 : Int → (List aE) → Option ((List aE))) (l_102 : List aE) (i_102 : Int) (twin_102 : Bool) (out_102 : List aE) : Option ((List aE)) :=
    bif !twin_102 then ((idx l_102 i_102).bind fun x5 =>
    (app 40 out_102 ([x5])).bind fun x6 =>
    lX again0 l_102 i_102 x6)
    else (lX again0 l_102 i_102 out_102)

def jB (again0 : Int → (List aE) → Option ((List aE))) (l_2 : List aE) (i_2 : Int) (out_2 : List aE) : Nat → Bool → Int → Option ((List aE))
  | 0, _, _ => none
  | k2 + 1, twin_2, k_2 =>
    bif decide (k_2 < (out_2.length : Int)) then ((bif twin_2 then (some true) else ((idx out_2 k_2).bind fun x2 =>
    (idx l_2 i_2).bind fun x3 =>
    some (decide (x2 = x3)))).bind fun b4 =>
    (jB again0 l_2 i_2 out_2 k2) b4 (w64 (k_2 + 1)))
    else (oF again0 l_2 i_2 twin_2 out_2)

def vB (out_100 : List aE) : Option ((List aE)) :=
    some out_100

def fJ (l_0 : List aE) : Nat → Int → (List aE) → Option ((List aE))
  | 0, _, _ => none
  | k0 + 1, i_0, out_0 =>
    bif decide (i_0 < (l_0.length : Int)) then (jB (fJ l_0 k0) l_0 i_0 out_0 BIG false 0)
    else (vB out_0)

def oP (l_0 : List aE) : Option ((List aE)) :=
    fJ l_0 BIG 0 ([] : List aE)

def xA : Option Bool :=
    some false

def lJ (l_0 : List Int) (n_0 : Int) : Nat → Int → Option Bool
  | 0, _ => none
  | k0 + 1, i_0 =>
    bif decide (i_0 < (l_0.length : Int)) then ((idx l_0 i_0).bind fun x1 =>
    bif decide (x1 = n_0) then (some true)
    else ((lJ l_0 n_0 k0) (w64 (i_0 + 1))))
    else (xA)

def tU (l_0 : List Int) (n_1 : Int) : Option Bool :=
    lJ l_0 n_1 BIG 0

def jZ (again0 : Int → Int → (List Int) → (List Int) → Option ((List Int) × Bool)) (again2 : Int → Int → Bool → (List Int) → Option ((List Int) × Bool)) (allv_103 : List aE) (used_103 : Int) (i_103 : Int) (now_103 : Int) (again_103 : Bool) (t_103 : aU) (out_103 : List Int) (o18_103 : List Int) : Option ((List Int) × Bool) :=
    again2 used_103 now_103 again_103 o18_103

def lT (again0 : Int → Int → (List Int) → (List Int) → Option ((List Int) × Bool)) (again2 : Int → Int → Bool → (List Int) → Option ((List Int) × Bool)) (allv_104 : List aE) (used_104 : Int) (i_104 : Int) (now_104 : Int) (again_104 : Bool) (t_104 : aU) (out_104 : List Int) (nextv_104 : List Int) (o18_104 : List Int) : Option ((List Int) × Bool) :=
    (bif decide (1 < (nextv_104.length : Int)) then (some true) else ((bif decide ((nextv_104.length : Int) = 1) then ((idx nextv_104 0).bind fun x17 =>
    (tU o18_104 x17).bind fun r18 =>
    some r18) else (some false)).bind fun b19 =>
    some b19)).bind fun b20 =>
    bif b20 then (some (([] : List Int), false))
    else (bif decide ((nextv_104.length : Int) = 1) then ((idx nextv_104 0).bind fun x21 =>
    (app 8 o18_104 ([x21])).bind fun x22 =>
    jZ again0 again2 allv_104 (w64 (used_104 + 1)) i_104 x21 true t_104 out_104 x22)
    else (jZ again0 again2 allv_104 used_104 i_104 now_104 again_104 t_104 out_104 o18_104))

def fV (again0 : Int → Int → (List Int) → (List Int) → Option ((List Int) × Bool)) (again2 : Int → Int → Bool → (List Int) → Option ((List Int) × Bool)) (allv_4 : List aE) (used_4 : Int) (i_4 : Int) (now_4 : Int) (again_4 : Bool) (t_4 : aU) (out_4 : List Int) (o18_4 : List Int) : Nat → Int → (List Int) → Option ((List Int) × Bool)
  | 0, _, _ => none
  | k4 + 1, k_4, nextv_4 =>
    bif decide (k_4 < (allv_4.length : Int)) then ((idx allv_4 k_4).bind fun x9 =>
    (bif decide (x9.Kind = 5) then ((idx allv_4 k_4).bind fun x10 =>
    some (decide (x10.Place = i_4))) else (some false)).bind fun b11 =>
    (bif b11 then ((idx allv_4 k_4).bind fun x12 =>
    some (decide (x12.Old = now_4))) else (some false)).bind fun b13 =>
    bif b13 then ((idx allv_4 k_4).bind fun x14 =>
    (app 8 nextv_4 ([x14.Player])).bind fun x15 =>
    (fV again0 again2 allv_4 used_4 i_4 now_4 again_4 t_4 out_4 o18_4 k4) (w64 (k_4 + 1)) x15)
    else ((fV again0 again2 allv_4 used_4 i_4 now_4 again_4 t_4 out_4 o18_4 k4) (w64 (k_4 + 1)) nextv_4))
    else (lT again0 again2 allv_4 used_4 i_4 now_4 again_4 t_4 out_4 nextv_4 o18_4)

def sF (again0 : Int → Int → (List Int) → (List Int) → Option ((List Int) × Bool)) (allv_101 : List aE) (used_101 : Int) (i_101 : Int) (t_101 : aU) (out_101 : List Int) (o18_101 : List Int) : Option ((List Int) × Bool) :=
    again0 used_101 (w64 (i_101 + 1)) out_101 o18_101

def oO (again0 : Int → Int → (List Int) → (List Int) → Option ((List Int) × Bool)) (allv_102 : List aE) (used_102 : Int) (i_102 : Int) (now_102 : Int) (t_102 : aU) (out_102 : List Int) (o18_102 : List Int) : Option ((List Int) × Bool) :=
    (app 8 out_102 ([now_102])).bind fun x24 =>
    sF again0 allv_102 used_102 i_102 t_102 x24 o18_102

def gV (again0 : Int → Int → (List Int) → (List Int) → Option ((List Int) × Bool)) (allv_2 : List aE) (i_2 : Int) (t_2 : aU) (out_2 : List Int) : Nat → Int → Int → Bool → (List Int) → Option ((List Int) × Bool)
  | 0, _, _, _, _ => none
  | k2 + 1, used_2, now_2, again_2, o18_2 =>
    bif again_2 then (fV again0 (gV again0 allv_2 i_2 t_2 out_2 k2) allv_2 used_2 i_2 now_2 false t_2 out_2 o18_2 BIG 0 ([] : List Int))
    else (oO again0 allv_2 used_2 i_2 now_2 t_2 out_2 o18_2)

def sG (used_106 : Int) (out_106 : List Int) : Option ((List Int) × Bool) :=
    some (out_106, decide (used_106 = 0))

def fW (allv_6 : List aE) (out_6 : List Int) : Nat → Int → Int → Option ((List Int) × Bool)
  | 0, _, _ => none
  | k6 + 1, used_6, k_6 =>
    bif decide (k_6 < (allv_6.length : Int)) then ((idx allv_6 k_6).bind fun x26 =>
    bif decide (x26.Kind = 5) then ((fW allv_6 out_6 k6) (w64 (used_6 - 1)) (w64 (k_6 + 1)))
    else ((fW allv_6 out_6 k6) used_6 (w64 (k_6 + 1))))
    else (sG used_6 out_6)

def sE (allv_100 : List aE) (used_100 : Int) (out_100 : List Int) : Option ((List Int) × Bool) :=
    fW allv_100 out_100 BIG used_100 0

def eQ (allv_0 : List aE) (t_0 : aU) : Nat → Int → Int → (List Int) → (List Int) → Option ((List Int) × Bool)
  | 0, _, _, _, _ => none
  | k0 + 1, used_0, i_0, out_0, o18_0 =>
    bif decide (i_0 < (t_0.Slots.length : Int)) then ((idx t_0.Slots i_0).bind fun x7 =>
    gV (eQ allv_0 t_0 k0) allv_0 i_0 t_0 out_0 BIG used_0 x7 true o18_0)
    else (sE allv_0 used_0 out_0)

def oD (t_0 : aU) (l_1 : List aE) : Option ((List Int) × Bool) :=
    (oP l_1).bind fun r2 =>
    (app 8 ([] : List Int) t_0.Slots).bind fun x4 =>
    eQ r2 t_0 BIG 0 0 ([] : List Int) x4

def uY (again0 : Int → (List (List Int)) → (List Int) → Option (aT × Bool)) (l_101 : List aE) (slots_101 : List Int) (r_101 : Int) (t_101 : aU) (o4_101 : aT) (d_101 : List (List Int)) (d_101_2 : List Int) : Option (aT × Bool) :=
    again0 (w64 (r_101 + 1)) d_101 d_101_2

def lV (again0 : Int → (List (List Int)) → (List Int) → Option (aT × Bool)) (l_102 : List aE) (slots_102 : List Int) (r_102 : Int) (t_102 : aU) (o4_102 : aT) (d_102 : List (List Int)) (d_102_2 : List Int) (row_102 : List Int) : Option (aT × Bool) :=
    (app 24 d_102 [row_102]).bind fun x24 =>
    uY again0 l_102 slots_102 r_102 t_102 o4_102 x24 d_102_2

def fI (again0 : Int → (List (List Int)) → (List Int) → Option (aT × Bool)) (l_2 : List aE) (slots_2 : List Int) (r_2 : Int) (t_2 : aU) (o4_2 : aT) (d_2 : List (List Int)) (d_2_2 : List Int) : Nat → Int → (List Int) → Option (aT × Bool)
  | 0, _, _ => none
  | k2 + 1, p_2, row_2 =>
    (mP t_2 r_2).bind fun r6 =>
    bif decide (p_2 < r6) then ((bif decide (r_2 = 0) then ((idx slots_2 (w64 (2 * p_2))).bind fun x7 =>
    some (decide (x7 = (-1)))) else (some false)).bind fun b8 =>
    bif b8 then ((idx slots_2 (w64 ((w64 (2 * p_2)) + 1))).bind fun x9 =>
    (bif decide (r_2 = 0) then ((idx slots_2 (w64 ((w64 (2 * p_2)) + 1))).bind fun x10 =>
    some (decide (x10 = (-1)))) else (some false)).bind fun b11 =>
    bif b11 then ((idx slots_2 (w64 (2 * p_2))).bind fun x12 =>
    (app 8 row_2 ([x12])).bind fun x13 =>
    (fI again0 l_2 slots_2 r_2 t_2 o4_2 d_2 d_2_2 k2) (w64 (p_2 + 1)) x13)
    else ((app 8 row_2 ([x9])).bind fun x15 =>
    (fI again0 l_2 slots_2 r_2 t_2 o4_2 d_2 d_2_2 k2) (w64 (p_2 + 1)) x15))
    else ((bif decide (r_2 = 0) then ((idx slots_2 (w64 ((w64 (2 * p_2)) + 1))).bind fun x17 =>
    some (decide (x17 = (-1)))) else (some false)).bind fun b18 =>
    bif b18 then ((idx slots_2 (w64 (2 * p_2))).bind fun x19 =>
    (app 8 row_2 ([x19])).bind fun x20 =>
    (fI again0 l_2 slots_2 r_2 t_2 o4_2 d_2 d_2_2 k2) (w64 (p_2 + 1)) x20)
    else ((app 8 row_2 ([(-2)])).bind fun x22 =>
    (fI again0 l_2 slots_2 r_2 t_2 o4_2 d_2 d_2_2 k2) (w64 (p_2 + 1)) x22)))
    else (lV again0 l_2 slots_2 r_2 t_2 o4_2 d_2 d_2_2 row_2)

def lW (again4 : Int → aT → (List (List Int)) → Option (aT × Bool)) (slots_105 : List Int) (allv_105 : List aE) (i_105 : Int) (o4_105 : aT) (d_105 : List (List Int)) (d_105_2 : List Int) : Option (aT × Bool) :=
    again4 (w64 (i_105 + 1)) o4_105 d_105

def uI (again4 : Int → aT → (List (List Int)) → Option (aT × Bool)) (slots_110 : List Int) (allv_110 : List aE) (i_110 : Int) (o4_110 : aT) (d_110 : List (List Int)) (d_110_2 : List Int) : Option (aT × Bool) :=
    lW again4 slots_110 allv_110 i_110 o4_110 d_110 d_110_2

def iL (again4 : Int → aT → (List (List Int)) → Option (aT × Bool)) (slots_10 : List Int) (allv_10 : List aE) (i_10 : Int) (atv_10 : Int) (d_10_2 : List Int) (x_10 : aE) : Nat → Int → aT → (List (List Int)) → Option (aT × Bool)
  | 0, _, _, _ => none
  | k10 + 1, r_10, o4_10, d_10 =>
    bif decide (r_10 ≤ x_10.Round) then ((chk (decide (0 ≤ (IntKind.u64.wrap (w64 (r_10 + 1)))))).bind fun u36 =>
    (idx d_10 r_10).bind fun x37 =>
    (idx x37 (atv_10.fdiv (2 ^ (min (IntKind.u64.wrap (w64 (r_10 + 1))).toNat 64)))).bind fun x38 =>
    (bif !decide (x38 = (-2)) then ((idx d_10 r_10).bind fun x39 =>
    (idx x39 (atv_10.fdiv (2 ^ (min (IntKind.u64.wrap (w64 (r_10 + 1))).toNat 64)))).bind fun x40 =>
    some (!decide (x40 = x_10.Player))) else (some false)).bind fun b41 =>
    bif b41 then (some ((aT.mk ([] : List Int) ([] : List (List Int))), false))
    else ((idx d_10 r_10).bind fun x42 =>
    (idx x42 (atv_10.fdiv (2 ^ (min (IntKind.u64.wrap (w64 (r_10 + 1))).toNat 64)))).bind fun x43 =>
    (iL again4 slots_10 allv_10 i_10 atv_10 d_10_2 x_10 k10) (w64 (r_10 + 1)) o4_10 (d_10.set r_10.toNat (x42.set (atv_10.fdiv (2 ^ (min (IntKind.u64.wrap (w64 (r_10 + 1))).toNat 64))).toNat x_10.Player))))
    else (uI again4 slots_10 allv_10 i_10 o4_10 d_10 d_10_2)

def iZ (again4 : Int → aT → (List (List Int)) → Option (aT × Bool)) (slots_108 : List Int) (allv_108 : List aE) (i_108 : Int) (atv_108 : Int) (o4_108 : aT) (d_108 : List (List Int)) (d_108_2 : List Int) (x_108 : aE) : Option (aT × Bool) :=
    (bif decide (atv_108 < 0) then (some true) else ((chk (decide (0 ≤ (IntKind.u64.wrap (w64 (x_108.Round + 1)))))).bind fun u34 =>
    some (!decide ((atv_108.fdiv (2 ^ (min (IntKind.u64.wrap (w64 (x_108.Round + 1))).toNat 64))) = x_108.Place)))).bind fun b35 =>
    bif b35 then (some ((aT.mk ([] : List Int) ([] : List (List Int))), false))
    else (iL again4 slots_108 allv_108 i_108 atv_108 d_108_2 x_108 BIG 0 o4_108 d_108)

def eR (again4 : Int → aT → (List (List Int)) → Option (aT × Bool)) (slots_8 : List Int) (allv_8 : List aE) (i_8 : Int) (o4_8 : aT) (d_8 : List (List Int)) (d_8_2 : List Int) (x_8 : aE) : Nat → Int → Int → Option (aT × Bool)
  | 0, _, _ => none
  | k8 + 1, atv_8, s_8 =>
    bif decide (s_8 < (slots_8.length : Int)) then ((idx slots_8 s_8).bind fun x33 =>
    bif decide (x33 = x_8.Player) then ((eR again4 slots_8 allv_8 i_8 o4_8 d_8 d_8_2 x_8 k8) s_8 (w64 (s_8 + 1)))
    else ((eR again4 slots_8 allv_8 i_8 o4_8 d_8 d_8_2 x_8 k8) atv_8 (w64 (s_8 + 1))))
    else (iZ again4 slots_8 allv_8 i_8 atv_8 o4_8 d_8 d_8_2 x_8)

def rD (again4 : Int → aT → (List (List Int)) → Option (aT × Bool)) (slots_106 : List Int) (allv_106 : List aE) (i_106 : Int) (o4_106 : aT) (d_106 : List (List Int)) (d_106_2 : List Int) (x_106 : aE) : Option (aT × Bool) :=
    eR again4 slots_106 allv_106 i_106 o4_106 d_106 d_106_2 x_106 BIG (-1) 0

def jA (again4 : Int → aT → (List (List Int)) → Option (aT × Bool)) (slots_6 : List Int) (allv_6 : List aE) (i_6 : Int) (d_6 : List (List Int)) (d_6_2 : List Int) (x_6 : aE) : Nat → Int → aT → Option (aT × Bool)
  | 0, _, _ => none
  | k6 + 1, k_6, o4_6 =>
    bif decide (k_6 < i_6) then ((idx allv_6 k_6).bind fun x29 =>
    (bif !decide (x29.Kind = 5) then (some (decide (x29.Round = x_6.Round))) else (some false)).bind fun b31 =>
    (bif b31 then (some (decide (x29.Place = x_6.Place))) else (some false)).bind fun b32 =>
    bif b32 then (some ((aT.mk ([] : List Int) ([] : List (List Int))), false))
    else ((jA again4 slots_6 allv_6 i_6 d_6 d_6_2 x_6 k6) (w64 (k_6 + 1)) o4_6))
    else (rD again4 slots_6 allv_6 i_6 o4_6 d_6 d_6_2 x_6)

def uZ (o4_104 : aT) (d_104 : List (List Int)) (d_104_2 : List Int) : Option (aT × Bool) :=
    some ((aT.mk d_104_2 d_104), true)

def dL (slots_4 : List Int) (allv_4 : List aE) (d_4_2 : List Int) : Nat → Int → aT → (List (List Int)) → Option (aT × Bool)
  | 0, _, _, _ => none
  | k4 + 1, i_4, o4_4, d_4 =>
    bif decide (i_4 < (allv_4.length : Int)) then ((idx allv_4 i_4).bind fun x27 =>
    bif decide (x27.Kind = 5) then (lW (dL slots_4 allv_4 d_4_2 k4) slots_4 allv_4 i_4 o4_4 d_4 d_4_2)
    else (jA (dL slots_4 allv_4 d_4_2 k4) slots_4 allv_4 i_4 d_4 d_4_2 x27 BIG 0 o4_4))
    else (uZ o4_4 d_4 d_4_2)

def lU (l_100 : List aE) (slots_100 : List Int) (o4_100 : aT) (d_100 : List (List Int)) (d_100_2 : List Int) : Option (aT × Bool) :=
    (oP l_100).bind fun r26 =>
    dL slots_100 r26 d_100_2 BIG 0 o4_100 d_100

def iB (l_0 : List aE) (slots_0 : List Int) (t_0 : aU) (o4_0 : aT) : Nat → Int → (List (List Int)) → (List Int) → Option (aT × Bool)
  | 0, _, _, _ => none
  | k0 + 1, r_0, d_0, d_0_2 =>
    bif decide (r_0 < t_0.Rounds) then (fI (iB l_0 slots_0 t_0 o4_0 k0) l_0 slots_0 r_0 t_0 o4_0 d_0 d_0_2 BIG 0 ([] : List Int))
    else (lU l_0 slots_0 o4_0 d_0 d_0_2)

def fX (t_0 : aU) (l_1 : List aE) : Option (aT × Bool) :=
    (oD t_0 l_1).bind fun r3 =>
    bif !r3.2 then (some ((aT.mk ([] : List Int) ([] : List (List Int))), false))
    else (iB l_1 r3.1 t_0 (aT.mk ([] : List Int) ([] : List (List Int))) BIG 0 ([] : List (List Int)) r3.1)

def kW (l_100 : List aE) (t_100 : aU) : Option Int :=
    (fX t_100 l_100).bind fun r5 =>
    bif !r5.2 then (some 72)
    else (some 0)

def iK (l_0 : List aE) (t_0 : aU) : Nat → Int → Option Int
  | 0, _ => none
  | k0 + 1, i_0 =>
    bif decide (i_0 < (l_0.length : Int)) then ((idx l_0 i_0).bind fun x3 =>
    (oZ t_0 x3).bind fun r4 =>
    bif !r4 then (some 71)
    else ((iK l_0 t_0 k0) (w64 (i_0 + 1))))
    else (kW l_0 t_0)

def gB (t_0 : aU) (l_1 : List aE) : Option Int :=
    (mO t_0).bind fun r2 =>
    bif !r2 then (some 70)
    else (bif decide (60 < (l_1.length : Int)) then (some 71)
    else (iK l_1 t_0 BIG 0))

def eD (n_0 : Int) (low_1 : Int) (high_2 : Int) : Option Bool :=
    (bif decide (low_1 ≤ n_0) then (some (decide (n_0 ≤ high_2))) else (some false)).bind fun b1 =>
    some b1

def xP : Option Bool :=
    some false

def iT (player_0 : Int) (p_0 : aK) : Nat → Int → Option Bool
  | 0, _ => none
  | k0 + 1, i_0 =>
    bif decide (i_0 < (p_0.Teams.length : Int)) then ((idx p_0.Teams i_0).bind fun x2 =>
    bif decide (x2.Player = player_0) then (some true)
    else ((iT player_0 p_0 k0) (w64 (i_0 + 1))))
    else (xP)

def lY (p_0 : aK) (player_1 : Int) : Option Bool :=
    iT player_1 p_0 BIG 0

def rT (again0 : Int → Option Bool) (i_101 : Int) (p_101 : aK) : Option Bool :=
    again0 (w64 (i_101 + 1))

def rU (again0 : Int → Option Bool) (i_102 : Int) (p_102 : aK) : Option Bool :=
    rT again0 i_102 p_102

def gJ (again0 : Int → Option Bool) (i_2 : Int) (p_2 : aK) (t_2 : bX) : Nat → Int → Option Bool
  | 0, _ => none
  | k2 + 1, k_2 =>
    bif decide (k_2 < i_2) then ((idx p_2.Teams k_2).bind fun x10 =>
    (bif decide (x10.Player = t_2.Player) then (some true) else (some (decide (x10.One = t_2.One)))).bind fun b12 =>
    (bif b12 then (some true) else (some (decide (x10.Two = t_2.One)))).bind fun b13 =>
    (bif b13 then (some true) else ((bif decide (0 ≤ t_2.Two) then ((bif decide (x10.One = t_2.Two) then (some true) else (some (decide (x10.Two = t_2.Two)))).bind fun b14 =>
    some b14) else (some false)).bind fun b15 =>
    some b15)).bind fun b16 =>
    bif b16 then (some false)
    else ((gJ again0 i_2 p_2 t_2 k2) (w64 (k_2 + 1))))
    else (rU again0 i_2 p_2)

def nW (p_106 : aK) : Option Bool :=
    some (decide ((p_106.Teams.length : Int) ≤ 64))

def iE (p_6 : aK) : Nat → Int → Option Bool
  | 0, _ => none
  | k6 + 1, i_6 =>
    bif decide (i_6 < (p_6.Slips.length : Int)) then ((idx p_6.Slips i_6).bind fun x21 =>
    (bif decide (x21.Kind = 5) then ((idx p_6.Slips i_6).bind fun x22 =>
    (lY p_6 x22.Player).bind fun r23 =>
    some (!r23)) else (some false)).bind fun b24 =>
    bif b24 then (some false)
    else ((iE p_6 k6) (w64 (i_6 + 1))))
    else (nW p_6)

def lB (p_104 : aK) : Option Bool :=
    iE p_104 BIG 0

def iD (p_4 : aK) : Nat → Int → Option Bool
  | 0, _ => none
  | k4 + 1, i_4 =>
    bif decide (i_4 < (p_4.Tree.Slots.length : Int)) then ((idx p_4.Tree.Slots i_4).bind fun x17 =>
    (bif !decide (x17 = (-1)) then ((idx p_4.Tree.Slots i_4).bind fun x18 =>
    (lY p_4 x18).bind fun r19 =>
    some (!r19)) else (some false)).bind fun b20 =>
    bif b20 then (some false)
    else ((iD p_4 k4) (w64 (i_4 + 1))))
    else (lB p_4)

def lA (p_100 : aK) : Option Bool :=
    iD p_100 BIG 0

def gI (p_0 : aK) : Nat → Int → Option Bool
  | 0, _ => none
  | k0 + 1, i_0 =>
    bif decide (i_0 < (p_0.Teams.length : Int)) then ((idx p_0.Teams i_0).bind fun x2 =>
    (eD x2.Player 0 999).bind fun r4 =>
    (bif !r4 then (some true) else ((eD x2.One 0 999).bind fun r5 =>
    some (!r5))).bind fun b6 =>
    (bif b6 then (some true) else ((eD x2.Two (-1) 999).bind fun r7 =>
    some (!r7))).bind fun b8 =>
    (bif b8 then (some true) else (some (decide (x2.One = x2.Two)))).bind fun b9 =>
    bif b9 then (some false)
    else (gJ (gI p_0 k0) i_0 p_0 x2 BIG 0))
    else (lA p_0)

def kX (p_0 : aK) : Option Bool :=
    gI p_0 BIG 0

def aAb (t_100 : bX) : Option (bX × Bool × Bool) :=
    some ((bX.mk 0 0 0), false, false)

def kC (person_0 : Int) (p_0 : aK) : Nat → Int → bX → Option (bX × Bool × Bool)
  | 0, _, _ => none
  | k0 + 1, i_0, t_0 =>
    bif decide (i_0 < (p_0.Teams.length : Int)) then ((idx p_0.Teams i_0).bind fun x3 =>
    (bif decide (x3.One = person_0) then (some true) else ((idx p_0.Teams i_0).bind fun x4 =>
    (bif decide (x4.Two = person_0) then (some (decide (0 ≤ person_0))) else (some false)).bind fun b5 =>
    some b5)).bind fun b6 =>
    bif b6 then ((idx p_0.Teams i_0).bind fun x7 =>
    (idx p_0.Teams i_0).bind fun x8 =>
    some (x7, decide (x8.Two = person_0), true))
    else ((kC person_0 p_0 k0) (w64 (i_0 + 1)) t_0))
    else (aAb t_0)

def rF (p_0 : aK) (person_1 : Int) : Option (bX × Bool × Bool) :=
    kC person_1 p_0 BIG 0 (bX.mk 0 0 0)

def iO (p_0 : aK) (person_1 : Int) : Option Bool :=
    (rF p_0 person_1).bind fun r2 =>
    (bif r2.2.2 then (some (decide (0 ≤ person_1))) else (some false)).bind fun b4 =>
    some b4

def rO (again0 : Int → Option Bool) (i_101 : Int) (p_101 : aK) : Option Bool :=
    again0 (w64 (i_101 + 1))

def rP (again0 : Int → Option Bool) (i_102 : Int) (p_102 : aK) : Option Bool :=
    rO again0 i_102 p_102

def gG (again0 : Int → Option Bool) (i_2 : Int) (p_2 : aK) : Nat → Int → Option Bool
  | 0, _ => none
  | k2 + 1, k_2 =>
    bif decide (k_2 < i_2) then ((idx p_2.Levies k_2).bind fun x7 =>
    (idx p_2.Levies i_2).bind fun x8 =>
    bif decide (x7.Person = x8.Person) then (some false)
    else ((gG again0 i_2 p_2 k2) (w64 (k_2 + 1))))
    else (rP again0 i_2 p_2)

def rR (again4 : Int → Option Bool) (i_105 : Int) (p_105 : aK) : Option Bool :=
    again4 (w64 (i_105 + 1))

def rS (again4 : Int → Option Bool) (i_106 : Int) (p_106 : aK) : Option Bool :=
    rR again4 i_106 p_106

def gH (again4 : Int → Option Bool) (i_6 : Int) (p_6 : aK) (r_6 : dX) : Nat → Int → Option Bool
  | 0, _ => none
  | k6 + 1, k_6 =>
    bif decide (k_6 < i_6) then ((idx p_6.Rates k_6).bind fun x16 =>
    bif decide (x16.Person = r_6.Person) then (some false)
    else ((gH again4 i_6 p_6 r_6 k6) (w64 (k_6 + 1))))
    else (rS again4 i_6 p_6)

def rQ : Option Bool :=
    some true

def dQ (p_4 : aK) : Nat → Int → Option Bool
  | 0, _ => none
  | k4 + 1, i_4 =>
    bif decide (i_4 < (p_4.Rates.length : Int)) then ((idx p_4.Rates i_4).bind fun x9 =>
    (iO p_4 x9.Person).bind fun r11 =>
    (bif !r11 then (some true) else ((eD x9.Num 1 10000).bind fun r12 =>
    some (!r12))).bind fun b13 =>
    (bif b13 then (some true) else ((eD x9.Den 1 10000).bind fun r14 =>
    some (!r14))).bind fun b15 =>
    bif b15 then (some false)
    else (gH (dQ p_4 k4) i_4 p_4 x9 BIG 0))
    else (rQ)

def kZ (p_100 : aK) : Option Bool :=
    dQ p_100 BIG 0

def dP (p_0 : aK) : Nat → Int → Option Bool
  | 0, _ => none
  | k0 + 1, i_0 =>
    bif decide (i_0 < (p_0.Levies.length : Int)) then ((idx p_0.Levies i_0).bind fun x2 =>
    (iO p_0 x2.Person).bind fun r3 =>
    (bif !r3 then (some true) else ((idx p_0.Levies i_0).bind fun x4 =>
    (eD x4.Mille 0 500).bind fun r5 =>
    some (!r5))).bind fun b6 =>
    bif b6 then (some false)
    else (gG (dP p_0 k0) i_0 p_0 BIG 0))
    else (kZ p_0)

def nF (p_0 : aK) : Option Bool :=
    dP p_0 BIG 0

def rM (again0 : Int → Option Bool) (i_101 : Int) (p_101 : aK) : Option Bool :=
    again0 (w64 (i_101 + 1))

def rN (again0 : Int → Option Bool) (i_102 : Int) (p_102 : aK) : Option Bool :=
    rM again0 i_102 p_102

def gF (again0 : Int → Option Bool) (i_2 : Int) (p_2 : aK) (x_2 : aI) : Nat → Int → Option Bool
  | 0, _ => none
  | k2 + 1, k_2 =>
    bif decide (k_2 < i_2) then ((idx p_2.Items k_2).bind fun x13 =>
    (bif decide (x13.Id = x_2.Id) then ((idx p_2.Items k_2).bind fun x14 =>
    some (!decide (x14 = x_2))) else (some false)).bind fun b15 =>
    bif b15 then (some false)
    else ((gF again0 i_2 p_2 x_2 k2) (w64 (k_2 + 1))))
    else (rN again0 i_2 p_2)

def nV (p_100 : aK) : Option Bool :=
    some (decide ((p_100.Items.length : Int) ≤ 40))

def dO (p_0 : aK) : Nat → Int → Option Bool
  | 0, _ => none
  | k0 + 1, i_0 =>
    bif decide (i_0 < (p_0.Items.length : Int)) then ((idx p_0.Items i_0).bind fun x2 =>
    (eD x2.Id 0 99).bind fun r4 =>
    (bif !r4 then (some true) else ((iO p_0 x2.Person).bind fun r5 =>
    some (!r5))).bind fun b6 =>
    (bif b6 then (some true) else ((bif decide (x2.Kind = 1) then ((eD x2.Amount 0 10000000).bind fun r7 =>
    some r7) else (some false)).bind fun b8 =>
    (bif b8 then (some true) else ((bif decide (x2.Kind = 2) then ((eD x2.Amount 0 30).bind fun r9 =>
    some r9) else (some false)).bind fun b10 =>
    some b10)).bind fun b11 =>
    some (!b11))).bind fun b12 =>
    bif b12 then (some false)
    else (gF (dO p_0 k0) i_0 p_0 x2 BIG 0))
    else (nV p_0)

def nE (p_0 : aK) : Option Bool :=
    dO p_0 BIG 0

def qX (p_100 : aK) : Option Int :=
    (bif !decide ((p_100.Prizes.length : Int) = (w64 (p_100.Tree.Rounds + 1))) then (some true) else ((eD p_100.Daily 0 100000).bind fun r9 =>
    some (!r9))).bind fun b10 =>
    bif b10 then (some 100)
    else ((kX p_100).bind fun r11 =>
    (bif !r11 then (some true) else ((nF p_100).bind fun r12 =>
    some (!r12))).bind fun b13 =>
    bif b13 then (some 101)
    else ((nE p_100).bind fun r14 =>
    bif !r14 then (some 102)
    else (some 0)))

def iN (p_0 : aK) : Nat → Int → Option Int
  | 0, _ => none
  | k0 + 1, i_0 =>
    bif decide (i_0 < (p_0.Prizes.length : Int)) then ((idx p_0.Prizes i_0).bind fun x3 =>
    (eD x3 0 10000000).bind fun r4 =>
    (bif !r4 then (some true) else ((bif decide (0 < i_0) then ((idx p_0.Prizes i_0).bind fun x5 =>
    (idx p_0.Prizes (w64 (i_0 - 1))).bind fun x6 =>
    some (decide (x5 < x6))) else (some false)).bind fun b7 =>
    some b7)).bind fun b8 =>
    bif b8 then (some 100)
    else ((iN p_0 k0) (w64 (i_0 + 1))))
    else (qX p_0)

def lK (p_0 : aK) : Option Int :=
    (gB p_0.Tree p_0.Slips).bind fun r2 =>
    bif !decide (r2 = 0) then (some r2)
    else (iN p_0 BIG 0)

def nL (p_0 : aK) : Option Bool :=
    (nK p_0).bind fun r2 =>
    (bif !r2 then ((lK p_0).bind fun r3 =>
    some (decide (r3 = 0))) else (some false)).bind fun b4 =>
    some b4

def oA : Option aK :=
    some (aK.mk (aU.mk 2 ([1, 2, 3, 4])) ([(aE.mk 1 0 0 1 0)]) ([100, 300, 1001]) 40 ([(bX.mk 1 11 12), (bX.mk 2 21 22), (bX.mk 3 31 (-1)), (bX.mk 4 41 (-1))]) ([(fE.mk 11 250)]) ([(dX.mk 21 3 2), (dX.mk 22 1 3)]) ([(aI.mk 1 1 21 30), (aI.mk 2 2 11 2), (aI.mk 3 1 31 160)]))

def gL (n_0 : Int) (low_1 : Int) (high_2 : Int) : Option Bool :=
    (bif decide (low_1 ≤ n_0) then (some (decide (n_0 ≤ high_2))) else (some false)).bind fun b1 =>
    some b1

def wG : Option Bool :=
    some true

def jN (t21_0 : List Int) (t22_0 : Int) (t_0 : aU) : Nat → Int → (List (Int × Int)) → Option Bool
  | 0, _, _ => none
  | k0 + 1, t23_0, o19_0 =>
    bif decide (t23_0 < t22_0) then ((idx t21_0 t23_0).bind fun x6 =>
    bif decide (x6 = (-1)) then ((idx t_0.Slots (aQa t23_0 1)).bind fun x7 =>
    bif decide (x7 = (-1)) then (some false)
    else ((jN t21_0 t22_0 t_0 k0) (w64 (t23_0 + 1)) o19_0))
    else ((bif decide (1 < (cZ x6 0 (hC x6 (w64 ((cZ x6 0 o19_0) + 1)) o19_0))) then (some true) else ((gL x6 0 999).bind fun r8 =>
    some (!r8))).bind fun b9 =>
    bif b9 then (some false)
    else ((jN t21_0 t22_0 t_0 k0) (w64 (t23_0 + 1)) (hC x6 (w64 ((cZ x6 0 o19_0) + 1)) o19_0))))
    else (wG)

def pW (t_0 : aU) : Option Bool :=
    (gL t_0.Rounds 1 5).bind fun r2 =>
    (bif !r2 then (some true) else ((chk (decide (0 ≤ t_0.Rounds))).bind fun u3 =>
    some (!decide ((t_0.Slots.length : Int) = (w64 (1 * 2 ^ (min t_0.Rounds.toNat 64))))))).bind fun b4 =>
    bif b4 then (some false)
    else (jN t_0.Slots (t_0.Slots.length : Int) t_0 BIG 0 ([] : List (Int × Int)))

def nT : Option Int :=
    some (-1)

def fN (s_0 : List aE) (f_0 : aE → Option Bool) (t7_0 : Int) : Nat → Int → Option Int
  | 0, _ => none
  | k0 + 1, t8_0 =>
    bif decide (t8_0 < t7_0) then ((idx s_0 t8_0).bind fun x1 =>
    (f_0 x1).bind fun r2 =>
    bif r2 then (some t8_0)
    else ((fN s_0 f_0 t7_0 k0) (w64 (t8_0 + 1))))
    else (nT)

def jX (s_0 : List aE) (f_1 : aE → Option Bool) : Option Int :=
    fN s_0 f_1 (s_0.length : Int) BIG 0

def iX (s_0 : List aE) (f_1 : aE → Option Bool) : Option Bool :=
    (jX s_0 f_1).bind fun r1 =>
    some (decide (0 ≤ r1))

def qF (m_0 : aG) (t_1 : aU) : Option Bool :=
    (gL m_0.round 0 (w64 (t_1.Rounds - 1))).bind fun r3 =>
    (bif r3 then ((chk (decide (0 ≤ (w64 (m_0.round + 1))))).bind fun u4 =>
    (gL m_0.place 0 (w64 (((t_1.Slots.length : Int).fdiv (2 ^ (min (w64 (m_0.round + 1)).toNat 64))) - 1))).bind fun r5 =>
    some r5) else (some false)).bind fun b6 =>
    some b6

def uN : Option Int :=
    some (-1)

def jS (s_0 : List Int) (v_0 : Int) (t7_0 : Int) : Nat → Int → Option Int
  | 0, _ => none
  | k0 + 1, t8_0 =>
    bif decide (t8_0 < t7_0) then ((idx s_0 t8_0).bind fun x1 =>
    bif decide (v_0 = x1) then (some t8_0)
    else ((jS s_0 v_0 t7_0 k0) (w64 (t8_0 + 1))))
    else (uN)

def iF (s_0 : List Int) (v_1 : Int) : Option Int :=
    jS s_0 v_1 (s_0.length : Int) BIG 0

def dC (s_0 : List Int) (v_1 : Int) : Option Bool :=
    (iF s_0 v_1).bind fun r1 =>
    some (decide (0 ≤ r1))

def sD (t_0 : aU) (s_1 : aE) : Option Bool :=
    (gL s_1.Player 0 999).bind fun r3 =>
    bif !r3 then (some false)
    else (bif decide (s_1.Kind = 5) then ((bif decide (s_1.Round = 0) then ((gL s_1.Place 0 (w64 ((t_0.Slots.length : Int) - 1))).bind fun r4 =>
    some r4) else (some false)).bind fun b5 =>
    (bif b5 then ((gL s_1.Old 0 999).bind fun r6 =>
    some r6) else (some false)).bind fun b7 =>
    some b7)
    else ((gL s_1.Kind 1 4).bind fun r9 =>
    (bif !r9 then (some true) else (some (!decide (s_1.Old = 0)))).bind fun b10 =>
    (bif b10 then (some true) else ((qF (aG.mk s_1.Round s_1.Place) t_0).bind fun r11 =>
    some (!r11))).bind fun b12 =>
    bif b12 then (some false)
    else ((bif decide (0 < s_1.Round) then (some true) else ((sub t_0.Slots (w64 (2 * s_1.Place)) (w64 ((w64 (2 * s_1.Place)) + 2))).bind fun x13 =>
    (dC x13 (-1)).bind fun r14 =>
    some (!r14))).bind fun b15 =>
    some b15)))

def pX (s_0 : aE) (c_1 : aU) : Option Bool :=
    (sD c_1 s_0).bind fun r2 =>
    some (!r2)

def slices_Clone_int (s_0 : List Int) : Option ((List Int)) :=
    (app 8 ([] : List Int) s_0).bind fun x5 =>
    some x5

def pH (againQ : (aE × Bool) → Prop) (d_100 : List Int) (d_100_2 : aU) (lucky_100 : List (aE × Int)) (o6_100 : aE) : Prop :=
    againQ ((aE.mk 0 0 0 0 0), false)

def jE (againQ : (aE × Bool) → Prop) (slot_0 : Int) (d_0 : List Int) (d_0_2 : aU) (lucky_0 : List (aE × Int)) : Nat → aE → (List (aE × Int)) → Prop
  | 0, _, _ => False
  | k0 + 1, o6_0, left_0 =>
    aRa left_0 (pH againQ d_0 d_0_2 lucky_0 o6_0)
    (fun p5 left6 =>
    nb (bif decide (p5.1.Place = slot_0) then ((idx d_0 slot_0).bind fun x8 =>
    some (decide (p5.1.Old = x8))) else (some false)) fun b9 =>
    bif b9 then (againQ (p5.1, true))
    else ((jE againQ slot_0 d_0 d_0_2 lucky_0 k0) o6_0 left6))

def jM (d_0_Tree : aU) (d_0_players : List Int) (lucky_1 : List (aE × Int)) (slot_2 : Int) (Q : (aE × Bool) → Prop) : Prop :=
    aEm lucky_1 fun left3 =>
    jE Q slot_2 d_0_players d_0_Tree lucky_1 BIG (aE.mk 0 0 0 0 0) left3

def mZ (againQ : (Bool × (List Int) × (List (aE × Int))) → Prop) (again0 : Int → (List Int) → (List (aE × Int)) → (List Int) → Prop) (t19_101 : Int) (t20_101 : Int) (d_101 : List Int) (d_101_2 : aU) (lucky_101 : List (aE × Int)) (o14_101 : List Int) : Prop :=
    again0 (w64 (t20_101 + 1)) d_101 lucky_101 o14_101

def nA (againQ : (Bool × (List Int) × (List (aE × Int))) → Prop) (again0 : Int → (List Int) → (List (aE × Int)) → (List Int) → Prop) (t19_102 : Int) (t20_102 : Int) (d_102 : List Int) (d_102_2 : aU) (lucky_102 : List (aE × Int)) (o14_102 : List Int) : Prop :=
    mZ againQ again0 t19_102 t20_102 d_102 d_102_2 lucky_102 o14_102

def eP (againQ : (Bool × (List Int) × (List (aE × Int))) → Prop) (again0 : Int → (List Int) → (List (aE × Int)) → (List Int) → Prop) (i_2 : Int) (t19_2 : Int) (t20_2 : Int) (d_2_2 : aU) : Nat → Bool → (List Int) → (List (aE × Int)) → aE → (List Int) → Prop
  | 0, _, _, _, _, _ => False
  | k2 + 1, isv_2, d_2, lucky_2, s_2, o14_2 =>
    bif isv_2 then (nb (dC o14_2 s_2.Player) fun r5 =>
    bif r5 then (againQ (false, d_2, lucky_2))
    else (nb (idx d_2 i_2) fun x6 =>
    nb (app 8 o14_2 ([s_2.Player])) fun x7 =>
    jM d_2_2 (d_2.set i_2.toNat s_2.Player) (rX s_2 lucky_2) i_2 fun r10 =>
    (eP againQ again0 i_2 t19_2 t20_2 d_2_2 k2) r10.2 (d_2.set i_2.toNat s_2.Player) (rX s_2 lucky_2) r10.1 x7))
    else (nA againQ again0 t19_2 t20_2 d_2 d_2_2 lucky_2 o14_2)

def mY (againQ : (Bool × (List Int) × (List (aE × Int))) → Prop) (d_100 : List Int) (d_100_2 : aU) (lucky_100 : List (aE × Int)) : Prop :=
    againQ (decide ((lucky_100.length : Int) = 0), d_100, lucky_100)

def dD (againQ : (Bool × (List Int) × (List (aE × Int))) → Prop) (t19_0 : Int) (d_0_2 : aU) : Nat → Int → (List Int) → (List (aE × Int)) → (List Int) → Prop
  | 0, _, _, _, _ => False
  | k0 + 1, t20_0, d_0, lucky_0, o14_0 =>
    bif decide (t20_0 < t19_0) then (jM d_0_2 d_0 lucky_0 t20_0 fun r3 =>
    eP againQ (dD againQ t19_0 d_0_2 k0) t20_0 t19_0 t20_0 d_0_2 BIG r3.2 d_0 lucky_0 r3.1 o14_0)
    else (mY againQ d_0 d_0_2 lucky_0)

def mI (d_0_Tree : aU) (d_0_players : List Int) (lucky_1 : List (aE × Int)) (Q : (Bool × (List Int) × (List (aE × Int))) → Prop) : Prop :=
    nb (slices_Clone_int d_0_Tree.Slots) fun r1 =>
    dD Q (d_0_players.length : Int) d_0_Tree BIG 0 d_0_players lucky_1 r1

def pI (round_0 : Int) (slot_1 : Int) : Option aG :=
    (chk (decide (0 ≤ (w64 (round_0 + 1))))).bind fun u2 =>
    some (aG.mk round_0 (slot_1.fdiv (2 ^ (min (w64 (round_0 + 1)).toNat 64))))

def tF (d_100 : List Int) (d_100_2 : List (aG × Int)) (d_100_3 : aU) : Option (Bool × (List (aG × Int))) :=
    some (true, d_100_2)

def jF (slot_0 : Int) (t12_0 : Int) (d_0 : List Int) (d_0_3 : aU) : Nat → Int → (List (aG × Int)) → Option (Bool × (List (aG × Int)))
  | 0, _, _ => none
  | k0 + 1, t13_0, d_0_2 =>
    bif decide (t13_0 < t12_0) then ((pI t13_0 slot_0).bind fun r1 =>
    (bif eF r1 d_0_2 then ((idx d_0 slot_0).bind fun x3 =>
    some (!decide ((cZ r1 0 d_0_2) = x3))) else (some false)).bind fun b4 =>
    bif b4 then (some (false, d_0_2))
    else ((idx d_0 slot_0).bind fun x5 =>
    (jF slot_0 t12_0 d_0 d_0_3 k0) (w64 (t13_0 + 1)) (hC r1 x5 d_0_2)))
    else (tF d_0 d_0_2 d_0_3)

def mN (d_0_Tree : aU) (d_0_players : List Int) (d_0_won : List (aG × Int)) (slot_1 : Int) (round_2 : Int) : Option (Bool × (List (aG × Int))) :=
    jF slot_1 (w64 (round_2 + 1)) d_0_players d_0_Tree BIG 0 d_0_won

def wZ (againQ : ((Option bE) × Bool) → Prop) (o22_104 : List Int) (o23_104 : List (aG × Int)) (o25_104 : aU) : Prop :=
    againQ ((some (bE.mk o25_104 o22_104 o23_104)), true)

def lI (againQ : ((Option bE) × Bool) → Prop) (o22_4 : List Int) (o25_4 : aU) (o27_4 : List (aG × aE)) : Nat → (List (aG × Int)) → (List (aG × aE)) → Prop
  | 0, _, _ => False
  | k4 + 1, o23_4, left_4 =>
    aRa left_4 (wZ againQ o22_4 o23_4 o25_4)
    (fun p23 left24 =>
    nb (iF o22_4 p23.2.Player) fun r27 =>
    nb (bif decide (r27 < 0) then (some true) else ((pI p23.1.round r27).bind fun r28 =>
    some (!decide (r28 = p23.1)))) fun b29 =>
    bif b29 then (againQ ((none : Option bE), false))
    else (nb (mN o25_4 o22_4 o23_4 r27 p23.1.round) fun r31 =>
    bif !r31.1 then (againQ ((none : Option bE), false))
    else ((lI againQ o22_4 o25_4 o27_4 k4) r31.2 left24)))

def tE (againQ : ((Option bE) × Bool) → Prop) (o22_102 : List Int) (o23_102 : List (aG × Int)) (o25_102 : aU) (o27_102 : List (aG × aE)) : Prop :=
    aEm o27_102 fun left21 =>
    lI againQ o22_102 o25_102 o27_102 BIG o23_102 left21

def jD (againQ : ((Option bE) × Bool) → Prop) (t72_2 : Int) (o22_2 : List Int) (o25_2 : aU) (o27_2 : List (aG × aE)) : Nat → Int → (List (aG × Int)) → Prop
  | 0, _, _ => False
  | k2 + 1, t73_2, o23_2 =>
    bif decide (t73_2 < t72_2) then (nb (idx o22_2 t73_2) fun x16 =>
    bif decide (x16 = (-1)) then (nb (mN o25_2 o22_2 o23_2 (aQa t73_2 1) 0) fun r17 =>
    (jD againQ t72_2 o22_2 o25_2 o27_2 k2) (w64 (t73_2 + 1)) r17.2)
    else ((jD againQ t72_2 o22_2 o25_2 o27_2 k2) (w64 (t73_2 + 1)) o23_2))
    else (tE againQ o22_2 o23_2 o25_2 o27_2)

def tD (againQ : ((Option bE) × Bool) → Prop) (o22_100 : List Int) (o23_100 : List (aG × Int)) (o25_100 : aU) (o26_100 : List (aE × Int)) (o27_100 : List (aG × aE)) : Prop :=
    mI o25_100 o22_100 o26_100 fun r13 =>
    bif !r13.1 then (againQ ((none : Option bE), false))
    else (jD againQ (r13.2.1.length : Int) r13.2.1 o25_100 o27_100 BIG 0 o23_100)

def jC (againQ : ((Option bE) × Bool) → Prop) (t28_0 : List aE) (t29_0 : Int) (o22_0 : List Int) (o23_0 : List (aG × Int)) (o25_0 : aU) : Nat → Int → (List (aE × Int)) → (List (aG × aE)) → Prop
  | 0, _, _, _ => False
  | k0 + 1, t30_0, o26_0, o27_0 =>
    bif decide (t30_0 < t29_0) then (nb (idx t28_0 t30_0) fun x8 =>
    bif decide (x8.Kind = 5) then ((jC againQ t28_0 t29_0 o22_0 o23_0 o25_0 k0) (w64 (t30_0 + 1)) (hC x8 (w64 ((cZ x8 0 o26_0) + 1)) o26_0) o27_0)
    else (nb (bif eF (aG.mk x8.Round x8.Place) o27_0 then (some (!decide ((cZ (aG.mk x8.Round x8.Place) (aE.mk 0 0 0 0 0) o27_0) = x8))) else (some false)) fun b12 =>
    bif b12 then (againQ ((none : Option bE), false))
    else ((jC againQ t28_0 t29_0 o22_0 o23_0 o25_0 k0) (w64 (t30_0 + 1)) o26_0 (hC (aG.mk x8.Round x8.Place) x8 o27_0))))
    else (tD againQ o22_0 o23_0 o25_0 o26_0 o27_0)

def tS (t_0 : aU) (l_1 : List aE) (Q : ((Option bE) × Bool) → Prop) : Prop :=
    nb (slices_Clone_int t_0.Slots) fun r2 =>
    jC Q l_1 (l_1.length : Int) r2 ([] : List (aG × Int)) t_0 BIG 0 ([] : List (aE × Int)) ([] : List (aG × aE))

def nZ (t_0 : aU) (l_1 : List aE) (Q : ((Option bE) × Int) → Prop) : Prop :=
    nb (pW t_0) fun r2 =>
    bif !r2 then (Q ((none : Option bE), 70))
    else (nb (bif decide (60 < (l_1.length : Int)) then (some true) else ((iX l_1 (fun y3 => pX y3 t_0)).bind fun r4 =>
    some r4)) fun b5 =>
    bif b5 then (Q ((none : Option bE), 71))
    else (tS t_0 l_1 fun r6 =>
    bif !r6.2 then (Q ((none : Option bE), 72))
    else (Q (r6.1, 0))))

def tR (t_0 : aU) (l_1 : List aE) (Q : Int → Prop) : Prop :=
    nZ t_0 l_1 fun r2 =>
    Q r2.2

def tT (x_0 : Int) : Option Bool :=
    some (!decide (x_0 = x_0))

def uW (x_0 : Int) (y_1 : Int) : Option Bool :=
    (tT x_0).bind fun r1 =>
    (bif r1 then ((tT y_1).bind fun r2 =>
    some (!r2)) else (some false)).bind fun b3 =>
    (bif b3 then (some true) else (some (decide (x_0 < y_1)))).bind fun b4 =>
    some b4

def wR : Option Bool :=
    some true

def iG (x_0 : List Int) : Nat → Int → Option Bool
  | 0, _ => none
  | k0 + 1, i_0 =>
    bif decide (0 < i_0) then ((idx x_0 i_0).bind fun x1 =>
    (idx x_0 (w64 (i_0 - 1))).bind fun x2 =>
    (uW x1 x2).bind fun r3 =>
    bif r3 then (some false)
    else ((iG x_0 k0) (w64 (i_0 - 1))))
    else (wR)

def nH (x_0 : List Int) : Option Bool :=
    iG x_0 BIG (w64 ((x_0.length : Int) - 1))

def gD (n_0 : Int) (low_1 : Int) (high_2 : Int) : Option Bool :=
    (bif decide (low_1 ≤ n_0) then (some (decide (n_0 ≤ high_2))) else (some false)).bind fun b1 =>
    some b1

def uB (p_0 : aK) : Option Bool :=
    (bif !decide ((p_0.Prizes.length : Int) = (w64 (p_0.Tree.Rounds + 1))) then (some true) else ((nH p_0.Prizes).bind fun r2 =>
    some (!r2))).bind fun b3 =>
    (bif b3 then (some true) else ((gD p_0.Daily 0 100000).bind fun r4 =>
    some (!r4))).bind fun b5 =>
    bif b5 then (some false)
    else ((idx p_0.Prizes 0).bind fun x6 =>
    (bif decide (0 ≤ x6) then ((idx p_0.Prizes (w64 ((p_0.Prizes.length : Int) - 1))).bind fun x7 =>
    some (decide (x7 ≤ 10000000))) else (some false)).bind fun b8 =>
    some b8)

def slices_Sort_int (x : List Int) : Option (List Int) := if x.length < 4611686018427387904 then some (fH x) else none

def tM (out_100 : List Int) : Option ((List Int)) :=
    (slices_Sort_int out_100).bind fun r9 =>
    some r9

def kF (t7_0 : List bX) (t8_0 : Int) : Nat → Int → (List Int) → Option ((List Int))
  | 0, _, _ => none
  | k0 + 1, t9_0, out_0 =>
    bif decide (t9_0 < t8_0) then ((idx t7_0 t9_0).bind fun x3 =>
    (app 8 out_0 ([x3.One])).bind fun x5 =>
    bif !decide (x3.Two = (-1)) then ((app 8 x5 ([x3.Two])).bind fun x7 =>
    (kF t7_0 t8_0 k0) (w64 (t9_0 + 1)) x7)
    else ((kF t7_0 t8_0 k0) (w64 (t9_0 + 1)) x5))
    else (tM out_0)

def mW (p_0 : aK) : Option ((List Int)) :=
    kF p_0.Teams (p_0.Teams.length : Int) BIG 0 ([] : List Int)

def sQ (again0 : Int → (List Int) → Option ((List Int))) (k_102 : Int) (s_102 : List Int) : Option ((List Int)) :=
    (chk (decide (0 ≤ k_102) && decide (k_102 ≤ (s_102.length : Int)))).bind fun u9 =>
    (chk (decide (k_102.toNat ≤ s_102.length))).bind fun u10 =>
    (chk (decide (0 ≤ k_102))).bind fun u11 =>
    some (s_102.take k_102.toNat)

def gX (again0 : Int → (List Int) → Option ((List Int))) (s2_2 : Int) : Nat → Int → Int → (List Int) → Option ((List Int))
  | 0, _, _, _ => none
  | k2 + 1, k_2, k2_2, s_2 =>
    bif decide (k2_2 < ((s_2.drop s2_2.toNat).length : Int)) then ((idx (s_2.drop s2_2.toNat) k2_2).bind fun x5 =>
    (idx (s_2.drop s2_2.toNat) (w64 (k2_2 - 1))).bind fun x6 =>
    bif !decide (x5 = x6) then ((idx (s_2.drop s2_2.toNat) k2_2).bind fun x7 =>
    (idx s_2 k_2).bind fun x8 =>
    (gX again0 s2_2 k2) (w64 (k_2 + 1)) (w64 (k2_2 + 1)) (s_2.set k_2.toNat x7))
    else ((gX again0 s2_2 k2) k_2 (w64 (k2_2 + 1)) s_2))
    else (sQ again0 k_2 s_2)

def sP (again0 : Int → (List Int) → Option ((List Int))) (k_101 : Int) (s_101 : List Int) : Option ((List Int)) :=
    again0 (w64 (k_101 + 1)) s_101

def sO (s_100 : List Int) : Option ((List Int)) :=
    some s_100

def fM : Nat → Int → (List Int) → Option ((List Int))
  | 0, _, _ => none
  | k0 + 1, k_0, s_0 =>
    bif decide (k_0 < (s_0.length : Int)) then ((idx s_0 k_0).bind fun x2 =>
    (idx s_0 (w64 (k_0 - 1))).bind fun x3 =>
    bif decide (x2 = x3) then ((chk (decide (0 ≤ k_0) && decide (k_0 ≤ (s_0.length : Int)))).bind fun u4 =>
    gX (fM k0) k_0 BIG k_0 1 s_0)
    else (sP (fM k0) k_0 s_0))
    else (sO s_0)

def slices_Compact_int (s_0 : List Int) : Option ((List Int)) :=
    bif decide ((s_0.length : Int) < 2) then (some s_0)
    else (fM BIG 1 s_0)

def oS (l_0 : List Int) : Option Bool :=
    (slices_Clone_int l_0).bind fun r1 =>
    (slices_Compact_int r1).bind fun r3 =>
    some (decide ((r3.length : Int) = (l_0.length : Int)))

def vP : Option Bool :=
    some true

def gS (people_0 : List Int) (ofv_0 : fE → Option (Int × Bool)) (t12_0 : List fE) (t13_0 : Int) : Nat → Int → (List Int) → Option Bool
  | 0, _, _ => none
  | k0 + 1, t14_0, done_0 =>
    bif decide (t14_0 < t13_0) then ((idx t12_0 t14_0).bind fun x2 =>
    (ofv_0 x2).bind fun r4 =>
    (bif !r4.2 then (some true) else ((dC people_0 r4.1).bind fun r5 =>
    some (!r5))).bind fun b6 =>
    (bif b6 then (some true) else ((dC done_0 r4.1).bind fun r7 =>
    some r7)).bind fun b8 =>
    bif b8 then (some false)
    else ((app 8 done_0 ([r4.1])).bind fun x9 =>
    (gS people_0 ofv_0 t12_0 t13_0 k0) (w64 (t14_0 + 1)) x9))
    else (vP)

def lZ (people_0 : List Int) (l_1 : List fE) (of_2 : fE → Option (Int × Bool)) : Option Bool :=
    gS people_0 of_2 l_1 (l_1.length : Int) BIG 0 ([] : List Int)

def lN (l_0 : fE) : Option (Int × Bool) :=
    (gD l_0.Mille 0 500).bind fun r2 =>
    some (l_0.Person, r2)

def vQ : Option Bool :=
    some true

def gT (people_0 : List Int) (ofv_0 : dX → Option (Int × Bool)) (t12_0 : List dX) (t13_0 : Int) : Nat → Int → (List Int) → Option Bool
  | 0, _, _ => none
  | k0 + 1, t14_0, done_0 =>
    bif decide (t14_0 < t13_0) then ((idx t12_0 t14_0).bind fun x2 =>
    (ofv_0 x2).bind fun r4 =>
    (bif !r4.2 then (some true) else ((dC people_0 r4.1).bind fun r5 =>
    some (!r5))).bind fun b6 =>
    (bif b6 then (some true) else ((dC done_0 r4.1).bind fun r7 =>
    some r7)).bind fun b8 =>
    bif b8 then (some false)
    else ((app 8 done_0 ([r4.1])).bind fun x9 =>
    (gT people_0 ofv_0 t12_0 t13_0 k0) (w64 (t14_0 + 1)) x9))
    else (vQ)

def mA (people_0 : List Int) (l_1 : List dX) (of_2 : dX → Option (Int × Bool)) : Option Bool :=
    gT people_0 of_2 l_1 (l_1.length : Int) BIG 0 ([] : List Int)

def lO (r_0 : dX) : Option (Int × Bool) :=
    (gD r_0.Num 1 10000).bind fun r2 =>
    (bif r2 then ((gD r_0.Den 1 10000).bind fun r3 =>
    some r3) else (some false)).bind fun b4 =>
    some (r_0.Person, b4)

def pC (people_104 : List Int) (p_104 : aK) : Option Bool :=
    (lZ people_104 p_104.Levies (fun y24 => lN y24)).bind fun r25 =>
    (bif r25 then ((mA people_104 p_104.Rates (fun y26 => lO y26)).bind fun r27 =>
    some r27) else (some false)).bind fun b28 =>
    some b28

def kP (people_4 : List Int) (t76_4 : List aE) (t77_4 : Int) (p_4 : aK) (players_4 : List Int) : Nat → Int → Option Bool
  | 0, _ => none
  | k4 + 1, t78_4 =>
    bif decide (t78_4 < t77_4) then ((idx t76_4 t78_4).bind fun x20 =>
    (bif decide (x20.Kind = 5) then ((dC players_4 x20.Player).bind fun r22 =>
    some (!r22)) else (some false)).bind fun b23 =>
    bif b23 then (some false)
    else ((kP people_4 t76_4 t77_4 p_4 players_4 k4) (w64 (t78_4 + 1))))
    else (pC people_4 p_4)

def pB (people_102 : List Int) (p_102 : aK) (players_102 : List Int) : Option Bool :=
    kP people_102 p_102.Slips (p_102.Slips.length : Int) p_102 players_102 BIG 0

def jP (people_2 : List Int) (t60_2 : List Int) (t61_2 : Int) (p_2 : aK) (players_2 : List Int) : Nat → Int → Option Bool
  | 0, _ => none
  | k2 + 1, t62_2 =>
    bif decide (t62_2 < t61_2) then ((idx t60_2 t62_2).bind fun x17 =>
    (bif !decide (x17 = (-1)) then ((dC players_2 x17).bind fun r18 =>
    some (!r18)) else (some false)).bind fun b19 =>
    bif b19 then (some false)
    else ((jP people_2 t60_2 t61_2 p_2 players_2 k2) (w64 (t62_2 + 1))))
    else (pB people_2 p_2 players_2)

def pA (p_100 : aK) (players_100 : List Int) : Option Bool :=
    (slices_Sort_int players_100).bind fun r12 =>
    (mW p_100).bind fun r13 =>
    (oS r12).bind fun r14 =>
    (bif !r14 then (some true) else ((oS r13).bind fun r15 =>
    some (!r15))).bind fun b16 =>
    bif b16 then (some false)
    else (jP r13 p_100.Tree.Slots (p_100.Tree.Slots.length : Int) p_100 r12 BIG 0)

def kO (t18_0 : List bX) (t19_0 : Int) (p_0 : aK) : Nat → Int → (List Int) → Option Bool
  | 0, _, _ => none
  | k0 + 1, t20_0, players_0 =>
    bif decide (t20_0 < t19_0) then ((idx t18_0 t20_0).bind fun x3 =>
    (gD x3.Player 0 999).bind fun r5 =>
    (bif !r5 then (some true) else ((gD x3.One 0 999).bind fun r6 =>
    some (!r6))).bind fun b7 =>
    (bif b7 then (some true) else ((gD x3.Two (-1) 999).bind fun r8 =>
    some (!r8))).bind fun b9 =>
    bif b9 then (some false)
    else ((app 8 players_0 ([x3.Player])).bind fun x10 =>
    (kO t18_0 t19_0 p_0 k0) (w64 (t20_0 + 1)) x10))
    else (pA p_0 players_0)

def sL (p_0 : aK) : Option Bool :=
    bif decide (64 < (p_0.Teams.length : Int)) then (some false)
    else (kO p_0.Teams (p_0.Teams.length : Int) p_0 BIG 0 ([] : List Int))

def mC (s_0 : List aI) : Option ((List aI)) :=
    (app 32 ([] : List aI) s_0).bind fun x5 =>
    some x5

def gP (again0 : Int → (List aI) → Option ((List aI))) (a_101 : Int) (b_101 : Int) (cmp_101 : aI → aI → Option Int) (i_101 : Int) (data_101 : List aI) : Option ((List aI)) :=
    again0 (w64 (i_101 + 1)) data_101

def gQ (again0 : Int → (List aI) → Option ((List aI))) (a_102 : Int) (b_102 : Int) (cmp_102 : aI → aI → Option Int) (i_102 : Int) (data_102 : List aI) : Option ((List aI)) :=
    gP again0 a_102 b_102 cmp_102 i_102 data_102

def cX (again0 : Int → (List aI) → Option ((List aI))) (a_2 : Int) (b_2 : Int) (cmp_2 : aI → aI → Option Int) (i_2 : Int) : Nat → Int → (List aI) → Option ((List aI))
  | 0, _, _ => none
  | k2 + 1, j_2, data_2 =>
    (bif decide (a_2 < j_2) then ((idx data_2 j_2).bind fun x1 =>
    (idx data_2 (w64 (j_2 - 1))).bind fun x2 =>
    (cmp_2 x1 x2).bind fun r3 =>
    some (decide (r3 < 0))) else (some false)).bind fun b4 =>
    bif b4 then ((idx data_2 (w64 (j_2 - 1))).bind fun x5 =>
    (idx data_2 j_2).bind fun x6 =>
    (idx data_2 j_2).bind fun x7 =>
    (idx (data_2.set j_2.toNat x5) (w64 (j_2 - 1))).bind fun x8 =>
    (cX again0 a_2 b_2 cmp_2 i_2 k2) (w64 (j_2 - 1)) ((data_2.set j_2.toNat x5).set (w64 (j_2 - 1)).toNat x6))
    else (gQ again0 a_2 b_2 cmp_2 i_2 data_2)

def gO (data_100 : List aI) : Option ((List aI)) :=
    some data_100

def cJ (a_0 : Int) (b_0 : Int) (cmp_0 : aI → aI → Option Int) : Nat → Int → (List aI) → Option ((List aI))
  | 0, _, _ => none
  | k0 + 1, i_0, data_0 =>
    bif decide (i_0 < b_0) then (cX (cJ a_0 b_0 cmp_0 k0) a_0 b_0 cmp_0 i_0 BIG i_0 data_0)
    else (gO data_0)

def dN (data_0 : List aI) (a_1 : Int) (b_2 : Int) (cmp_3 : aI → aI → Option Int) : Option ((List aI)) :=
    cJ a_1 b_2 cmp_3 BIG (w64 (a_1 + 1)) data_0

def kK (data_100 : List aI) : Option ((List aI)) :=
    some data_100

def eA (a_0 : Int) (b_0 : Int) (n_0 : Int) : Nat → Int → (List aI) → Option ((List aI))
  | 0, _, _ => none
  | k0 + 1, i_0, data_0 =>
    bif decide (i_0 < n_0) then ((idx data_0 (w64 (b_0 + i_0))).bind fun x1 =>
    (idx data_0 (w64 (a_0 + i_0))).bind fun x2 =>
    (idx data_0 (w64 (a_0 + i_0))).bind fun x3 =>
    (idx (data_0.set (w64 (a_0 + i_0)).toNat x1) (w64 (b_0 + i_0))).bind fun x4 =>
    (eA a_0 b_0 n_0 k0) (w64 (i_0 + 1)) ((data_0.set (w64 (a_0 + i_0)).toNat x1).set (w64 (b_0 + i_0)).toNat x2))
    else (kK data_0)

def eO (data_0 : List aI) (a_1 : Int) (b_2 : Int) (n_3 : Int) (cmp_4 : aI → aI → Option Int) : Option ((List aI)) :=
    eA a_1 b_2 n_3 BIG 0 data_0

def lP (m_100 : Int) (cmp_100 : aI → aI → Option Int) (i_100 : Int) (data_100 : List aI) : Option ((List aI)) :=
    (eO data_100 (w64 (m_100 - i_100)) m_100 i_100 cmp_100).bind fun r3 =>
    some r3

def dE (m_0 : Int) (cmp_0 : aI → aI → Option Int) : Nat → Int → Int → (List aI) → Option ((List aI))
  | 0, _, _, _ => none
  | k0 + 1, i_0, j_0, data_0 =>
    bif !decide (i_0 = j_0) then (bif decide (j_0 < i_0) then ((eO data_0 (w64 (m_0 - i_0)) m_0 j_0 cmp_0).bind fun r1 =>
    (dE m_0 cmp_0 k0) (w64 (i_0 - j_0)) j_0 r1)
    else ((eO data_0 (w64 (m_0 - i_0)) (w64 ((w64 (m_0 + j_0)) - i_0)) i_0 cmp_0).bind fun r2 =>
    (dE m_0 cmp_0 k0) i_0 (w64 (j_0 - i_0)) r2))
    else (lP m_0 cmp_0 i_0 data_0)

def gE (data_0 : List aI) (a_1 : Int) (m_2 : Int) (b_3 : Int) (cmp_4 : aI → aI → Option Int) : Option ((List aI)) :=
    dE m_2 cmp_4 BIG (w64 (m_2 - a_1)) (w64 (b_3 - m_2)) data_0

def kS (againR : (List aI) → Int → Int → Int → Option ((List aI))) (data_102 : List aI) : Option ((List aI)) :=
    some data_102

def eG (againR : (List aI) → Int → Int → Int → Option ((List aI))) (i_2 : Int) : Nat → Int → (List aI) → Option ((List aI))
  | 0, _, _ => none
  | k2 + 1, k_2, data_2 =>
    bif decide (k_2 < (w64 (i_2 - 1))) then ((idx data_2 (w64 (k_2 + 1))).bind fun x4 =>
    (idx data_2 k_2).bind fun x5 =>
    (idx data_2 k_2).bind fun x6 =>
    (idx (data_2.set k_2.toNat x4) (w64 (k_2 + 1))).bind fun x7 =>
    (eG againR i_2 k2) (w64 (k_2 + 1)) ((data_2.set k_2.toNat x4).set (w64 (k_2 + 1)).toNat x5))
    else (kS againR data_2)

def iQ (againR : (List aI) → Int → Int → Int → Option ((List aI))) (a_100 : Int) (i_100 : Int) (data_100 : List aI) : Option ((List aI)) :=
    eG againR i_100 BIG a_100 data_100

def cU (againR : (List aI) → Int → Int → Int → Option ((List aI))) (a_0 : Int) (cmp_0 : aI → aI → Option Int) (data_0 : List aI) : Nat → Int → Int → Option ((List aI))
  | 0, _, _ => none
  | k0 + 1, i_0, j_0 =>
    bif decide (i_0 < j_0) then ((idx data_0 (w64 ((IntKind.u64.wrap (w64 (i_0 + j_0))).fdiv (2 ^ (min (1 : Int).toNat 64))))).bind fun x1 =>
    (idx data_0 a_0).bind fun x2 =>
    (cmp_0 x1 x2).bind fun r3 =>
    bif decide (r3 < 0) then ((cU againR a_0 cmp_0 data_0 k0) (w64 ((w64 ((IntKind.u64.wrap (w64 (i_0 + j_0))).fdiv (2 ^ (min (1 : Int).toNat 64)))) + 1)) j_0)
    else ((cU againR a_0 cmp_0 data_0 k0) i_0 (w64 ((IntKind.u64.wrap (w64 (i_0 + j_0))).fdiv (2 ^ (min (1 : Int).toNat 64))))))
    else (iQ againR a_0 i_0 data_0)

def kT (againR : (List aI) → Int → Int → Int → Option ((List aI))) (data_106 : List aI) : Option ((List aI)) :=
    some data_106

def eH (againR : (List aI) → Int → Int → Int → Option ((List aI))) (i_6 : Int) : Nat → Int → (List aI) → Option ((List aI))
  | 0, _, _ => none
  | k6 + 1, k_6, data_6 =>
    bif decide (i_6 < k_6) then ((idx data_6 (w64 (k_6 - 1))).bind fun x11 =>
    (idx data_6 k_6).bind fun x12 =>
    (idx data_6 k_6).bind fun x13 =>
    (idx (data_6.set k_6.toNat x11) (w64 (k_6 - 1))).bind fun x14 =>
    (eH againR i_6 k6) (w64 (k_6 - 1)) ((data_6.set k_6.toNat x11).set (w64 (k_6 - 1)).toNat x12))
    else (kT againR data_6)

def iR (againR : (List aI) → Int → Int → Int → Option ((List aI))) (m_104 : Int) (i_104 : Int) (data_104 : List aI) : Option ((List aI)) :=
    eH againR i_104 BIG m_104 data_104

def cV (againR : (List aI) → Int → Int → Int → Option ((List aI))) (m_4 : Int) (cmp_4 : aI → aI → Option Int) (data_4 : List aI) : Nat → Int → Int → Option ((List aI))
  | 0, _, _ => none
  | k4 + 1, i_4, j_4 =>
    bif decide (i_4 < j_4) then ((idx data_4 m_4).bind fun x8 =>
    (idx data_4 (w64 ((IntKind.u64.wrap (w64 (i_4 + j_4))).fdiv (2 ^ (min (1 : Int).toNat 64))))).bind fun x9 =>
    (cmp_4 x8 x9).bind fun r10 =>
    bif !(decide (r10 < 0)) then ((cV againR m_4 cmp_4 data_4 k4) (w64 ((w64 ((IntKind.u64.wrap (w64 (i_4 + j_4))).fdiv (2 ^ (min (1 : Int).toNat 64)))) + 1)) j_4)
    else ((cV againR m_4 cmp_4 data_4 k4) i_4 (w64 ((IntKind.u64.wrap (w64 (i_4 + j_4))).fdiv (2 ^ (min (1 : Int).toNat 64))))))
    else (iR againR m_4 i_4 data_4)

def dJ (againR : (List aI) → Int → Int → Int → Option ((List aI))) (a_108 : Int) (m_108 : Int) (b_108 : Int) (cmp_108 : aI → aI → Option Int) (mid_108 : Int) (n_108 : Int) (start_108 : Int) (data_108 : List aI) : Option ((List aI)) :=
    (bif decide (start_108 < m_108) then (some (decide (m_108 < (w64 (n_108 - start_108))))) else (some false)).bind fun b18 =>
    bif b18 then ((gE data_108 start_108 m_108 (w64 (n_108 - start_108)) cmp_108).bind fun r19 =>
    (bif decide (a_108 < start_108) then (some (decide (start_108 < mid_108))) else (some false)).bind fun b20 =>
    bif b20 then ((againR r19 a_108 start_108 mid_108).bind fun r21 =>
    (bif decide (mid_108 < (w64 (n_108 - start_108))) then (some (decide ((w64 (n_108 - start_108)) < b_108))) else (some false)).bind fun b22 =>
    bif b22 then ((againR r21 mid_108 (w64 (n_108 - start_108)) b_108).bind fun r23 =>
    some r23)
    else (some r21))
    else ((bif decide (mid_108 < (w64 (n_108 - start_108))) then (some (decide ((w64 (n_108 - start_108)) < b_108))) else (some false)).bind fun b24 =>
    bif b24 then ((againR r19 mid_108 (w64 (n_108 - start_108)) b_108).bind fun r25 =>
    some r25)
    else (some r19)))
    else ((bif decide (a_108 < start_108) then (some (decide (start_108 < mid_108))) else (some false)).bind fun b26 =>
    bif b26 then ((againR data_108 a_108 start_108 mid_108).bind fun r27 =>
    (bif decide (mid_108 < (w64 (n_108 - start_108))) then (some (decide ((w64 (n_108 - start_108)) < b_108))) else (some false)).bind fun b28 =>
    bif b28 then ((againR r27 mid_108 (w64 (n_108 - start_108)) b_108).bind fun r29 =>
    some r29)
    else (some r27))
    else ((bif decide (mid_108 < (w64 (n_108 - start_108))) then (some (decide ((w64 (n_108 - start_108)) < b_108))) else (some false)).bind fun b30 =>
    bif b30 then ((againR data_108 mid_108 (w64 (n_108 - start_108)) b_108).bind fun r31 =>
    some r31)
    else (some data_108)))

def cF (againR : (List aI) → Int → Int → Int → Option ((List aI))) (a_8 : Int) (m_8 : Int) (b_8 : Int) (cmp_8 : aI → aI → Option Int) (mid_8 : Int) (n_8 : Int) (p_8 : Int) (data_8 : List aI) : Nat → Int → Int → Option ((List aI))
  | 0, _, _ => none
  | k8 + 1, start_8, r_8 =>
    bif decide (start_8 < r_8) then ((idx data_8 (w64 (p_8 - (w64 ((IntKind.u64.wrap (w64 (start_8 + r_8))).fdiv (2 ^ (min (1 : Int).toNat 64))))))).bind fun x15 =>
    (idx data_8 (w64 ((IntKind.u64.wrap (w64 (start_8 + r_8))).fdiv (2 ^ (min (1 : Int).toNat 64))))).bind fun x16 =>
    (cmp_8 x15 x16).bind fun r17 =>
    bif !(decide (r17 < 0)) then ((cF againR a_8 m_8 b_8 cmp_8 mid_8 n_8 p_8 data_8 k8) (w64 ((w64 ((IntKind.u64.wrap (w64 (start_8 + r_8))).fdiv (2 ^ (min (1 : Int).toNat 64)))) + 1)) r_8)
    else ((cF againR a_8 m_8 b_8 cmp_8 mid_8 n_8 p_8 data_8 k8) start_8 (w64 ((IntKind.u64.wrap (w64 (start_8 + r_8))).fdiv (2 ^ (min (1 : Int).toNat 64))))))
    else (dJ againR a_8 m_8 b_8 cmp_8 mid_8 n_8 start_8 data_8)

def bH (cmp_4 : aI → aI → Option Int) : Nat → (List aI) → Int → Int → Int → Option ((List aI))
  | 0, _, _, _, _ => none
  | kr + 1, data_0, a_1, m_2, b_3 =>
    bif decide ((w64 (m_2 - a_1)) = 1) then (cU (bH cmp_4 kr) a_1 cmp_4 data_0 BIG m_2 b_3)
    else (bif decide ((w64 (b_3 - m_2)) = 1) then (cV (bH cmp_4 kr) m_2 cmp_4 data_0 BIG a_1 m_2)
    else (bif decide ((w64 ((IntKind.u64.wrap (w64 (a_1 + b_3))).fdiv (2 ^ (min (1 : Int).toNat 64)))) < m_2) then (cF (bH cmp_4 kr) a_1 m_2 b_3 cmp_4 (w64 ((IntKind.u64.wrap (w64 (a_1 + b_3))).fdiv (2 ^ (min (1 : Int).toNat 64)))) (w64 ((w64 ((IntKind.u64.wrap (w64 (a_1 + b_3))).fdiv (2 ^ (min (1 : Int).toNat 64)))) + m_2)) (w64 ((w64 ((w64 ((IntKind.u64.wrap (w64 (a_1 + b_3))).fdiv (2 ^ (min (1 : Int).toNat 64)))) + m_2)) - 1)) data_0 BIG (w64 ((w64 ((w64 ((IntKind.u64.wrap (w64 (a_1 + b_3))).fdiv (2 ^ (min (1 : Int).toNat 64)))) + m_2)) - b_3)) (w64 ((IntKind.u64.wrap (w64 (a_1 + b_3))).fdiv (2 ^ (min (1 : Int).toNat 64)))))
    else (cF (bH cmp_4 kr) a_1 m_2 b_3 cmp_4 (w64 ((IntKind.u64.wrap (w64 (a_1 + b_3))).fdiv (2 ^ (min (1 : Int).toNat 64)))) (w64 ((w64 ((IntKind.u64.wrap (w64 (a_1 + b_3))).fdiv (2 ^ (min (1 : Int).toNat 64)))) + m_2)) (w64 ((w64 ((w64 ((IntKind.u64.wrap (w64 (a_1 + b_3))).fdiv (2 ^ (min (1 : Int).toNat 64)))) + m_2)) - 1)) data_0 BIG a_1 m_2)))

def jL (data_0 : List aI) (a_1 : Int) (m_2 : Int) (b_3 : Int) (cmp_4 : aI → aI → Option Int) : Option ((List aI)) := bH cmp_4 BIG data_0 a_1 m_2 b_3

def gU (again2 : Int → (List aI) → Option ((List aI))) (n_103 : Int) (cmp_103 : aI → aI → Option Int) (blockSize_103 : Int) (data_103 : List aI) : Option ((List aI)) :=
    again2 blockSize_103 data_103

def lS (again2 : Int → (List aI) → Option ((List aI))) (n_104 : Int) (cmp_104 : aI → aI → Option Int) (blockSize_104 : Int) (a_104 : Int) (data_104 : List aI) : Option ((List aI)) :=
    bif decide ((w64 (a_104 + blockSize_104)) < n_104) then ((jL data_104 a_104 (w64 (a_104 + blockSize_104)) n_104 cmp_104).bind fun r4 =>
    gU again2 n_104 cmp_104 (w64 (blockSize_104 * 2)) r4)
    else (gU again2 n_104 cmp_104 (w64 (blockSize_104 * 2)) data_104)

def eN (again2 : Int → (List aI) → Option ((List aI))) (n_4 : Int) (cmp_4 : aI → aI → Option Int) (blockSize_4 : Int) : Nat → Int → Int → (List aI) → Option ((List aI))
  | 0, _, _, _ => none
  | k4 + 1, a_4, b_4, data_4 =>
    bif decide (b_4 ≤ n_4) then ((jL data_4 a_4 (w64 (a_4 + blockSize_4)) b_4 cmp_4).bind fun r3 =>
    (eN again2 n_4 cmp_4 blockSize_4 k4) b_4 (w64 (b_4 + (w64 (2 * blockSize_4)))) r3)
    else (lS again2 n_4 cmp_4 blockSize_4 a_4 data_4)

def lR (data_102 : List aI) : Option ((List aI)) :=
    some data_102

def dF (n_2 : Int) (cmp_2 : aI → aI → Option Int) : Nat → Int → (List aI) → Option ((List aI))
  | 0, _, _ => none
  | k2 + 1, blockSize_2, data_2 =>
    bif decide (blockSize_2 < n_2) then (eN (dF n_2 cmp_2 k2) n_2 cmp_2 blockSize_2 BIG 0 (w64 (2 * blockSize_2)) data_2)
    else (lR data_2)

def lQ (n_100 : Int) (cmp_100 : aI → aI → Option Int) (blockSize_100 : Int) (a_100 : Int) (data_100 : List aI) : Option ((List aI)) :=
    (dN data_100 a_100 n_100 cmp_100).bind fun r2 =>
    dF n_100 cmp_100 BIG blockSize_100 r2

def eM (n_0 : Int) (cmp_0 : aI → aI → Option Int) (blockSize_0 : Int) : Nat → Int → Int → (List aI) → Option ((List aI))
  | 0, _, _, _ => none
  | k0 + 1, a_0, b_0, data_0 =>
    bif decide (b_0 ≤ n_0) then ((dN data_0 a_0 b_0 cmp_0).bind fun r1 =>
    (eM n_0 cmp_0 blockSize_0 k0) b_0 (w64 (b_0 + blockSize_0)) r1)
    else (lQ n_0 cmp_0 blockSize_0 a_0 data_0)

def kA (data_0 : List aI) (n_1 : Int) (cmp_2 : aI → aI → Option Int) : Option ((List aI)) :=
    eM n_1 cmp_2 20 BIG 0 20 data_0

def iC (x_0 : List aI) (cmp_1 : aI → aI → Option Int) : Option ((List aI)) :=
    (kA x_0 (x_0.length : Int) cmp_1).bind fun r1 =>
    some r1

def sM (a_0 : aI) (b_1 : aI) : Option Int :=
    some (w64 (a_0.Id - b_1.Id))

def oY (again0 : Int → (List aI) → Option ((List aI))) (k_102 : Int) (s_102 : List aI) : Option ((List aI)) :=
    (chk (decide (0 ≤ k_102) && decide (k_102 ≤ (s_102.length : Int)))).bind fun u9 =>
    (chk (decide (k_102.toNat ≤ s_102.length))).bind fun u10 =>
    (chk (decide (0 ≤ k_102))).bind fun u11 =>
    some (s_102.take k_102.toNat)

def fK (again0 : Int → (List aI) → Option ((List aI))) (s2_2 : Int) : Nat → Int → Int → (List aI) → Option ((List aI))
  | 0, _, _, _ => none
  | k2 + 1, k_2, k2_2, s_2 =>
    bif decide (k2_2 < ((s_2.drop s2_2.toNat).length : Int)) then ((idx (s_2.drop s2_2.toNat) k2_2).bind fun x5 =>
    (idx (s_2.drop s2_2.toNat) (w64 (k2_2 - 1))).bind fun x6 =>
    bif !decide (x5 = x6) then ((idx (s_2.drop s2_2.toNat) k2_2).bind fun x7 =>
    (idx s_2 k_2).bind fun x8 =>
    (fK again0 s2_2 k2) (w64 (k_2 + 1)) (w64 (k2_2 + 1)) (s_2.set k_2.toNat x7))
    else ((fK again0 s2_2 k2) k_2 (w64 (k2_2 + 1)) s_2))
    else (oY again0 k_2 s_2)

def oX (again0 : Int → (List aI) → Option ((List aI))) (k_101 : Int) (s_101 : List aI) : Option ((List aI)) :=
    again0 (w64 (k_101 + 1)) s_101

def oW (s_100 : List aI) : Option ((List aI)) :=
    some s_100

def dR : Nat → Int → (List aI) → Option ((List aI))
  | 0, _, _ => none
  | k0 + 1, k_0, s_0 =>
    bif decide (k_0 < (s_0.length : Int)) then ((idx s_0 k_0).bind fun x2 =>
    (idx s_0 (w64 (k_0 - 1))).bind fun x3 =>
    bif decide (x2 = x3) then ((chk (decide (0 ≤ k_0) && decide (k_0 ≤ (s_0.length : Int)))).bind fun u4 =>
    fK (dR k0) k_0 BIG k_0 1 s_0)
    else (oX (dR k0) k_0 s_0))
    else (oW s_0)

def kN (s_0 : List aI) : Option ((List aI)) :=
    bif decide ((s_0.length : Int) < 2) then (some s_0)
    else (dR BIG 1 s_0)

def aAs (o7_100 : List aI) : Option ((List aI) × Bool) :=
    (kN o7_100).bind fun r11 =>
    some (r11, true)

def lF (o7_0 : List aI) : Nat → Int → Option ((List aI) × Bool)
  | 0, _ => none
  | k0 + 1, i_0 =>
    bif decide (i_0 < (o7_0.length : Int)) then ((idx o7_0 i_0).bind fun x6 =>
    (idx o7_0 (w64 (i_0 - 1))).bind fun x7 =>
    (bif decide (x6.Id = x7.Id) then ((idx o7_0 i_0).bind fun x8 =>
    (idx o7_0 (w64 (i_0 - 1))).bind fun x9 =>
    some (!decide (x8 = x9))) else (some false)).bind fun b10 =>
    bif b10 then (some (([] : List aI), false))
    else ((lF o7_0 k0) (w64 (i_0 + 1))))
    else (aAs o7_0)

def pL (all_0 : List aI) : Option ((List aI) × Bool) :=
    (mC all_0).bind fun r1 =>
    (iC r1 (fun y3 y4 => sM y3 y4)).bind fun r5 =>
    lF r5 BIG 1

def sC (p_100 : aK) : Option Bool :=
    (pL p_100.Items).bind fun r19 =>
    (bif r19.2 then (some (decide ((p_100.Items.length : Int) ≤ 40))) else (some false)).bind fun b20 =>
    some b20

def jO (people_0 : List Int) (t12_0 : List aI) (t13_0 : Int) (p_0 : aK) : Nat → Int → Option Bool
  | 0, _ => none
  | k0 + 1, t14_0 =>
    bif decide (t14_0 < t13_0) then ((idx t12_0 t14_0).bind fun x3 =>
    bif decide (x3.Kind = 2) then ((bif !decide (x3.Kind = 1) then (some (!decide (x3.Kind = 2))) else (some false)).bind fun b5 =>
    (bif b5 then (some true) else ((gD x3.Id 0 99).bind fun r6 =>
    some (!r6))).bind fun b7 =>
    (bif b7 then (some true) else ((dC people_0 x3.Person).bind fun r8 =>
    some (!r8))).bind fun b9 =>
    (bif b9 then (some true) else ((gD x3.Amount 0 30).bind fun r10 =>
    some (!r10))).bind fun b11 =>
    bif b11 then (some false)
    else ((jO people_0 t12_0 t13_0 p_0 k0) (w64 (t14_0 + 1))))
    else ((bif !decide (x3.Kind = 1) then (some (!decide (x3.Kind = 2))) else (some false)).bind fun b12 =>
    (bif b12 then (some true) else ((gD x3.Id 0 99).bind fun r13 =>
    some (!r13))).bind fun b14 =>
    (bif b14 then (some true) else ((dC people_0 x3.Person).bind fun r15 =>
    some (!r15))).bind fun b16 =>
    (bif b16 then (some true) else ((gD x3.Amount 0 10000000).bind fun r17 =>
    some (!r17))).bind fun b18 =>
    bif b18 then (some false)
    else ((jO people_0 t12_0 t13_0 p_0 k0) (w64 (t14_0 + 1)))))
    else (sC p_0)

def sK (p_0 : aK) : Option Bool :=
    (mW p_0).bind fun r2 =>
    jO r2 p_0.Items (p_0.Items.length : Int) p_0 BIG 0

def uO (a0 : aU) (a1 : List aE) : Option Int := gB a0 a1

def sA (p_0 : aK) : Option Int :=
    (uO p_0.Tree p_0.Slips).bind fun r2 =>
    bif !decide (r2 = 0) then (some r2)
    else ((uB p_0).bind fun r3 =>
    bif !r3 then (some 100)
    else ((sL p_0).bind fun r4 =>
    bif !r4 then (some 101)
    else ((sK p_0).bind fun r5 =>
    bif !r5 then (some 102)
    else (some 0))))

def aGp (n_102 : Int) : Option (Int × Int) :=
    some (n_102, 0)

def mU (t44_2 : List Int) (t45_2 : Int) (p_2 : aK) : Nat → Int → Int → Option (Int × Int)
  | 0, _, _ => none
  | k2 + 1, n_2, t46_2 =>
    bif decide (t46_2 < t45_2) then ((idx t44_2 t46_2).bind fun x6 =>
    bif decide (x6 = (-1)) then ((idx p_2.Prizes 0).bind fun x7 =>
    (mU t44_2 t45_2 p_2 k2) (w64 (n_2 - x7)) (w64 (t46_2 + 1)))
    else ((mU t44_2 t45_2 p_2 k2) n_2 (w64 (t46_2 + 1))))
    else (aGp n_2)

def wU (n_100 : Int) (p_100 : aK) : Option (Int × Int) :=
    mU p_100.Tree.Slots (p_100.Tree.Slots.length : Int) p_100 BIG n_100 0

def mT (t23_0 : Int) (p_0 : aK) : Nat → Int → Int → Option (Int × Int)
  | 0, _, _ => none
  | k0 + 1, n_0, t24_0 =>
    bif decide (t24_0 < t23_0) then ((idx p_0.Prizes t24_0).bind fun x4 =>
    (chk (decide (0 ≤ (w64 ((w64 (p_0.Tree.Rounds - 1)) - t24_0))))).bind fun u5 =>
    (mT t23_0 p_0 k0) (w64 (n_0 + (w64 (x4 * 2 ^ (min (w64 ((w64 (p_0.Tree.Rounds - 1)) - t24_0)).toNat 64))))) (w64 (t24_0 + 1)))
    else (wU n_0 p_0)

def yM (p_0 : aK) : Option (Int × Int) :=
    (sA p_0).bind fun r2 =>
    bif !decide (r2 = 0) then (some (0, r2))
    else ((idx p_0.Prizes p_0.Tree.Rounds).bind fun x3 =>
    mT p_0.Tree.Rounds p_0 BIG x3 0)

def sR : Option Int :=
    some (-1)

def fO (s_0 : List bX) (f_0 : bX → Option Bool) (t7_0 : Int) : Nat → Int → Option Int
  | 0, _ => none
  | k0 + 1, t8_0 =>
    bif decide (t8_0 < t7_0) then ((idx s_0 t8_0).bind fun x1 =>
    (f_0 x1).bind fun r2 =>
    bif r2 then (some t8_0)
    else ((fO s_0 f_0 t7_0 k0) (w64 (t8_0 + 1))))
    else (sR)

def mG (s_0 : List bX) (f_1 : bX → Option Bool) : Option Int :=
    fO s_0 f_1 (s_0.length : Int) BIG 0

def uA (t_0 : bX) (c_1 : Int) : Option Bool :=
    (bif decide (t_0.One = c_1) then (some true) else ((bif decide (t_0.Two = c_1) then (some (!decide (t_0.Two = (-1)))) else (some false)).bind fun b2 =>
    some b2)).bind fun b3 =>
    some b3

def yY (againQ : ((Option bE) × (List Int) × Int) → Prop) (d_100 : Option bE) (slots_100 : List Int) : Prop :=
    againQ (d_100, slots_100, 0)

def nJ (againQ : ((Option bE) × (List Int) × Int) → Prop) (t20_0 : List Int) (t21_0 : Int) : Nat → (Option bE) → Int → (List Int) → Prop
  | 0, _, _, _ => False
  | k0 + 1, d_0, t22_0, slots_0 =>
    bif decide (t22_0 < t21_0) then (nb (idx t20_0 t22_0) fun x5 =>
    nb (gL x5 0 999) fun r6 =>
    bif !r6 then (againQ ((none : Option bE), ([] : List Int), 1))
    else (nb (d_0) fun x8 =>
    nb (iF x8.players x5) fun r9 =>
    nb (app 8 slots_0 ([r9])) fun x10 =>
    (nJ againQ t20_0 t21_0 k0) d_0 (w64 (t22_0 + 1)) x10))
    else (yY againQ d_0 slots_0)

def rL (t_0 : aU) (l_1 : List aE) (players_2 : List Int) (Q : ((Option bE) × (List Int) × Int) → Prop) : Prop :=
    nZ t_0 l_1 fun r3 =>
    bif !decide (r3.2 = 0) then (Q ((none : Option bE), ([] : List Int), r3.2))
    else (nJ Q players_2 (players_2.length : Int) BIG r3.1 0 ([] : List Int))

def uH (d_100 : bE) : Option Int :=
    some d_100.Tree.Rounds

def jR (d_0 : bE) (slot_0 : Int) (t12_0 : Int) : Nat → Int → Option Int
  | 0, _ => none
  | k0 + 1, t13_0 =>
    bif decide (t13_0 < t12_0) then ((pI t13_0 slot_0).bind fun r1 =>
    (bif !(eF r1 d_0.won) then (some true) else ((idx d_0.players slot_0).bind fun x2 =>
    some (!decide ((cZ r1 0 d_0.won) = x2)))).bind fun b3 =>
    bif b3 then (some t13_0)
    else ((jR d_0 slot_0 t12_0 k0) (w64 (t13_0 + 1))))
    else (uH d_0)

def qE (d_0 : bE) (slot_1 : Int) : Option Int :=
    jR d_0 slot_1 d_0.Tree.Rounds BIG 0

def uG (d_100 : bE) : Option Int :=
    some d_100.Tree.Rounds

def jQ (d_0 : bE) (slot_0 : Int) (t12_0 : Int) : Nat → Int → Option Int
  | 0, _ => none
  | k0 + 1, t13_0 =>
    bif decide (t13_0 < t12_0) then ((pI t13_0 slot_0).bind fun r1 =>
    (bif eF r1 d_0.won then ((idx d_0.players slot_0).bind fun x2 =>
    some (!decide ((cZ r1 0 d_0.won) = x2))) else (some false)).bind fun b3 =>
    bif b3 then (some t13_0)
    else ((jQ d_0 slot_0 t12_0 k0) (w64 (t13_0 + 1))))
    else (uG d_0)

def qD (d_0 : bE) (slot_1 : Int) : Option Int :=
    jQ d_0 slot_1 d_0.Tree.Rounds BIG 0

def rC (t_0 : aU) (l_1 : List aE) (player_2 : Int) (Q : (cK × Int) → Prop) : Prop :=
    rL t_0 l_1 ([player_2]) fun r3 =>
    bif !decide (r3.2.2 = 0) then (Q ((cK.mk 0 0), r3.2.2))
    else (nb (idx r3.2.1 0) fun x4 =>
    bif decide (x4 < 0) then (Q ((cK.mk 0 0), 3))
    else (nb (r3.1) fun x5 =>
    nb (idx r3.2.1 0) fun x6 =>
    nb (qE x5 x6) fun r7 =>
    nb (idx r3.2.1 0) fun x8 =>
    nb (qD x5 x8) fun r9 =>
    Q ((cK.mk r7 r9), 0)))

def rB (prize_0 : Int) (c_1 : bX) (c_2 : Int) : Option Int :=
    bif decide (c_1.Two = (-1)) then (some prize_0)
    else (bif decide (c_1.One = c_2) then (some (w64 ((w64 (prize_0 + 1)).tdiv 2)))
    else (some (w64 (prize_0.tdiv 2))))

def zZ : Option Int :=
    some (-1)

def oG (player_0 : Int) (d_0 : aT) : Nat → Int → Option Int
  | 0, _ => none
  | k0 + 1, s_0 =>
    bif decide (s_0 < (d_0.Slots.length : Int)) then ((idx d_0.Slots s_0).bind fun x2 =>
    bif decide (x2 = player_0) then (some s_0)
    else ((oG player_0 d_0 k0) (w64 (s_0 + 1))))
    else (zZ)

def yC (d_0 : aT) (player_1 : Int) : Option Int :=
    oG player_1 d_0 BIG 0

def uJ (n_100 : Int) : Option Int :=
    some n_100

def nD (slot_0 : Int) (t_0 : aU) (d_0 : aT) : Nat → Int → Option Int
  | 0, _ => none
  | k0 + 1, n_0 =>
    (bif decide (n_0 < t_0.Rounds) then ((idx d_0.Must n_0).bind fun x3 =>
    (chk (decide (0 ≤ (IntKind.u64.wrap (w64 (n_0 + 1)))))).bind fun u4 =>
    (idx x3 (slot_0.fdiv (2 ^ (min (IntKind.u64.wrap (w64 (n_0 + 1))).toNat 64)))).bind fun x5 =>
    (idx d_0.Slots slot_0).bind fun x6 =>
    some (decide (x5 = x6))) else (some false)).bind fun b7 =>
    bif b7 then ((nD slot_0 t_0 d_0 k0) (w64 (n_0 + 1)))
    else (uJ n_0)

def xB (t_0 : aU) (d_1 : aT) (slot_2 : Int) : Option Int :=
    nD slot_2 t_0 d_1 BIG 0

def vA (n_100 : Int) : Option Int :=
    some n_100

def oE (slot_0 : Int) (t_0 : aU) (d_0 : aT) : Nat → Int → Option Int
  | 0, _ => none
  | k0 + 1, n_0 =>
    (bif decide (n_0 < t_0.Rounds) then ((idx d_0.Must n_0).bind fun x3 =>
    (chk (decide (0 ≤ (IntKind.u64.wrap (w64 (n_0 + 1)))))).bind fun u4 =>
    (idx x3 (slot_0.fdiv (2 ^ (min (IntKind.u64.wrap (w64 (n_0 + 1))).toNat 64)))).bind fun x5 =>
    (bif decide (x5 = (-2)) then (some true) else ((idx d_0.Must n_0).bind fun x6 =>
    (chk (decide (0 ≤ (IntKind.u64.wrap (w64 (n_0 + 1)))))).bind fun u7 =>
    (idx x6 (slot_0.fdiv (2 ^ (min (IntKind.u64.wrap (w64 (n_0 + 1))).toNat 64)))).bind fun x8 =>
    (idx d_0.Slots slot_0).bind fun x9 =>
    some (decide (x8 = x9)))).bind fun b10 =>
    some b10) else (some false)).bind fun b11 =>
    bif b11 then ((oE slot_0 t_0 d_0 k0) (w64 (n_0 + 1)))
    else (vA n_0)

def yB (t_0 : aU) (d_1 : aT) (slot_2 : Int) : Option Int :=
    oE slot_2 t_0 d_1 BIG 0

def kB (t_0 : aU) (l_1 : List aE) (player_2 : Int) : Option (cK × Int) :=
    (gB t_0 l_1).bind fun r3 =>
    bif !decide (r3 = 0) then (some ((cK.mk 0 0), r3))
    else ((fF player_2 0 999).bind fun r4 =>
    bif !r4 then (some ((cK.mk 0 0), 1))
    else ((fX t_0 l_1).bind fun r5 =>
    (yC r5.1 player_2).bind fun r7 =>
    bif decide (r7 < 0) then (some ((cK.mk 0 0), 3))
    else ((xB t_0 r5.1 r7).bind fun r8 =>
    (yB t_0 r5.1 r7).bind fun r9 =>
    some ((cK.mk r8 r9), 0))))

def sB (a0 : aU) (a1 : List aE) (a2 : Int) : Option (cK × Int) := kB a0 a1 a2

def uD (p_0 : aK) (person_1 : Int) : Option (cK × Bool) :=
    (mG p_0.Teams (fun y4 => uA y4 person_1)).bind fun r5 =>
    bif decide (r5 < 0) then (some ((cK.mk 0 0), false))
    else ((idx p_0.Teams r5).bind fun x6 =>
    (sB p_0.Tree p_0.Slips x6.Player).bind fun r8 =>
    bif !decide (r8.2 = 0) then (some ((cK.mk 0 0), true))
    else ((idx p_0.Prizes r8.1.Low).bind fun x10 =>
    (rB x10 x6 person_1).bind fun r11 =>
    (idx p_0.Prizes r8.1.High).bind fun x12 =>
    (rB x12 x6 person_1).bind fun r13 =>
    some ((cK.mk r11 r13), true)))

def wN (p_0 : aK) (person_1 : Int) : Option (cK × Int) :=
    (sA p_0).bind fun r3 =>
    bif !decide (r3 = 0) then (some ((cK.mk 0 0), r3))
    else ((uD p_0 person_1).bind fun r4 =>
    bif !r4.2 then (some ((cK.mk 0 0), 1))
    else (some (r4.1, 0)))

def wW (paid_105 : Int) (num_105 : Int) (den_105 : Int) (o4_105 : aY) (b_105 : aY) : Option aY :=
    (chk (!decide (den_105 = 0))).bind fun u13 =>
    (chk (!decide (num_105 = 0))).bind fun u14 =>
    some (aY.mk b_105.Person b_105.Gross b_105.Tax b_105.Daily b_105.Fines b_105.Debt (w64 ((w64 (paid_105 * num_105)).tdiv den_105)) (w64 ((w64 ((w64 ((w64 ((w64 ((w64 (paid_105 * num_105)).tdiv den_105)) * den_105)) + num_105)) - 1)).tdiv num_105)) (w64 (paid_105 - (w64 ((w64 ((w64 ((w64 ((w64 ((w64 (paid_105 * num_105)).tdiv den_105)) * den_105)) + num_105)) - 1)).tdiv num_105)))))

def mV (person_5 : Int) (paid_5 : Int) (t104_5 : List dX) (t105_5 : Int) (o4_5 : aY) (b_5 : aY) : Nat → Int → Int → Int → Option aY
  | 0, _, _, _ => none
  | k5 + 1, num_5, den_5, t106_5 =>
    bif decide (t106_5 < t105_5) then ((idx t104_5 t106_5).bind fun x11 =>
    bif decide (x11.Person = person_5) then ((mV person_5 paid_5 t104_5 t105_5 o4_5 b_5 k5) x11.Num x11.Den (w64 (t106_5 + 1)))
    else ((mV person_5 paid_5 t104_5 t105_5 o4_5 b_5 k5) num_5 den_5 (w64 (t106_5 + 1))))
    else (wW paid_5 num_5 den_5 o4_5 b_5)

def tZ (person_102 : Int) (p_102 : aK) (o4_102 : aY) (b_102 : aY) : Option aY :=
    mV person_102 (max 0 (w64 ((w64 ((w64 (b_102.Gross + b_102.Daily)) - b_102.Tax)) - b_102.Fines))) p_102.Rates (p_102.Rates.length : Int) o4_102 (aY.mk b_102.Person b_102.Gross b_102.Tax b_102.Daily b_102.Fines (max 0 (w64 (-(w64 ((w64 ((w64 (b_102.Gross + b_102.Daily)) - b_102.Tax)) - b_102.Fines))))) b_102.Units b_102.Used b_102.Rest) BIG 1 1 0

def lE (person_2 : Int) (t55_2 : List aI) (t56_2 : Int) (p_2 : aK) (o4_2 : aY) : Nat → Int → aY → Option aY
  | 0, _, _ => none
  | k2 + 1, t57_2, b_2 =>
    bif decide (t57_2 < t56_2) then ((idx t55_2 t57_2).bind fun x9 =>
    bif !decide (x9.Person = person_2) then ((lE person_2 t55_2 t56_2 p_2 o4_2 k2) (w64 (t57_2 + 1)) b_2)
    else (bif decide (x9.Kind = 2) then ((lE person_2 t55_2 t56_2 p_2 o4_2 k2) (w64 (t57_2 + 1)) (aY.mk b_2.Person b_2.Gross b_2.Tax (w64 (b_2.Daily + (w64 (x9.Amount * p_2.Daily)))) b_2.Fines b_2.Debt b_2.Units b_2.Used b_2.Rest))
    else ((lE person_2 t55_2 t56_2 p_2 o4_2 k2) (w64 (t57_2 + 1)) (aY.mk b_2.Person b_2.Gross b_2.Tax b_2.Daily (w64 (b_2.Fines + x9.Amount)) b_2.Debt b_2.Units b_2.Used b_2.Rest))))
    else (tZ person_2 p_2 o4_2 b_2)

def wV (person_100 : Int) (p_100 : aK) (o4_100 : aY) (b_100 : aY) : Option aY :=
    (pL p_100.Items).bind fun r8 =>
    lE person_100 r8.1 (r8.1.length : Int) p_100 o4_100 BIG 0 b_100

def lD (person_0 : Int) (t31_0 : List fE) (t32_0 : Int) (p_0 : aK) (o4_0 : aY) : Nat → Int → aY → Option aY
  | 0, _, _ => none
  | k0 + 1, t33_0, b_0 =>
    bif decide (t33_0 < t32_0) then ((idx t31_0 t33_0).bind fun x6 =>
    bif decide (x6.Person = person_0) then ((lD person_0 t31_0 t32_0 p_0 o4_0 k0) (w64 (t33_0 + 1)) (aY.mk b_0.Person b_0.Gross (w64 ((w64 (b_0.Gross * x6.Mille)).tdiv 1000)) b_0.Daily b_0.Fines b_0.Debt b_0.Units b_0.Used b_0.Rest))
    else ((lD person_0 t31_0 t32_0 p_0 o4_0 k0) (w64 (t33_0 + 1)) b_0))
    else (wV person_0 p_0 o4_0 b_0)

def wD (p_0 : aK) (person_1 : Int) : Option aY :=
    (uD p_0 person_1).bind fun r3 =>
    lD person_1 p_0.Levies (p_0.Levies.length : Int) p_0 (aY.mk 0 0 0 0 0 0 0 0 0) BIG 0 (aY.mk person_1 r3.1.Low 0 0 0 0 0 0 0)

def yL (p_0 : aK) (person_1 : Int) : Option (aY × Int) :=
    (wN p_0 person_1).bind fun r3 =>
    bif !decide (r3.2 = 0) then (some ((aY.mk 0 0 0 0 0 0 0 0 0), r3.2))
    else ((wD p_0 person_1).bind fun r5 =>
    some (r5, 0))

def aEp (out_100 : List aY) : Option ((List aY) × Int) :=
    some (out_100, 0)

def nQ (t14_0 : List Int) (t15_0 : Int) (p_0 : aK) : Nat → Int → (List aY) → Option ((List aY) × Int)
  | 0, _, _ => none
  | k0 + 1, t16_0, out_0 =>
    bif decide (t16_0 < t15_0) then ((idx t14_0 t16_0).bind fun x5 =>
    (wD p_0 x5).bind fun r6 =>
    (app 72 out_0 ([r6])).bind fun x7 =>
    (nQ t14_0 t15_0 p_0 k0) (w64 (t16_0 + 1)) x7)
    else (aEp out_0)

def rZ (p_0 : aK) : Option ((List aY) × Int) :=
    (sA p_0).bind fun r2 =>
    bif !decide (r2 = 0) then (some (([] : List aY), r2))
    else ((mW p_0).bind fun r4 =>
    nQ r4 (r4.length : Int) p_0 BIG 0 ([] : List aY))

def aEq (o2_100 : aY) (sum_100 : aY) : Option (aY × Int) :=
    some (sum_100, 0)

def nR (t19_0 : List aY) (t20_0 : Int) (o2_0 : aY) : Nat → Int → aY → Option (aY × Int)
  | 0, _, _ => none
  | k0 + 1, t21_0, sum_0 =>
    bif decide (t21_0 < t20_0) then ((idx t19_0 t21_0).bind fun x5 =>
    (nR t19_0 t20_0 o2_0 k0) (w64 (t21_0 + 1)) (aY.mk sum_0.Person (w64 (sum_0.Gross + x5.Gross)) (w64 (sum_0.Tax + x5.Tax)) (w64 (sum_0.Daily + x5.Daily)) (w64 (sum_0.Fines + x5.Fines)) (w64 (sum_0.Debt + x5.Debt)) (w64 (sum_0.Units + x5.Units)) (w64 (sum_0.Used + x5.Used)) (w64 (sum_0.Rest + x5.Rest))))
    else (aEq o2_0 sum_0)

def wO (p_0 : aK) : Option (aY × Int) :=
    (rZ p_0).bind fun r3 =>
    bif !decide (r3.2 = 0) then (some ((aY.mk 0 0 0 0 0 0 0 0 0), r3.2))
    else (nR r3.1 (r3.1.length : Int) (aY.mk 0 0 0 0 0 0 0 0 0) BIG 0 (aY.mk (-1) 0 0 0 0 0 0 0 0))

def jG : Option Bool :=
    (oA).bind fun r1 =>
    (yM r1).bind fun r3 =>
    (yL r1 22).bind fun r4 =>
    (wO r1).bind fun r6 =>
    (bif decide (r3.2 = 0) then (some (decide (r4.2 = 0))) else (some false)).bind fun b8 =>
    (bif b8 then (some (decide (r6.2 = 0))) else (some false)).bind fun b9 =>
    (bif b9 then (some (decide (r3.1 = 1501))) else (some false)).bind fun b10 =>
    (bif b10 then (some (decide (r4.1 = (aY.mk 22 50 0 0 0 0 16 48 2)))) else (some false)).bind fun b11 =>
    (bif b11 then (some (decide (r6.1.Debt = 60))) else (some false)).bind fun b12 =>
    some b12

def rE (p_0 : aK) : Option aK :=
    (app 8 ([] : List Int) p_0.Tree.Slots).bind fun x4 =>
    (app 40 ([] : List aE) p_0.Slips).bind fun x5 =>
    (app 8 ([] : List Int) p_0.Prizes).bind fun x6 =>
    (app 24 ([] : List bX) p_0.Teams).bind fun x7 =>
    (app 16 ([] : List fE) p_0.Levies).bind fun x8 =>
    (app 24 ([] : List dX) p_0.Rates).bind fun x9 =>
    (app 32 ([] : List aI) p_0.Items).bind fun x10 =>
    some (aK.mk (aU.mk p_0.Tree.Rounds x4) x5 x6 p_0.Daily x7 x8 x9 x10)

def qZ : Option Int :=
    some (-1)

def eB (s_0 : List aR) (f_0 : aR → Option Bool) (t7_0 : Int) : Nat → Int → Option Int
  | 0, _ => none
  | k0 + 1, t8_0 =>
    bif decide (t8_0 < t7_0) then ((idx s_0 t8_0).bind fun x1 =>
    (f_0 x1).bind fun r2 =>
    bif r2 then (some t8_0)
    else ((eB s_0 f_0 t7_0 k0) (w64 (t8_0 + 1))))
    else (qZ)

def kJ (s_0 : List aR) (f_1 : aR → Option Bool) : Option Int :=
    eB s_0 f_1 (s_0.length : Int) BIG 0

def gZ (s_0 : List aR) (f_1 : aR → Option Bool) : Option Bool :=
    (kJ s_0 f_1).bind fun r1 =>
    some (decide (0 ≤ r1))

def zQ (x_0 : aR) (c_1 : List Int) : Option Bool :=
    (dC c_1 x_0.Person).bind fun r2 =>
    (bif !r2 then (some true) else ((gD x_0.Units 0 1000000000).bind fun r3 =>
    some (!r3))).bind fun b4 =>
    some b4

def qT (again0 : Int → (List aR) → (List aR) → Option ((List aR) × (List aR) × Int)) (before_101 : List aR) (t34_101 : List aY) (t35_101 : Int) (t36_101 : Int) (pay_101 : List aR) (over_101 : List aR) : Option ((List aR) × (List aR) × Int) :=
    again0 (w64 (t36_101 + 1)) pay_101 over_101

def vO (again0 : Int → (List aR) → (List aR) → Option ((List aR) × (List aR) × Int)) (before_102 : List aR) (left_102 : Int) (t34_102 : List aY) (t35_102 : Int) (t36_102 : Int) (pay_102 : List aR) (over_102 : List aR) (b_102 : aY) : Option ((List aR) × (List aR) × Int) :=
    bif decide (0 < left_102) then ((app 16 pay_102 ([(aR.mk b_102.Person left_102)])).bind fun x18 =>
    qT again0 before_102 t34_102 t35_102 t36_102 x18 over_102)
    else (bif decide (left_102 < 0) then ((app 16 over_102 ([(aR.mk b_102.Person (w64 (-left_102)))])).bind fun x20 =>
    qT again0 before_102 t34_102 t35_102 t36_102 pay_102 x20)
    else (qT again0 before_102 t34_102 t35_102 t36_102 pay_102 over_102))

def oL (again0 : Int → (List aR) → (List aR) → Option ((List aR) × (List aR) × Int)) (before_2 : List aR) (t34_2 : List aY) (t35_2 : Int) (t36_2 : Int) (t42_2 : List aR) (t43_2 : Int) (pay_2 : List aR) (over_2 : List aR) (b_2 : aY) : Nat → Int → Int → Option ((List aR) × (List aR) × Int)
  | 0, _, _ => none
  | k2 + 1, left_2, t44_2 =>
    bif decide (t44_2 < t43_2) then ((idx t42_2 t44_2).bind fun x16 =>
    bif decide (x16.Person = b_2.Person) then ((oL again0 before_2 t34_2 t35_2 t36_2 t42_2 t43_2 pay_2 over_2 b_2 k2) (w64 (left_2 - x16.Units)) (w64 (t44_2 + 1)))
    else ((oL again0 before_2 t34_2 t35_2 t36_2 t42_2 t43_2 pay_2 over_2 b_2 k2) left_2 (w64 (t44_2 + 1))))
    else (vO again0 before_2 left_2 t34_2 t35_2 t36_2 pay_2 over_2 b_2)

def aIq (pay_100 : List aR) (over_100 : List aR) : Option ((List aR) × (List aR) × Int) :=
    some (pay_100, over_100, 0)

def lC (before_0 : List aR) (t34_0 : List aY) (t35_0 : Int) : Nat → Int → (List aR) → (List aR) → Option ((List aR) × (List aR) × Int)
  | 0, _, _, _ => none
  | k0 + 1, t36_0, pay_0, over_0 =>
    bif decide (t36_0 < t35_0) then ((idx t34_0 t36_0).bind fun x14 =>
    oL (lC before_0 t34_0 t35_0 k0) before_0 t34_0 t35_0 t36_0 before_0 (before_0.length : Int) pay_0 over_0 x14 BIG x14.Units 0)
    else (aIq pay_0 over_0)

def sZ (p_0 : aK) (before_1 : List aR) : Option ((List aR) × (List aR) × Int) :=
    (rZ p_0).bind fun r4 =>
    bif !decide (r4.2 = 0) then (some (([] : List aR), ([] : List aR), r4.2))
    else ((mW p_0).bind fun r7 =>
    (bif decide (200 < (before_1.length : Int)) then (some true) else ((gZ before_1 (fun y9 => zQ y9 r7)).bind fun r10 =>
    some r10)).bind fun b11 =>
    bif b11 then (some (([] : List aR), ([] : List aR), 103))
    else (lC before_1 r4.1 (r4.1.length : Int) BIG 0 ([] : List aR) ([] : List aR)))

def qH (again2 : Int → aK → (List aR) → Option Bool) (lucky_103 : List aE) (others_103 : List aE) (n_103 : Int) (p_103 : aK) (o_103 : aK) (before_103 : List aR) : Option Bool :=
    again2 (w64 (n_103 + 1)) o_103 before_103

def qI (again2 : Int → aK → (List aR) → Option Bool) (lucky_104 : List aE) (others_104 : List aE) (n_104 : Int) (p_104 : aK) (o_104 : aK) (before_104 : List aR) (o84_104 : List aR) : Option Bool :=
    (app 16 before_104 o84_104).bind fun x42 =>
    (sZ o_104 x42).bind fun r44 =>
    (bif !decide (r44.2.2 = 0) then (some true) else (some (decide (0 < (r44.1.length : Int))))).bind fun b47 =>
    (bif b47 then (some true) else (some (decide (0 < (r44.2.1.length : Int))))).bind fun b48 =>
    bif b48 then (some false)
    else (qH again2 lucky_104 others_104 n_104 p_104 o_104 x42)

def fA (again2 : Int → aK → (List aR) → Option Bool) (lucky_4 : List aE) (others_4 : List aE) (n_4 : Int) (p_4 : aK) (o_4 : aK) (before_4 : List aR) (o84_4 : List aR) : Nat → Int → Option Bool
  | 0, _ => none
  | k4 + 1, k_4 =>
    bif decide (k_4 < (o84_4.length : Int)) then ((idx o84_4 k_4).bind fun x33 =>
    (iO p_4 x33.Person).bind fun r34 =>
    (bif !r34 then (some true) else ((idx o84_4 k_4).bind fun x35 =>
    some (decide (x35.Units < 1)))).bind fun b36 =>
    (bif b36 then (some true) else ((idx o84_4 k_4).bind fun x37 =>
    some (decide (1000000000 < x37.Units)))).bind fun b38 =>
    bif b38 then ((idx o84_4 k_4).bind fun x39 =>
    (bif decide (1000000000 < x39.Units) then ((jG).bind fun r40 =>
    some r40) else (some false)).bind fun b41 =>
    some b41)
    else ((fA again2 lucky_4 others_4 n_4 p_4 o_4 before_4 o84_4 k4) (w64 (k_4 + 1))))
    else (qI again2 lucky_4 others_4 n_4 p_4 o_4 before_4 o84_4)

def qK (again6 : Int → Option Bool) (l_107 : List aY) (i_107 : Int) (before_107 : List aR) : Option Bool :=
    again6 (w64 (i_107 + 1))

def qL (again6 : Int → Option Bool) (l_108 : List aY) (i_108 : Int) (sum_108 : Int) (before_108 : List aR) : Option Bool :=
    (idx l_108 i_108).bind fun x53 =>
    bif !decide (sum_108 = x53.Units) then (some false)
    else (qK again6 l_108 i_108 before_108)

def fR (again6 : Int → Option Bool) (l_8 : List aY) (i_8 : Int) (before_8 : List aR) : Nat → Int → Int → Option Bool
  | 0, _, _ => none
  | k8 + 1, sum_8, k_8 =>
    bif decide (k_8 < (before_8.length : Int)) then ((idx before_8 k_8).bind fun x50 =>
    (idx l_8 i_8).bind fun x51 =>
    bif decide (x50.Person = x51.Person) then ((idx before_8 k_8).bind fun x52 =>
    (fR again6 l_8 i_8 before_8 k8) (w64 (sum_8 + x52.Units)) (w64 (k_8 + 1)))
    else ((fR again6 l_8 i_8 before_8 k8) sum_8 (w64 (k_8 + 1))))
    else (qL again6 l_8 i_8 sum_8 before_8)

def qJ : Option Bool :=
    (jG).bind fun r54 =>
    some r54

def fB (l_6 : List aY) (before_6 : List aR) : Nat → Int → Option Bool
  | 0, _ => none
  | k6 + 1, i_6 =>
    bif decide (i_6 < (l_6.length : Int)) then (fR (fB l_6 before_6 k6) l_6 i_6 before_6 BIG 0 0)
    else (qJ)

def mJ (p_102 : aK) (before_102 : List aR) : Option Bool :=
    (rZ p_102).bind fun r49 =>
    bif !decide (r49.2 = 0) then (some false)
    else (fB r49.1 before_102 BIG 0)

def dK (lucky_2 : List aE) (others_2 : List aE) (p_2 : aK) : Nat → Int → aK → (List aR) → Option Bool
  | 0, _, _, _ => none
  | k2 + 1, n_2, o_2, before_2 =>
    bif decide (n_2 ≤ (others_2.length : Int)) then ((app 40 ([] : List aE) lucky_2).bind fun x18 =>
    (sub others_2 0 n_2).bind fun x20 =>
    (app 40 x18 x20).bind fun x21 =>
    (lK (aK.mk o_2.Tree x21 o_2.Prizes o_2.Daily o_2.Teams o_2.Levies o_2.Rates o_2.Items)).bind fun r23 =>
    bif !decide (r23 = 0) then ((jG).bind fun r24 =>
    some r24)
    else ((sZ (aK.mk o_2.Tree x21 o_2.Prizes o_2.Daily o_2.Teams o_2.Levies o_2.Rates o_2.Items) before_2).bind fun r25 =>
    (bif !decide (r25.2.2 = 0) then (some true) else (some (decide (0 < (r25.2.1.length : Int))))).bind fun b28 =>
    (bif b28 then (some true) else (some (decide (20 < (r25.1.length : Int))))).bind fun b29 =>
    bif b29 then ((bif decide (20 < (r25.1.length : Int)) then (some (decide (9 < (p_2.Teams.length : Int)))) else (some false)).bind fun b30 =>
    (bif b30 then ((jG).bind fun r31 =>
    some r31) else (some false)).bind fun b32 =>
    some b32)
    else (fA (dK lucky_2 others_2 p_2 k2) lucky_2 others_2 n_2 p_2 (aK.mk o_2.Tree x21 o_2.Prizes o_2.Daily o_2.Teams o_2.Levies o_2.Rates o_2.Items) before_2 r25.1 BIG 0)))
    else (mJ p_2 before_2)

def qG (p_100 : aK) (lucky_100 : List aE) (others_100 : List aE) : Option Bool :=
    (rE p_100).bind fun r14 =>
    dK lucky_100 others_100 p_100 BIG 0 r14 ([] : List aR)

def fQ (p_0 : aK) : Nat → Int → (List aE) → (List aE) → Option Bool
  | 0, _, _, _ => none
  | k0 + 1, i_0, lucky_0, others_0 =>
    bif decide (i_0 < (p_0.Slips.length : Int)) then ((idx p_0.Slips i_0).bind fun x7 =>
    bif decide (x7.Kind = 5) then ((idx p_0.Slips i_0).bind fun x8 =>
    (app 40 lucky_0 ([x8])).bind fun x9 =>
    (fQ p_0 k0) (w64 (i_0 + 1)) x9 others_0)
    else ((idx p_0.Slips i_0).bind fun x11 =>
    (app 40 others_0 ([x11])).bind fun x12 =>
    (fQ p_0 k0) (w64 (i_0 + 1)) lucky_0 x12))
    else (qG p_0 lucky_0 others_0)

def oM (p_0 : aK) : Option Bool :=
    (nL p_0).bind fun r2 =>
    (bif !r2 then (some true) else (some (decide (6 < (p_0.Slips.length : Int))))).bind fun b3 =>
    bif b3 then ((jG).bind fun r4 =>
    some r4)
    else (fQ p_0 BIG 0 ([] : List aE) ([] : List aE))

end Go.Am
