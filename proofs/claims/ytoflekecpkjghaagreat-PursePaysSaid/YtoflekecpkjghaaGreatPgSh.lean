/- Shallow functions, printed by program. -/
import Derived.Test.YtoflekecpkjghaaGreatAmFull
import Derived.Test.YtoflekecpkjghaaGreatAmNd
import Derived.Test.YtoflekecpkjghaaGreatAmSort
namespace Go.Am

def jF (x : List Int) : List D := [.sl 1 (x.map aM)]

structure aW where
  Rounds : Int
  Slots : List Int
  deriving DecidableEq, Inhabited
def bE (x : aW) : List D := [.lit (.int .i64 x.Rounds), .sl 1 (x.Slots.map aM)]

structure aG where
  Kind : Int
  Round : Int
  Place : Int
  Player : Int
  Old : Int
  deriving DecidableEq, Inhabited
def aL (x : aG) : List D := [.lit (.int .i64 x.Kind), .lit (.int .i64 x.Round), .lit (.int .i64 x.Place), .lit (.int .i64 x.Player), .lit (.int .i64 x.Old)]

def aPn (x : List aG) : List D := [.sl 5 (x.map aL)]

structure cB where
  Player : Int
  One : Int
  Two : Int
  deriving DecidableEq, Inhabited
def bL (x : cB) : List D := [.lit (.int .i64 x.Player), .lit (.int .i64 x.One), .lit (.int .i64 x.Two)]

def aPo (x : List cB) : List D := [.sl 3 (x.map bL)]

structure fG where
  Person : Int
  Mille : Int
  deriving DecidableEq, Inhabited
def cT (x : fG) : List D := [.lit (.int .i64 x.Person), .lit (.int .i64 x.Mille)]

def aPl (x : List fG) : List D := [.sl 2 (x.map cT)]

structure cU where
  Person : Int
  Num : Int
  Den : Int
  deriving DecidableEq, Inhabited
def cN (x : cU) : List D := [.lit (.int .i64 x.Person), .lit (.int .i64 x.Num), .lit (.int .i64 x.Den)]

def aPm (x : List cU) : List D := [.sl 3 (x.map cN)]

structure aH where
  Id : Int
  Kind : Int
  Person : Int
  Amount : Int
  deriving DecidableEq, Inhabited
def aE (x : aH) : List D := [.lit (.int .i64 x.Id), .lit (.int .i64 x.Kind), .lit (.int .i64 x.Person), .lit (.int .i64 x.Amount)]

def aPk (x : List aH) : List D := [.sl 4 (x.map aE)]

structure aQ where
  Tree : aW
  Slips : List aG
  Prizes : List Int
  Daily : Int
  Teams : List cB
  Levies : List fG
  Rates : List cU
  Items : List aH
  deriving DecidableEq, Inhabited
def aO (x : aQ) : List D := [.lit (.int .i64 x.Tree.Rounds), .sl 1 (x.Tree.Slots.map aM), .sl 5 (x.Slips.map aL), .sl 1 (x.Prizes.map aM), .lit (.int .i64 x.Daily), .sl 3 (x.Teams.map bL), .sl 2 (x.Levies.map cT), .sl 3 (x.Rates.map cN), .sl 4 (x.Items.map aE)]

structure aV where
  Slots : List Int
  Must : List (List Int)
  deriving DecidableEq, Inhabited
def bM (x : aV) : List D := [.sl 1 (x.Slots.map aM), .sl 1 (x.Must.map jF)]

structure aI where
  round : Int
  place : Int
  deriving DecidableEq, Inhabited
def aT (x : aI) : List D := [.lit (.int .i64 x.round), .lit (.int .i64 x.place)]

structure bG where
  Tree : aW
  players : List Int
  won : List (aI × Int)
  deriving DecidableEq, Inhabited
def bX (x : bG) : List D := [.lit (.int .i64 x.Tree.Rounds), .sl 1 (x.Tree.Slots.map aM), .sl 1 (x.players.map aM), .mp false (x.won.map fun p : aI × Int => ((fun a : aI => Value.agg ((aT a).map bZ).toArray) p.1, aM p.2))]

structure cA where
  Low : Int
  High : Int
  deriving DecidableEq, Inhabited
def bO (x : cA) : List D := [.lit (.int .i64 x.Low), .lit (.int .i64 x.High)]

structure aU where
  Person : Int
  Gross : Int
  Tax : Int
  Daily : Int
  Fines : Int
  Debt : Int
  Units : Int
  Used : Int
  Rest : Int
  deriving DecidableEq, Inhabited
def bB (x : aU) : List D := [.lit (.int .i64 x.Person), .lit (.int .i64 x.Gross), .lit (.int .i64 x.Tax), .lit (.int .i64 x.Daily), .lit (.int .i64 x.Fines), .lit (.int .i64 x.Debt), .lit (.int .i64 x.Units), .lit (.int .i64 x.Used), .lit (.int .i64 x.Rest)]

structure aK where
  Person : Int
  Units : Int
  deriving DecidableEq, Inhabited
def aS (x : aK) : List D := [.lit (.int .i64 x.Person), .lit (.int .i64 x.Units)]

def aLg (x : List aK) : List D := [.sl 2 (x.map aS)]

def aOy (x : aW) : Prop := okI x.Rounds ∧ (okL okI) x.Slots

def aIu (x : aG) : Prop := okI x.Kind ∧ okI x.Round ∧ okI x.Place ∧ okI x.Player ∧ okI x.Old

def aIv (x : cB) : Prop := okI x.Player ∧ okI x.One ∧ okI x.Two

def aIs (x : fG) : Prop := okI x.Person ∧ okI x.Mille

def aIt (x : cU) : Prop := okI x.Person ∧ okI x.Num ∧ okI x.Den

def aIr (x : aH) : Prop := okI x.Id ∧ okI x.Kind ∧ okI x.Person ∧ okI x.Amount

def aMx (x : aQ) : Prop := aOy x.Tree ∧ (okL aIu) x.Slips ∧ (okL okI) x.Prizes ∧ okI x.Daily ∧ (okL aIv) x.Teams ∧ (okL aIs) x.Levies ∧ (okL aIt) x.Rates ∧ (okL aIr) x.Items

def aDf (x : aK) : Prop := okI x.Person ∧ okI x.Units

def nS (p_0 : aQ) : Option Bool :=
    (bif decide (8 < (p_0.Tree.Slots.length : Int)) then (some true) else (some (decide (20 < (p_0.Slips.length : Int))))).bind fun b2 =>
    (bif b2 then (some true) else (some (decide (20 < (p_0.Prizes.length : Int))))).bind fun b3 =>
    (bif b3 then (some true) else (some (decide (40 < (p_0.Teams.length : Int))))).bind fun b4 =>
    (bif b4 then (some true) else (some (decide (40 < (p_0.Levies.length : Int))))).bind fun b5 =>
    (bif b5 then (some true) else (some (decide (40 < (p_0.Rates.length : Int))))).bind fun b6 =>
    (bif b6 then (some true) else (some (decide (60 < (p_0.Items.length : Int))))).bind fun b7 =>
    some b7

def fA (n_0 : Int) (low_1 : Int) (high_2 : Int) : Option Bool :=
    (bif decide (low_1 ≤ n_0) then (some (decide (n_0 ≤ high_2))) else (some false)).bind fun b1 =>
    some b1

def tU (again0 : Int → Option Bool) (i_101 : Int) (t_101 : aW) : Option Bool :=
    again0 (w64 (i_101 + 1))

def tV (again0 : Int → Option Bool) (i_102 : Int) (t_102 : aW) : Option Bool :=
    tU again0 i_102 t_102

def iA (again0 : Int → Option Bool) (i_2 : Int) (t_2 : aW) : Nat → Int → Option Bool
  | 0, _ => none
  | k2 + 1, k_2 =>
    bif decide (k_2 < i_2) then ((idx t_2.Slots k_2).bind fun x12 =>
    (idx t_2.Slots i_2).bind fun x13 =>
    (bif decide (x12 = x13) then ((idx t_2.Slots i_2).bind fun x14 =>
    some (!decide (x14 = (-1)))) else (some false)).bind fun b15 =>
    bif b15 then (some false)
    else ((iA again0 i_2 t_2 k2) (w64 (k_2 + 1))))
    else (tV again0 i_2 t_2)

def tT : Option Bool :=
    some true

def hZ (t_0 : aW) : Nat → Int → Option Bool
  | 0, _ => none
  | k0 + 1, i_0 =>
    bif decide (i_0 < (t_0.Slots.length : Int)) then ((idx t_0.Slots i_0).bind fun x5 =>
    (fA x5 (-1) 999).bind fun r6 =>
    (bif !r6 then (some true) else ((bif decide ((i_0.tmod 2) = 1) then ((idx t_0.Slots i_0).bind fun x7 =>
    some (decide (x7 = (-1)))) else (some false)).bind fun b8 =>
    (bif b8 then ((idx t_0.Slots (w64 (i_0 - 1))).bind fun x9 =>
    some (decide (x9 = (-1)))) else (some false)).bind fun b10 =>
    some b10)).bind fun b11 =>
    bif b11 then (some false)
    else (iA (hZ t_0 k0) i_0 t_0 BIG 0))
    else (tT)

def mY (t_0 : aW) : Option Bool :=
    (fA t_0.Rounds 1 5).bind fun r2 =>
    (bif !r2 then (some true) else ((chk (decide (0 ≤ (IntKind.u64.wrap t_0.Rounds)))).bind fun u3 =>
    some (!decide ((t_0.Slots.length : Int) = (w64 (1 * 2 ^ (min (IntKind.u64.wrap t_0.Rounds).toNat 64))))))).bind fun b4 =>
    bif b4 then (some false)
    else (hZ t_0 BIG 0)

def mZ (t_0 : aW) (round_1 : Int) : Option Int :=
    (chk (decide (0 ≤ (IntKind.u64.wrap (w64 ((w64 (t_0.Rounds - 1)) - round_1)))))).bind fun u2 =>
    some (w64 (1 * 2 ^ (min (IntKind.u64.wrap (w64 ((w64 (t_0.Rounds - 1)) - round_1))).toNat 64)))

def oI (t_0 : aW) (round_1 : Int) (place_2 : Int) : Option Bool :=
    (fA round_1 0 (w64 (t_0.Rounds - 1))).bind fun r2 =>
    (bif r2 then ((mZ t_0 round_1).bind fun r3 =>
    (fA place_2 0 (w64 (r3 - 1))).bind fun r4 =>
    some r4) else (some false)).bind fun b5 =>
    some b5

def pG (t_0 : aW) (x_1 : aG) : Option Bool :=
    (fA x_1.Player 0 999).bind fun r3 =>
    bif !r3 then (some false)
    else (bif decide (x_1.Kind = 5) then ((bif decide (x_1.Round = 0) then ((fA x_1.Place 0 (w64 ((t_0.Slots.length : Int) - 1))).bind fun r4 =>
    some r4) else (some false)).bind fun b5 =>
    (bif b5 then ((fA x_1.Old 0 999).bind fun r6 =>
    some r6) else (some false)).bind fun b7 =>
    some b7)
    else ((fA x_1.Kind 1 4).bind fun r8 =>
    (bif !r8 then (some true) else ((oI t_0 x_1.Round x_1.Place).bind fun r9 =>
    some (!r9))).bind fun b10 =>
    (bif b10 then (some true) else (some (!decide (x_1.Old = 0)))).bind fun b11 =>
    bif b11 then (some false)
    else ((bif decide (0 < x_1.Round) then (some true) else ((idx t_0.Slots (w64 (2 * x_1.Place))).bind fun x12 =>
    (bif !decide (x12 = (-1)) then ((idx t_0.Slots (w64 ((w64 (2 * x_1.Place)) + 1))).bind fun x13 =>
    some (!decide (x13 = (-1)))) else (some false)).bind fun b14 =>
    some b14)).bind fun b15 =>
    some b15)))

def mF (again0 : Int → (List aG) → Option ((List aG))) (l_101 : List aG) (i_101 : Int) (out_101 : List aG) : Option ((List aG)) :=
    again0 (w64 (i_101 + 1)) out_101

def oK (again0 : Int → (List aG) → Option ((List aG))) (l_102 : List aG) (i_102 : Int) (twin_102 : Bool) (out_102 : List aG) : Option ((List aG)) :=
    bif !twin_102 then ((idx l_102 i_102).bind fun x5 =>
    (app 40 out_102 ([x5])).bind fun x6 =>
    mF again0 l_102 i_102 x6)
    else (mF again0 l_102 i_102 out_102)

def jC (again0 : Int → (List aG) → Option ((List aG))) (l_2 : List aG) (i_2 : Int) (out_2 : List aG) : Nat → Bool → Int → Option ((List aG))
  | 0, _, _ => none
  | k2 + 1, twin_2, k_2 =>
    bif decide (k_2 < (out_2.length : Int)) then ((bif twin_2 then (some true) else ((idx out_2 k_2).bind fun x2 =>
    (idx l_2 i_2).bind fun x3 =>
    some (decide (x2 = x3)))).bind fun b4 =>
    (jC again0 l_2 i_2 out_2 k2) b4 (w64 (k_2 + 1)))
    else (oK again0 l_2 i_2 twin_2 out_2)

def vO (out_100 : List aG) : Option ((List aG)) :=
    some out_100

def fE (l_0 : List aG) : Nat → Int → (List aG) → Option ((List aG))
  | 0, _, _ => none
  | k0 + 1, i_0, out_0 =>
    bif decide (i_0 < (l_0.length : Int)) then (jC (fE l_0 k0) l_0 i_0 out_0 BIG false 0)
    else (vO out_0)

def oR (l_0 : List aG) : Option ((List aG)) :=
    fE l_0 BIG 0 ([] : List aG)

def xP : Option Bool :=
    some false

def lT (l_0 : List Int) (n_0 : Int) : Nat → Int → Option Bool
  | 0, _ => none
  | k0 + 1, i_0 =>
    bif decide (i_0 < (l_0.length : Int)) then ((idx l_0 i_0).bind fun x1 =>
    bif decide (x1 = n_0) then (some true)
    else ((lT l_0 n_0 k0) (w64 (i_0 + 1))))
    else (xP)

def uL (l_0 : List Int) (n_1 : Int) : Option Bool :=
    lT l_0 n_1 BIG 0

def kE (again0 : Int → Int → (List Int) → (List Int) → Option ((List Int) × Bool)) (again2 : Int → Int → Bool → (List Int) → Option ((List Int) × Bool)) (allv_103 : List aG) (used_103 : Int) (i_103 : Int) (now_103 : Int) (again_103 : Bool) (t_103 : aW) (out_103 : List Int) (o18_103 : List Int) : Option ((List Int) × Bool) :=
    again2 used_103 now_103 again_103 o18_103

def mB (again0 : Int → Int → (List Int) → (List Int) → Option ((List Int) × Bool)) (again2 : Int → Int → Bool → (List Int) → Option ((List Int) × Bool)) (allv_104 : List aG) (used_104 : Int) (i_104 : Int) (now_104 : Int) (again_104 : Bool) (t_104 : aW) (out_104 : List Int) (nextv_104 : List Int) (o18_104 : List Int) : Option ((List Int) × Bool) :=
    (bif decide (1 < (nextv_104.length : Int)) then (some true) else ((bif decide ((nextv_104.length : Int) = 1) then ((idx nextv_104 0).bind fun x17 =>
    (uL o18_104 x17).bind fun r18 =>
    some r18) else (some false)).bind fun b19 =>
    some b19)).bind fun b20 =>
    bif b20 then (some (([] : List Int), false))
    else (bif decide ((nextv_104.length : Int) = 1) then ((idx nextv_104 0).bind fun x21 =>
    (app 8 o18_104 ([x21])).bind fun x22 =>
    kE again0 again2 allv_104 (w64 (used_104 + 1)) i_104 x21 true t_104 out_104 x22)
    else (kE again0 again2 allv_104 used_104 i_104 now_104 again_104 t_104 out_104 o18_104))

def fO (again0 : Int → Int → (List Int) → (List Int) → Option ((List Int) × Bool)) (again2 : Int → Int → Bool → (List Int) → Option ((List Int) × Bool)) (allv_4 : List aG) (used_4 : Int) (i_4 : Int) (now_4 : Int) (again_4 : Bool) (t_4 : aW) (out_4 : List Int) (o18_4 : List Int) : Nat → Int → (List Int) → Option ((List Int) × Bool)
  | 0, _, _ => none
  | k4 + 1, k_4, nextv_4 =>
    bif decide (k_4 < (allv_4.length : Int)) then ((idx allv_4 k_4).bind fun x9 =>
    (bif decide (x9.Kind = 5) then ((idx allv_4 k_4).bind fun x10 =>
    some (decide (x10.Place = i_4))) else (some false)).bind fun b11 =>
    (bif b11 then ((idx allv_4 k_4).bind fun x12 =>
    some (decide (x12.Old = now_4))) else (some false)).bind fun b13 =>
    bif b13 then ((idx allv_4 k_4).bind fun x14 =>
    (app 8 nextv_4 ([x14.Player])).bind fun x15 =>
    (fO again0 again2 allv_4 used_4 i_4 now_4 again_4 t_4 out_4 o18_4 k4) (w64 (k_4 + 1)) x15)
    else ((fO again0 again2 allv_4 used_4 i_4 now_4 again_4 t_4 out_4 o18_4 k4) (w64 (k_4 + 1)) nextv_4))
    else (mB again0 again2 allv_4 used_4 i_4 now_4 again_4 t_4 out_4 nextv_4 o18_4)

def sQ (again0 : Int → Int → (List Int) → (List Int) → Option ((List Int) × Bool)) (allv_101 : List aG) (used_101 : Int) (i_101 : Int) (t_101 : aW) (out_101 : List Int) (o18_101 : List Int) : Option ((List Int) × Bool) :=
    again0 used_101 (w64 (i_101 + 1)) out_101 o18_101

def oQ (again0 : Int → Int → (List Int) → (List Int) → Option ((List Int) × Bool)) (allv_102 : List aG) (used_102 : Int) (i_102 : Int) (now_102 : Int) (t_102 : aW) (out_102 : List Int) (o18_102 : List Int) : Option ((List Int) × Bool) :=
    (app 8 out_102 ([now_102])).bind fun x24 =>
    sQ again0 allv_102 used_102 i_102 t_102 x24 o18_102

def gU (again0 : Int → Int → (List Int) → (List Int) → Option ((List Int) × Bool)) (allv_2 : List aG) (i_2 : Int) (t_2 : aW) (out_2 : List Int) : Nat → Int → Int → Bool → (List Int) → Option ((List Int) × Bool)
  | 0, _, _, _, _ => none
  | k2 + 1, used_2, now_2, again_2, o18_2 =>
    bif again_2 then (fO again0 (gU again0 allv_2 i_2 t_2 out_2 k2) allv_2 used_2 i_2 now_2 false t_2 out_2 o18_2 BIG 0 ([] : List Int))
    else (oQ again0 allv_2 used_2 i_2 now_2 t_2 out_2 o18_2)

def sR (used_106 : Int) (out_106 : List Int) : Option ((List Int) × Bool) :=
    some (out_106, decide (used_106 = 0))

def fP (allv_6 : List aG) (out_6 : List Int) : Nat → Int → Int → Option ((List Int) × Bool)
  | 0, _, _ => none
  | k6 + 1, used_6, k_6 =>
    bif decide (k_6 < (allv_6.length : Int)) then ((idx allv_6 k_6).bind fun x26 =>
    bif decide (x26.Kind = 5) then ((fP allv_6 out_6 k6) (w64 (used_6 - 1)) (w64 (k_6 + 1)))
    else ((fP allv_6 out_6 k6) used_6 (w64 (k_6 + 1))))
    else (sR used_6 out_6)

def sP (allv_100 : List aG) (used_100 : Int) (out_100 : List Int) : Option ((List Int) × Bool) :=
    fP allv_100 out_100 BIG used_100 0

def eT (allv_0 : List aG) (t_0 : aW) : Nat → Int → Int → (List Int) → (List Int) → Option ((List Int) × Bool)
  | 0, _, _, _, _ => none
  | k0 + 1, used_0, i_0, out_0, o18_0 =>
    bif decide (i_0 < (t_0.Slots.length : Int)) then ((idx t_0.Slots i_0).bind fun x7 =>
    gU (eT allv_0 t_0 k0) allv_0 i_0 t_0 out_0 BIG used_0 x7 true o18_0)
    else (sP allv_0 used_0 out_0)

def oJ (t_0 : aW) (l_1 : List aG) : Option ((List Int) × Bool) :=
    (oR l_1).bind fun r2 =>
    (app 8 ([] : List Int) t_0.Slots).bind fun x4 =>
    eT r2 t_0 BIG 0 0 ([] : List Int) x4

def vM (again0 : Int → (List (List Int)) → (List Int) → Option (aV × Bool)) (l_101 : List aG) (slots_101 : List Int) (r_101 : Int) (t_101 : aW) (o4_101 : aV) (d_101 : List (List Int)) (d_101_2 : List Int) : Option (aV × Bool) :=
    again0 (w64 (r_101 + 1)) d_101 d_101_2

def mD (again0 : Int → (List (List Int)) → (List Int) → Option (aV × Bool)) (l_102 : List aG) (slots_102 : List Int) (r_102 : Int) (t_102 : aW) (o4_102 : aV) (d_102 : List (List Int)) (d_102_2 : List Int) (row_102 : List Int) : Option (aV × Bool) :=
    (app 24 d_102 [row_102]).bind fun x24 =>
    vM again0 l_102 slots_102 r_102 t_102 o4_102 x24 d_102_2

def fD (again0 : Int → (List (List Int)) → (List Int) → Option (aV × Bool)) (l_2 : List aG) (slots_2 : List Int) (r_2 : Int) (t_2 : aW) (o4_2 : aV) (d_2 : List (List Int)) (d_2_2 : List Int) : Nat → Int → (List Int) → Option (aV × Bool)
  | 0, _, _ => none
  | k2 + 1, p_2, row_2 =>
    (mZ t_2 r_2).bind fun r6 =>
    bif decide (p_2 < r6) then ((bif decide (r_2 = 0) then ((idx slots_2 (w64 (2 * p_2))).bind fun x7 =>
    some (decide (x7 = (-1)))) else (some false)).bind fun b8 =>
    bif b8 then ((idx slots_2 (w64 ((w64 (2 * p_2)) + 1))).bind fun x9 =>
    (bif decide (r_2 = 0) then ((idx slots_2 (w64 ((w64 (2 * p_2)) + 1))).bind fun x10 =>
    some (decide (x10 = (-1)))) else (some false)).bind fun b11 =>
    bif b11 then ((idx slots_2 (w64 (2 * p_2))).bind fun x12 =>
    (app 8 row_2 ([x12])).bind fun x13 =>
    (fD again0 l_2 slots_2 r_2 t_2 o4_2 d_2 d_2_2 k2) (w64 (p_2 + 1)) x13)
    else ((app 8 row_2 ([x9])).bind fun x15 =>
    (fD again0 l_2 slots_2 r_2 t_2 o4_2 d_2 d_2_2 k2) (w64 (p_2 + 1)) x15))
    else ((bif decide (r_2 = 0) then ((idx slots_2 (w64 ((w64 (2 * p_2)) + 1))).bind fun x17 =>
    some (decide (x17 = (-1)))) else (some false)).bind fun b18 =>
    bif b18 then ((idx slots_2 (w64 (2 * p_2))).bind fun x19 =>
    (app 8 row_2 ([x19])).bind fun x20 =>
    (fD again0 l_2 slots_2 r_2 t_2 o4_2 d_2 d_2_2 k2) (w64 (p_2 + 1)) x20)
    else ((app 8 row_2 ([(-2)])).bind fun x22 =>
    (fD again0 l_2 slots_2 r_2 t_2 o4_2 d_2 d_2_2 k2) (w64 (p_2 + 1)) x22)))
    else (mD again0 l_2 slots_2 r_2 t_2 o4_2 d_2 d_2_2 row_2)

def mE (again4 : Int → aV → (List (List Int)) → Option (aV × Bool)) (slots_105 : List Int) (allv_105 : List aG) (i_105 : Int) (o4_105 : aV) (d_105 : List (List Int)) (d_105_2 : List Int) : Option (aV × Bool) :=
    again4 (w64 (i_105 + 1)) o4_105 d_105

def uX (again4 : Int → aV → (List (List Int)) → Option (aV × Bool)) (slots_110 : List Int) (allv_110 : List aG) (i_110 : Int) (o4_110 : aV) (d_110 : List (List Int)) (d_110_2 : List Int) : Option (aV × Bool) :=
    mE again4 slots_110 allv_110 i_110 o4_110 d_110 d_110_2

def iO (again4 : Int → aV → (List (List Int)) → Option (aV × Bool)) (slots_10 : List Int) (allv_10 : List aG) (i_10 : Int) (atv_10 : Int) (d_10_2 : List Int) (x_10 : aG) : Nat → Int → aV → (List (List Int)) → Option (aV × Bool)
  | 0, _, _, _ => none
  | k10 + 1, r_10, o4_10, d_10 =>
    bif decide (r_10 ≤ x_10.Round) then ((chk (decide (0 ≤ (IntKind.u64.wrap (w64 (r_10 + 1)))))).bind fun u36 =>
    (idx d_10 r_10).bind fun x37 =>
    (idx x37 (atv_10.fdiv (2 ^ (min (IntKind.u64.wrap (w64 (r_10 + 1))).toNat 64)))).bind fun x38 =>
    (bif !decide (x38 = (-2)) then ((idx d_10 r_10).bind fun x39 =>
    (idx x39 (atv_10.fdiv (2 ^ (min (IntKind.u64.wrap (w64 (r_10 + 1))).toNat 64)))).bind fun x40 =>
    some (!decide (x40 = x_10.Player))) else (some false)).bind fun b41 =>
    bif b41 then (some ((aV.mk ([] : List Int) ([] : List (List Int))), false))
    else ((idx d_10 r_10).bind fun x42 =>
    (idx x42 (atv_10.fdiv (2 ^ (min (IntKind.u64.wrap (w64 (r_10 + 1))).toNat 64)))).bind fun x43 =>
    (iO again4 slots_10 allv_10 i_10 atv_10 d_10_2 x_10 k10) (w64 (r_10 + 1)) o4_10 (d_10.set r_10.toNat (x42.set (atv_10.fdiv (2 ^ (min (IntKind.u64.wrap (w64 (r_10 + 1))).toNat 64))).toNat x_10.Player))))
    else (uX again4 slots_10 allv_10 i_10 o4_10 d_10 d_10_2)

def jA (again4 : Int → aV → (List (List Int)) → Option (aV × Bool)) (slots_108 : List Int) (allv_108 : List aG) (i_108 : Int) (atv_108 : Int) (o4_108 : aV) (d_108 : List (List Int)) (d_108_2 : List Int) (x_108 : aG) : Option (aV × Bool) :=
    (bif decide (atv_108 < 0) then (some true) else ((chk (decide (0 ≤ (IntKind.u64.wrap (w64 (x_108.Round + 1)))))).bind fun u34 =>
    some (!decide ((atv_108.fdiv (2 ^ (min (IntKind.u64.wrap (w64 (x_108.Round + 1))).toNat 64))) = x_108.Place)))).bind fun b35 =>
    bif b35 then (some ((aV.mk ([] : List Int) ([] : List (List Int))), false))
    else (iO again4 slots_108 allv_108 i_108 atv_108 d_108_2 x_108 BIG 0 o4_108 d_108)

def eW (again4 : Int → aV → (List (List Int)) → Option (aV × Bool)) (slots_8 : List Int) (allv_8 : List aG) (i_8 : Int) (o4_8 : aV) (d_8 : List (List Int)) (d_8_2 : List Int) (x_8 : aG) : Nat → Int → Int → Option (aV × Bool)
  | 0, _, _ => none
  | k8 + 1, atv_8, s_8 =>
    bif decide (s_8 < (slots_8.length : Int)) then ((idx slots_8 s_8).bind fun x33 =>
    bif decide (x33 = x_8.Player) then ((eW again4 slots_8 allv_8 i_8 o4_8 d_8 d_8_2 x_8 k8) s_8 (w64 (s_8 + 1)))
    else ((eW again4 slots_8 allv_8 i_8 o4_8 d_8 d_8_2 x_8 k8) atv_8 (w64 (s_8 + 1))))
    else (jA again4 slots_8 allv_8 i_8 atv_8 o4_8 d_8 d_8_2 x_8)

def rH (again4 : Int → aV → (List (List Int)) → Option (aV × Bool)) (slots_106 : List Int) (allv_106 : List aG) (i_106 : Int) (o4_106 : aV) (d_106 : List (List Int)) (d_106_2 : List Int) (x_106 : aG) : Option (aV × Bool) :=
    eW again4 slots_106 allv_106 i_106 o4_106 d_106 d_106_2 x_106 BIG (-1) 0

def jB (again4 : Int → aV → (List (List Int)) → Option (aV × Bool)) (slots_6 : List Int) (allv_6 : List aG) (i_6 : Int) (d_6 : List (List Int)) (d_6_2 : List Int) (x_6 : aG) : Nat → Int → aV → Option (aV × Bool)
  | 0, _, _ => none
  | k6 + 1, k_6, o4_6 =>
    bif decide (k_6 < i_6) then ((idx allv_6 k_6).bind fun x29 =>
    (bif !decide (x29.Kind = 5) then (some (decide (x29.Round = x_6.Round))) else (some false)).bind fun b31 =>
    (bif b31 then (some (decide (x29.Place = x_6.Place))) else (some false)).bind fun b32 =>
    bif b32 then (some ((aV.mk ([] : List Int) ([] : List (List Int))), false))
    else ((jB again4 slots_6 allv_6 i_6 d_6 d_6_2 x_6 k6) (w64 (k_6 + 1)) o4_6))
    else (rH again4 slots_6 allv_6 i_6 o4_6 d_6 d_6_2 x_6)

def vN (o4_104 : aV) (d_104 : List (List Int)) (d_104_2 : List Int) : Option (aV × Bool) :=
    some ((aV.mk d_104_2 d_104), true)

def dO (slots_4 : List Int) (allv_4 : List aG) (d_4_2 : List Int) : Nat → Int → aV → (List (List Int)) → Option (aV × Bool)
  | 0, _, _, _ => none
  | k4 + 1, i_4, o4_4, d_4 =>
    bif decide (i_4 < (allv_4.length : Int)) then ((idx allv_4 i_4).bind fun x27 =>
    bif decide (x27.Kind = 5) then (mE (dO slots_4 allv_4 d_4_2 k4) slots_4 allv_4 i_4 o4_4 d_4 d_4_2)
    else (jB (dO slots_4 allv_4 d_4_2 k4) slots_4 allv_4 i_4 d_4 d_4_2 x27 BIG 0 o4_4))
    else (vN o4_4 d_4 d_4_2)

def mC (l_100 : List aG) (slots_100 : List Int) (o4_100 : aV) (d_100 : List (List Int)) (d_100_2 : List Int) : Option (aV × Bool) :=
    (oR l_100).bind fun r26 =>
    dO slots_100 r26 d_100_2 BIG 0 o4_100 d_100

def iB (l_0 : List aG) (slots_0 : List Int) (t_0 : aW) (o4_0 : aV) : Nat → Int → (List (List Int)) → (List Int) → Option (aV × Bool)
  | 0, _, _, _ => none
  | k0 + 1, r_0, d_0, d_0_2 =>
    bif decide (r_0 < t_0.Rounds) then (fD (iB l_0 slots_0 t_0 o4_0 k0) l_0 slots_0 r_0 t_0 o4_0 d_0 d_0_2 BIG 0 ([] : List Int))
    else (mC l_0 slots_0 o4_0 d_0 d_0_2)

def fQ (t_0 : aW) (l_1 : List aG) : Option (aV × Bool) :=
    (oJ t_0 l_1).bind fun r3 =>
    bif !r3.2 then (some ((aV.mk ([] : List Int) ([] : List (List Int))), false))
    else (iB l_1 r3.1 t_0 (aV.mk ([] : List Int) ([] : List (List Int))) BIG 0 ([] : List (List Int)) r3.1)

def lE (l_100 : List aG) (t_100 : aW) : Option Int :=
    (fQ t_100 l_100).bind fun r5 =>
    bif !r5.2 then (some 72)
    else (some 0)

def iN (l_0 : List aG) (t_0 : aW) : Nat → Int → Option Int
  | 0, _ => none
  | k0 + 1, i_0 =>
    bif decide (i_0 < (l_0.length : Int)) then ((idx l_0 i_0).bind fun x3 =>
    (pG t_0 x3).bind fun r4 =>
    bif !r4 then (some 71)
    else ((iN l_0 t_0 k0) (w64 (i_0 + 1))))
    else (lE l_0 t_0)

def fS (t_0 : aW) (l_1 : List aG) : Option Int :=
    (mY t_0).bind fun r2 =>
    bif !r2 then (some 70)
    else (bif decide (60 < (l_1.length : Int)) then (some 71)
    else (iN l_1 t_0 BIG 0))

def dN (n_0 : Int) (low_1 : Int) (high_2 : Int) : Option Bool :=
    (bif decide (low_1 ≤ n_0) then (some (decide (n_0 ≤ high_2))) else (some false)).bind fun b1 =>
    some b1

def yK : Option Bool :=
    some false

def iX (player_0 : Int) (p_0 : aQ) : Nat → Int → Option Bool
  | 0, _ => none
  | k0 + 1, i_0 =>
    bif decide (i_0 < (p_0.Teams.length : Int)) then ((idx p_0.Teams i_0).bind fun x2 =>
    bif decide (x2.Player = player_0) then (some true)
    else ((iX player_0 p_0 k0) (w64 (i_0 + 1))))
    else (yK)

def mG (p_0 : aQ) (player_1 : Int) : Option Bool :=
    iX player_1 p_0 BIG 0

def sD (again0 : Int → Option Bool) (i_101 : Int) (p_101 : aQ) : Option Bool :=
    again0 (w64 (i_101 + 1))

def sE (again0 : Int → Option Bool) (i_102 : Int) (p_102 : aQ) : Option Bool :=
    sD again0 i_102 p_102

def gD (again0 : Int → Option Bool) (i_2 : Int) (p_2 : aQ) (t_2 : cB) : Nat → Int → Option Bool
  | 0, _ => none
  | k2 + 1, k_2 =>
    bif decide (k_2 < i_2) then ((idx p_2.Teams k_2).bind fun x10 =>
    (bif decide (x10.Player = t_2.Player) then (some true) else (some (decide (x10.One = t_2.One)))).bind fun b12 =>
    (bif b12 then (some true) else (some (decide (x10.Two = t_2.One)))).bind fun b13 =>
    (bif b13 then (some true) else ((bif decide (0 ≤ t_2.Two) then ((bif decide (x10.One = t_2.Two) then (some true) else (some (decide (x10.Two = t_2.Two)))).bind fun b14 =>
    some b14) else (some false)).bind fun b15 =>
    some b15)).bind fun b16 =>
    bif b16 then (some false)
    else ((gD again0 i_2 p_2 t_2 k2) (w64 (k_2 + 1))))
    else (sE again0 i_2 p_2)

def oC (p_106 : aQ) : Option Bool :=
    some (decide ((p_106.Teams.length : Int) ≤ 64))

def iI (p_6 : aQ) : Nat → Int → Option Bool
  | 0, _ => none
  | k6 + 1, i_6 =>
    bif decide (i_6 < (p_6.Slips.length : Int)) then ((idx p_6.Slips i_6).bind fun x21 =>
    (bif decide (x21.Kind = 5) then ((idx p_6.Slips i_6).bind fun x22 =>
    (mG p_6 x22.Player).bind fun r23 =>
    some (!r23)) else (some false)).bind fun b24 =>
    bif b24 then (some false)
    else ((iI p_6 k6) (w64 (i_6 + 1))))
    else (oC p_6)

def lJ (p_104 : aQ) : Option Bool :=
    iI p_104 BIG 0

def iH (p_4 : aQ) : Nat → Int → Option Bool
  | 0, _ => none
  | k4 + 1, i_4 =>
    bif decide (i_4 < (p_4.Tree.Slots.length : Int)) then ((idx p_4.Tree.Slots i_4).bind fun x17 =>
    (bif !decide (x17 = (-1)) then ((idx p_4.Tree.Slots i_4).bind fun x18 =>
    (mG p_4 x18).bind fun r19 =>
    some (!r19)) else (some false)).bind fun b20 =>
    bif b20 then (some false)
    else ((iH p_4 k4) (w64 (i_4 + 1))))
    else (lJ p_4)

def lI (p_100 : aQ) : Option Bool :=
    iH p_100 BIG 0

def gC (p_0 : aQ) : Nat → Int → Option Bool
  | 0, _ => none
  | k0 + 1, i_0 =>
    bif decide (i_0 < (p_0.Teams.length : Int)) then ((idx p_0.Teams i_0).bind fun x2 =>
    (dN x2.Player 0 999).bind fun r4 =>
    (bif !r4 then (some true) else ((dN x2.One 0 999).bind fun r5 =>
    some (!r5))).bind fun b6 =>
    (bif b6 then (some true) else ((dN x2.Two (-1) 999).bind fun r7 =>
    some (!r7))).bind fun b8 =>
    (bif b8 then (some true) else (some (decide (x2.One = x2.Two)))).bind fun b9 =>
    bif b9 then (some false)
    else (gD (gC p_0 k0) i_0 p_0 x2 BIG 0))
    else (lI p_0)

def lF (p_0 : aQ) : Option Bool :=
    gC p_0 BIG 0

def aAr (t_100 : cB) : Option (cB × Bool × Bool) :=
    some ((cB.mk 0 0 0), false, false)

def kK (person_0 : Int) (p_0 : aQ) : Nat → Int → cB → Option (cB × Bool × Bool)
  | 0, _, _ => none
  | k0 + 1, i_0, t_0 =>
    bif decide (i_0 < (p_0.Teams.length : Int)) then ((idx p_0.Teams i_0).bind fun x3 =>
    (bif decide (x3.One = person_0) then (some true) else ((idx p_0.Teams i_0).bind fun x4 =>
    (bif decide (x4.Two = person_0) then (some (decide (0 ≤ person_0))) else (some false)).bind fun b5 =>
    some b5)).bind fun b6 =>
    bif b6 then ((idx p_0.Teams i_0).bind fun x7 =>
    (idx p_0.Teams i_0).bind fun x8 =>
    some (x7, decide (x8.Two = person_0), true))
    else ((kK person_0 p_0 k0) (w64 (i_0 + 1)) t_0))
    else (aAr t_0)

def oS (p_0 : aQ) (person_1 : Int) : Option (cB × Bool × Bool) :=
    kK person_1 p_0 BIG 0 (cB.mk 0 0 0)

def gT (p_0 : aQ) (person_1 : Int) : Option Bool :=
    (oS p_0 person_1).bind fun r2 =>
    (bif r2.2.2 then (some (decide (0 ≤ person_1))) else (some false)).bind fun b4 =>
    some b4

def rY (again0 : Int → Option Bool) (i_101 : Int) (p_101 : aQ) : Option Bool :=
    again0 (w64 (i_101 + 1))

def rZ (again0 : Int → Option Bool) (i_102 : Int) (p_102 : aQ) : Option Bool :=
    rY again0 i_102 p_102

def gA (again0 : Int → Option Bool) (i_2 : Int) (p_2 : aQ) : Nat → Int → Option Bool
  | 0, _ => none
  | k2 + 1, k_2 =>
    bif decide (k_2 < i_2) then ((idx p_2.Levies k_2).bind fun x7 =>
    (idx p_2.Levies i_2).bind fun x8 =>
    bif decide (x7.Person = x8.Person) then (some false)
    else ((gA again0 i_2 p_2 k2) (w64 (k_2 + 1))))
    else (rZ again0 i_2 p_2)

def sB (again4 : Int → Option Bool) (i_105 : Int) (p_105 : aQ) : Option Bool :=
    again4 (w64 (i_105 + 1))

def sC (again4 : Int → Option Bool) (i_106 : Int) (p_106 : aQ) : Option Bool :=
    sB again4 i_106 p_106

def gB (again4 : Int → Option Bool) (i_6 : Int) (p_6 : aQ) (r_6 : cU) : Nat → Int → Option Bool
  | 0, _ => none
  | k6 + 1, k_6 =>
    bif decide (k_6 < i_6) then ((idx p_6.Rates k_6).bind fun x16 =>
    bif decide (x16.Person = r_6.Person) then (some false)
    else ((gB again4 i_6 p_6 r_6 k6) (w64 (k_6 + 1))))
    else (sC again4 i_6 p_6)

def sA : Option Bool :=
    some true

def dT (p_4 : aQ) : Nat → Int → Option Bool
  | 0, _ => none
  | k4 + 1, i_4 =>
    bif decide (i_4 < (p_4.Rates.length : Int)) then ((idx p_4.Rates i_4).bind fun x9 =>
    (gT p_4 x9.Person).bind fun r11 =>
    (bif !r11 then (some true) else ((dN x9.Num 1 10000).bind fun r12 =>
    some (!r12))).bind fun b13 =>
    (bif b13 then (some true) else ((dN x9.Den 1 10000).bind fun r14 =>
    some (!r14))).bind fun b15 =>
    bif b15 then (some false)
    else (gB (dT p_4 k4) i_4 p_4 x9 BIG 0))
    else (sA)

def lH (p_100 : aQ) : Option Bool :=
    dT p_100 BIG 0

def dS (p_0 : aQ) : Nat → Int → Option Bool
  | 0, _ => none
  | k0 + 1, i_0 =>
    bif decide (i_0 < (p_0.Levies.length : Int)) then ((idx p_0.Levies i_0).bind fun x2 =>
    (gT p_0 x2.Person).bind fun r3 =>
    (bif !r3 then (some true) else ((idx p_0.Levies i_0).bind fun x4 =>
    (dN x4.Mille 0 500).bind fun r5 =>
    some (!r5))).bind fun b6 =>
    bif b6 then (some false)
    else (gA (dS p_0 k0) i_0 p_0 BIG 0))
    else (lH p_0)

def nL (p_0 : aQ) : Option Bool :=
    dS p_0 BIG 0

def rW (again0 : Int → Option Bool) (i_101 : Int) (p_101 : aQ) : Option Bool :=
    again0 (w64 (i_101 + 1))

def rX (again0 : Int → Option Bool) (i_102 : Int) (p_102 : aQ) : Option Bool :=
    rW again0 i_102 p_102

def fZ (again0 : Int → Option Bool) (i_2 : Int) (p_2 : aQ) (x_2 : aH) : Nat → Int → Option Bool
  | 0, _ => none
  | k2 + 1, k_2 =>
    bif decide (k_2 < i_2) then ((idx p_2.Items k_2).bind fun x13 =>
    (bif decide (x13.Id = x_2.Id) then ((idx p_2.Items k_2).bind fun x14 =>
    some (!decide (x14 = x_2))) else (some false)).bind fun b15 =>
    bif b15 then (some false)
    else ((fZ again0 i_2 p_2 x_2 k2) (w64 (k_2 + 1))))
    else (rX again0 i_2 p_2)

def oB (p_100 : aQ) : Option Bool :=
    some (decide ((p_100.Items.length : Int) ≤ 40))

def dR (p_0 : aQ) : Nat → Int → Option Bool
  | 0, _ => none
  | k0 + 1, i_0 =>
    bif decide (i_0 < (p_0.Items.length : Int)) then ((idx p_0.Items i_0).bind fun x2 =>
    (dN x2.Id 0 99).bind fun r4 =>
    (bif !r4 then (some true) else ((gT p_0 x2.Person).bind fun r5 =>
    some (!r5))).bind fun b6 =>
    (bif b6 then (some true) else ((bif decide (x2.Kind = 1) then ((dN x2.Amount 0 10000000).bind fun r7 =>
    some r7) else (some false)).bind fun b8 =>
    (bif b8 then (some true) else ((bif decide (x2.Kind = 2) then ((dN x2.Amount 0 30).bind fun r9 =>
    some r9) else (some false)).bind fun b10 =>
    some b10)).bind fun b11 =>
    some (!b11))).bind fun b12 =>
    bif b12 then (some false)
    else (fZ (dR p_0 k0) i_0 p_0 x2 BIG 0))
    else (oB p_0)

def nK (p_0 : aQ) : Option Bool :=
    dR p_0 BIG 0

def rB (p_100 : aQ) : Option Int :=
    (bif !decide ((p_100.Prizes.length : Int) = (w64 (p_100.Tree.Rounds + 1))) then (some true) else ((dN p_100.Daily 0 100000).bind fun r9 =>
    some (!r9))).bind fun b10 =>
    bif b10 then (some 100)
    else ((lF p_100).bind fun r11 =>
    (bif !r11 then (some true) else ((nL p_100).bind fun r12 =>
    some (!r12))).bind fun b13 =>
    bif b13 then (some 101)
    else ((nK p_100).bind fun r14 =>
    bif !r14 then (some 102)
    else (some 0)))

def iP (p_0 : aQ) : Nat → Int → Option Int
  | 0, _ => none
  | k0 + 1, i_0 =>
    bif decide (i_0 < (p_0.Prizes.length : Int)) then ((idx p_0.Prizes i_0).bind fun x3 =>
    (dN x3 0 10000000).bind fun r4 =>
    (bif !r4 then (some true) else ((bif decide (0 < i_0) then ((idx p_0.Prizes i_0).bind fun x5 =>
    (idx p_0.Prizes (w64 (i_0 - 1))).bind fun x6 =>
    some (decide (x5 < x6))) else (some false)).bind fun b7 =>
    some b7)).bind fun b8 =>
    bif b8 then (some 100)
    else ((iP p_0 k0) (w64 (i_0 + 1))))
    else (rB p_0)

def qM (p_0 : aQ) : Option Int :=
    (fS p_0.Tree p_0.Slips).bind fun r2 =>
    bif !decide (r2 = 0) then (some r2)
    else (iP p_0 BIG 0)

def oH : Option aQ :=
    some (aQ.mk (aW.mk 2 ([1, 2, 3, 4])) ([(aG.mk 1 0 0 1 0)]) ([100, 300, 1001]) 40 ([(cB.mk 1 11 12), (cB.mk 2 21 22), (cB.mk 3 31 (-1)), (cB.mk 4 41 (-1))]) ([(fG.mk 11 250)]) ([(cU.mk 21 3 2), (cU.mk 22 1 3)]) ([(aH.mk 1 1 21 30), (aH.mk 2 2 11 2), (aH.mk 3 1 31 160)]))

def gF (n_0 : Int) (low_1 : Int) (high_2 : Int) : Option Bool :=
    (bif decide (low_1 ≤ n_0) then (some (decide (n_0 ≤ high_2))) else (some false)).bind fun b1 =>
    some b1

def wU : Option Bool :=
    some true

def jQ (t21_0 : List Int) (t22_0 : Int) (t_0 : aW) : Nat → Int → (List (Int × Int)) → Option Bool
  | 0, _, _ => none
  | k0 + 1, t23_0, o19_0 =>
    bif decide (t23_0 < t22_0) then ((idx t21_0 t23_0).bind fun x6 =>
    bif decide (x6 = (-1)) then ((idx t_0.Slots (aQm t23_0 1)).bind fun x7 =>
    bif decide (x7 = (-1)) then (some false)
    else ((jQ t21_0 t22_0 t_0 k0) (w64 (t23_0 + 1)) o19_0))
    else ((bif decide (1 < (dC x6 0 (hJ x6 (w64 ((dC x6 0 o19_0) + 1)) o19_0))) then (some true) else ((gF x6 0 999).bind fun r8 =>
    some (!r8))).bind fun b9 =>
    bif b9 then (some false)
    else ((jQ t21_0 t22_0 t_0 k0) (w64 (t23_0 + 1)) (hJ x6 (w64 ((dC x6 0 o19_0) + 1)) o19_0))))
    else (wU)

def qF (t_0 : aW) : Option Bool :=
    (gF t_0.Rounds 1 5).bind fun r2 =>
    (bif !r2 then (some true) else ((chk (decide (0 ≤ t_0.Rounds))).bind fun u3 =>
    some (!decide ((t_0.Slots.length : Int) = (w64 (1 * 2 ^ (min t_0.Rounds.toNat 64))))))).bind fun b4 =>
    bif b4 then (some false)
    else (jQ t_0.Slots (t_0.Slots.length : Int) t_0 BIG 0 ([] : List (Int × Int)))

def nZ : Option Int :=
    some (-1)

def fK (s_0 : List aG) (f_0 : aG → Option Bool) (t7_0 : Int) : Nat → Int → Option Int
  | 0, _ => none
  | k0 + 1, t8_0 =>
    bif decide (t8_0 < t7_0) then ((idx s_0 t8_0).bind fun x1 =>
    (f_0 x1).bind fun r2 =>
    bif r2 then (some t8_0)
    else ((fK s_0 f_0 t7_0 k0) (w64 (t8_0 + 1))))
    else (nZ)

def kC (s_0 : List aG) (f_1 : aG → Option Bool) : Option Int :=
    fK s_0 f_1 (s_0.length : Int) BIG 0

def iY (s_0 : List aG) (f_1 : aG → Option Bool) : Option Bool :=
    (kC s_0 f_1).bind fun r1 =>
    some (decide (0 ≤ r1))

def qK (m_0 : aI) (t_1 : aW) : Option Bool :=
    (gF m_0.round 0 (w64 (t_1.Rounds - 1))).bind fun r3 =>
    (bif r3 then ((chk (decide (0 ≤ (w64 (m_0.round + 1))))).bind fun u4 =>
    (gF m_0.place 0 (w64 (((t_1.Slots.length : Int).fdiv (2 ^ (min (w64 (m_0.round + 1)).toNat 64))) - 1))).bind fun r5 =>
    some r5) else (some false)).bind fun b6 =>
    some b6

def vB : Option Int :=
    some (-1)

def jZ (s_0 : List Int) (v_0 : Int) (t7_0 : Int) : Nat → Int → Option Int
  | 0, _ => none
  | k0 + 1, t8_0 =>
    bif decide (t8_0 < t7_0) then ((idx s_0 t8_0).bind fun x1 =>
    bif decide (v_0 = x1) then (some t8_0)
    else ((jZ s_0 v_0 t7_0 k0) (w64 (t8_0 + 1))))
    else (vB)

def iJ (s_0 : List Int) (v_1 : Int) : Option Int :=
    jZ s_0 v_1 (s_0.length : Int) BIG 0

def dE (s_0 : List Int) (v_1 : Int) : Option Bool :=
    (iJ s_0 v_1).bind fun r1 =>
    some (decide (0 ≤ r1))

def sO (t_0 : aW) (s_1 : aG) : Option Bool :=
    (gF s_1.Player 0 999).bind fun r3 =>
    bif !r3 then (some false)
    else (bif decide (s_1.Kind = 5) then ((bif decide (s_1.Round = 0) then ((gF s_1.Place 0 (w64 ((t_0.Slots.length : Int) - 1))).bind fun r4 =>
    some r4) else (some false)).bind fun b5 =>
    (bif b5 then ((gF s_1.Old 0 999).bind fun r6 =>
    some r6) else (some false)).bind fun b7 =>
    some b7)
    else ((gF s_1.Kind 1 4).bind fun r9 =>
    (bif !r9 then (some true) else (some (!decide (s_1.Old = 0)))).bind fun b10 =>
    (bif b10 then (some true) else ((qK (aI.mk s_1.Round s_1.Place) t_0).bind fun r11 =>
    some (!r11))).bind fun b12 =>
    bif b12 then (some false)
    else ((bif decide (0 < s_1.Round) then (some true) else ((sub t_0.Slots (w64 (2 * s_1.Place)) (w64 ((w64 (2 * s_1.Place)) + 2))).bind fun x13 =>
    (dE x13 (-1)).bind fun r14 =>
    some (!r14))).bind fun b15 =>
    some b15)))

def qG (s_0 : aG) (c_1 : aW) : Option Bool :=
    (sO c_1 s_0).bind fun r2 =>
    some (!r2)

def slices_Clone_int (s_0 : List Int) : Option ((List Int)) :=
    (app 8 ([] : List Int) s_0).bind fun x5 =>
    some x5

def pO (againQ : (aG × Bool) → Prop) (d_100 : List Int) (d_100_2 : aW) (lucky_100 : List (aG × Int)) (o6_100 : aG) : Prop :=
    againQ ((aG.mk 0 0 0 0 0), false)

def jI (againQ : (aG × Bool) → Prop) (slot_0 : Int) (d_0 : List Int) (d_0_2 : aW) (lucky_0 : List (aG × Int)) : Nat → aG → (List (aG × Int)) → Prop
  | 0, _, _ => False
  | k0 + 1, o6_0, left_0 =>
    aRi left_0 (pO againQ d_0 d_0_2 lucky_0 o6_0)
    (fun p5 left6 =>
    nb (bif decide (p5.1.Place = slot_0) then ((idx d_0 slot_0).bind fun x8 =>
    some (decide (p5.1.Old = x8))) else (some false)) fun b9 =>
    bif b9 then (againQ (p5.1, true))
    else ((jI againQ slot_0 d_0 d_0_2 lucky_0 k0) o6_0 left6))

def jP (d_0_Tree : aW) (d_0_players : List Int) (lucky_1 : List (aG × Int)) (slot_2 : Int) (Q : (aG × Bool) → Prop) : Prop :=
    aEy lucky_1 fun left3 =>
    jI Q slot_2 d_0_players d_0_Tree lucky_1 BIG (aG.mk 0 0 0 0 0) left3

def nI (againQ : (Bool × (List Int) × (List (aG × Int))) → Prop) (again0 : Int → (List Int) → (List (aG × Int)) → (List Int) → Prop) (t19_101 : Int) (t20_101 : Int) (d_101 : List Int) (d_101_2 : aW) (lucky_101 : List (aG × Int)) (o14_101 : List Int) : Prop :=
    again0 (w64 (t20_101 + 1)) d_101 lucky_101 o14_101

def nJ (againQ : (Bool × (List Int) × (List (aG × Int))) → Prop) (again0 : Int → (List Int) → (List (aG × Int)) → (List Int) → Prop) (t19_102 : Int) (t20_102 : Int) (d_102 : List Int) (d_102_2 : aW) (lucky_102 : List (aG × Int)) (o14_102 : List Int) : Prop :=
    nI againQ again0 t19_102 t20_102 d_102 d_102_2 lucky_102 o14_102

def eS (againQ : (Bool × (List Int) × (List (aG × Int))) → Prop) (again0 : Int → (List Int) → (List (aG × Int)) → (List Int) → Prop) (i_2 : Int) (t19_2 : Int) (t20_2 : Int) (d_2_2 : aW) : Nat → Bool → (List Int) → (List (aG × Int)) → aG → (List Int) → Prop
  | 0, _, _, _, _, _ => False
  | k2 + 1, isv_2, d_2, lucky_2, s_2, o14_2 =>
    bif isv_2 then (nb (dE o14_2 s_2.Player) fun r5 =>
    bif r5 then (againQ (false, d_2, lucky_2))
    else (nb (idx d_2 i_2) fun x6 =>
    nb (app 8 o14_2 ([s_2.Player])) fun x7 =>
    jP d_2_2 (d_2.set i_2.toNat s_2.Player) (sH s_2 lucky_2) i_2 fun r10 =>
    (eS againQ again0 i_2 t19_2 t20_2 d_2_2 k2) r10.2 (d_2.set i_2.toNat s_2.Player) (sH s_2 lucky_2) r10.1 x7))
    else (nJ againQ again0 t19_2 t20_2 d_2 d_2_2 lucky_2 o14_2)

def nH (againQ : (Bool × (List Int) × (List (aG × Int))) → Prop) (d_100 : List Int) (d_100_2 : aW) (lucky_100 : List (aG × Int)) : Prop :=
    againQ (decide ((lucky_100.length : Int) = 0), d_100, lucky_100)

def dF (againQ : (Bool × (List Int) × (List (aG × Int))) → Prop) (t19_0 : Int) (d_0_2 : aW) : Nat → Int → (List Int) → (List (aG × Int)) → (List Int) → Prop
  | 0, _, _, _, _ => False
  | k0 + 1, t20_0, d_0, lucky_0, o14_0 =>
    bif decide (t20_0 < t19_0) then (jP d_0_2 d_0 lucky_0 t20_0 fun r3 =>
    eS againQ (dF againQ t19_0 d_0_2 k0) t20_0 t19_0 t20_0 d_0_2 BIG r3.2 d_0 lucky_0 r3.1 o14_0)
    else (nH againQ d_0 d_0_2 lucky_0)

def mP (d_0_Tree : aW) (d_0_players : List Int) (lucky_1 : List (aG × Int)) (Q : (Bool × (List Int) × (List (aG × Int))) → Prop) : Prop :=
    nb (slices_Clone_int d_0_Tree.Slots) fun r1 =>
    dF Q (d_0_players.length : Int) d_0_Tree BIG 0 d_0_players lucky_1 r1

def pP (round_0 : Int) (slot_1 : Int) : Option aI :=
    (chk (decide (0 ≤ (w64 (round_0 + 1))))).bind fun u2 =>
    some (aI.mk round_0 (slot_1.fdiv (2 ^ (min (w64 (round_0 + 1)).toNat 64))))

def tR (d_100 : List Int) (d_100_2 : List (aI × Int)) (d_100_3 : aW) : Option (Bool × (List (aI × Int))) :=
    some (true, d_100_2)

def jJ (slot_0 : Int) (t12_0 : Int) (d_0 : List Int) (d_0_3 : aW) : Nat → Int → (List (aI × Int)) → Option (Bool × (List (aI × Int)))
  | 0, _, _ => none
  | k0 + 1, t13_0, d_0_2 =>
    bif decide (t13_0 < t12_0) then ((pP t13_0 slot_0).bind fun r1 =>
    (bif eG r1 d_0_2 then ((idx d_0 slot_0).bind fun x3 =>
    some (!decide ((dC r1 0 d_0_2) = x3))) else (some false)).bind fun b4 =>
    bif b4 then (some (false, d_0_2))
    else ((idx d_0 slot_0).bind fun x5 =>
    (jJ slot_0 t12_0 d_0 d_0_3 k0) (w64 (t13_0 + 1)) (hJ r1 x5 d_0_2)))
    else (tR d_0 d_0_2 d_0_3)

def mX (d_0_Tree : aW) (d_0_players : List Int) (d_0_won : List (aI × Int)) (slot_1 : Int) (round_2 : Int) : Option (Bool × (List (aI × Int))) :=
    jJ slot_1 (w64 (round_2 + 1)) d_0_players d_0_Tree BIG 0 d_0_won

def xN (againQ : ((Option bG) × Bool) → Prop) (o22_104 : List Int) (o23_104 : List (aI × Int)) (o25_104 : aW) : Prop :=
    againQ ((some (bG.mk o25_104 o22_104 o23_104)), true)

def lS (againQ : ((Option bG) × Bool) → Prop) (o22_4 : List Int) (o25_4 : aW) (o27_4 : List (aI × aG)) : Nat → (List (aI × Int)) → (List (aI × aG)) → Prop
  | 0, _, _ => False
  | k4 + 1, o23_4, left_4 =>
    aRi left_4 (xN againQ o22_4 o23_4 o25_4)
    (fun p23 left24 =>
    nb (iJ o22_4 p23.2.Player) fun r27 =>
    nb (bif decide (r27 < 0) then (some true) else ((pP p23.1.round r27).bind fun r28 =>
    some (!decide (r28 = p23.1)))) fun b29 =>
    bif b29 then (againQ ((none : Option bG), false))
    else (nb (mX o25_4 o22_4 o23_4 r27 p23.1.round) fun r31 =>
    bif !r31.1 then (againQ ((none : Option bG), false))
    else ((lS againQ o22_4 o25_4 o27_4 k4) r31.2 left24)))

def tQ (againQ : ((Option bG) × Bool) → Prop) (o22_102 : List Int) (o23_102 : List (aI × Int)) (o25_102 : aW) (o27_102 : List (aI × aG)) : Prop :=
    aEy o27_102 fun left21 =>
    lS againQ o22_102 o25_102 o27_102 BIG o23_102 left21

def jH (againQ : ((Option bG) × Bool) → Prop) (t72_2 : Int) (o22_2 : List Int) (o25_2 : aW) (o27_2 : List (aI × aG)) : Nat → Int → (List (aI × Int)) → Prop
  | 0, _, _ => False
  | k2 + 1, t73_2, o23_2 =>
    bif decide (t73_2 < t72_2) then (nb (idx o22_2 t73_2) fun x16 =>
    bif decide (x16 = (-1)) then (nb (mX o25_2 o22_2 o23_2 (aQm t73_2 1) 0) fun r17 =>
    (jH againQ t72_2 o22_2 o25_2 o27_2 k2) (w64 (t73_2 + 1)) r17.2)
    else ((jH againQ t72_2 o22_2 o25_2 o27_2 k2) (w64 (t73_2 + 1)) o23_2))
    else (tQ againQ o22_2 o23_2 o25_2 o27_2)

def tP (againQ : ((Option bG) × Bool) → Prop) (o22_100 : List Int) (o23_100 : List (aI × Int)) (o25_100 : aW) (o26_100 : List (aG × Int)) (o27_100 : List (aI × aG)) : Prop :=
    mP o25_100 o22_100 o26_100 fun r13 =>
    bif !r13.1 then (againQ ((none : Option bG), false))
    else (jH againQ (r13.2.1.length : Int) r13.2.1 o25_100 o27_100 BIG 0 o23_100)

def jG (againQ : ((Option bG) × Bool) → Prop) (t28_0 : List aG) (t29_0 : Int) (o22_0 : List Int) (o23_0 : List (aI × Int)) (o25_0 : aW) : Nat → Int → (List (aG × Int)) → (List (aI × aG)) → Prop
  | 0, _, _, _ => False
  | k0 + 1, t30_0, o26_0, o27_0 =>
    bif decide (t30_0 < t29_0) then (nb (idx t28_0 t30_0) fun x8 =>
    bif decide (x8.Kind = 5) then ((jG againQ t28_0 t29_0 o22_0 o23_0 o25_0 k0) (w64 (t30_0 + 1)) (hJ x8 (w64 ((dC x8 0 o26_0) + 1)) o26_0) o27_0)
    else (nb (bif eG (aI.mk x8.Round x8.Place) o27_0 then (some (!decide ((dC (aI.mk x8.Round x8.Place) (aG.mk 0 0 0 0 0) o27_0) = x8))) else (some false)) fun b12 =>
    bif b12 then (againQ ((none : Option bG), false))
    else ((jG againQ t28_0 t29_0 o22_0 o23_0 o25_0 k0) (w64 (t30_0 + 1)) o26_0 (hJ (aI.mk x8.Round x8.Place) x8 o27_0))))
    else (tP againQ o22_0 o23_0 o25_0 o26_0 o27_0)

def uJ (t_0 : aW) (l_1 : List aG) (Q : ((Option bG) × Bool) → Prop) : Prop :=
    nb (slices_Clone_int t_0.Slots) fun r2 =>
    jG Q l_1 (l_1.length : Int) r2 ([] : List (aI × Int)) t_0 BIG 0 ([] : List (aG × Int)) ([] : List (aI × aG))

def oG (t_0 : aW) (l_1 : List aG) (Q : ((Option bG) × Int) → Prop) : Prop :=
    nb (qF t_0) fun r2 =>
    bif !r2 then (Q ((none : Option bG), 70))
    else (nb (bif decide (60 < (l_1.length : Int)) then (some true) else ((iY l_1 (fun y3 => qG y3 t_0)).bind fun r4 =>
    some r4)) fun b5 =>
    bif b5 then (Q ((none : Option bG), 71))
    else (uJ t_0 l_1 fun r6 =>
    bif !r6.2 then (Q ((none : Option bG), 72))
    else (Q (r6.1, 0))))

def uI (t_0 : aW) (l_1 : List aG) (Q : Int → Prop) : Prop :=
    oG t_0 l_1 fun r2 =>
    Q r2.2

def uK (x_0 : Int) : Option Bool :=
    some (!decide (x_0 = x_0))

def vL (x_0 : Int) (y_1 : Int) : Option Bool :=
    (uK x_0).bind fun r1 =>
    (bif r1 then ((uK y_1).bind fun r2 =>
    some (!r2)) else (some false)).bind fun b3 =>
    (bif b3 then (some true) else (some (decide (x_0 < y_1)))).bind fun b4 =>
    some b4

def xE : Option Bool :=
    some true

def iK (x_0 : List Int) : Nat → Int → Option Bool
  | 0, _ => none
  | k0 + 1, i_0 =>
    bif decide (0 < i_0) then ((idx x_0 i_0).bind fun x1 =>
    (idx x_0 (w64 (i_0 - 1))).bind fun x2 =>
    (vL x1 x2).bind fun r3 =>
    bif r3 then (some false)
    else ((iK x_0 k0) (w64 (i_0 - 1))))
    else (xE)

def nP (x_0 : List Int) : Option Bool :=
    iK x_0 BIG (w64 ((x_0.length : Int) - 1))

def fV (n_0 : Int) (low_1 : Int) (high_2 : Int) : Option Bool :=
    (bif decide (low_1 ≤ n_0) then (some (decide (n_0 ≤ high_2))) else (some false)).bind fun b1 =>
    some b1

def uR (p_0 : aQ) : Option Bool :=
    (bif !decide ((p_0.Prizes.length : Int) = (w64 (p_0.Tree.Rounds + 1))) then (some true) else ((nP p_0.Prizes).bind fun r2 =>
    some (!r2))).bind fun b3 =>
    (bif b3 then (some true) else ((fV p_0.Daily 0 100000).bind fun r4 =>
    some (!r4))).bind fun b5 =>
    bif b5 then (some false)
    else ((idx p_0.Prizes 0).bind fun x6 =>
    (bif decide (0 ≤ x6) then ((idx p_0.Prizes (w64 ((p_0.Prizes.length : Int) - 1))).bind fun x7 =>
    some (decide (x7 ≤ 10000000))) else (some false)).bind fun b8 =>
    some b8)

def slices_Sort_int (x : List Int) : Option (List Int) := if x.length < 4611686018427387904 then some (fC x) else none

def uD (out_100 : List Int) : Option ((List Int)) :=
    (slices_Sort_int out_100).bind fun r9 =>
    some r9

def kM (t7_0 : List cB) (t8_0 : Int) : Nat → Int → (List Int) → Option ((List Int))
  | 0, _, _ => none
  | k0 + 1, t9_0, out_0 =>
    bif decide (t9_0 < t8_0) then ((idx t7_0 t9_0).bind fun x3 =>
    (app 8 out_0 ([x3.One])).bind fun x5 =>
    bif !decide (x3.Two = (-1)) then ((app 8 x5 ([x3.Two])).bind fun x7 =>
    (kM t7_0 t8_0 k0) (w64 (t9_0 + 1)) x7)
    else ((kM t7_0 t8_0 k0) (w64 (t9_0 + 1)) x5))
    else (uD out_0)

def nF (p_0 : aQ) : Option ((List Int)) :=
    kM p_0.Teams (p_0.Teams.length : Int) BIG 0 ([] : List Int)

def tE (again0 : Int → (List Int) → Option ((List Int))) (k_102 : Int) (s_102 : List Int) : Option ((List Int)) :=
    (chk (decide (0 ≤ k_102) && decide (k_102 ≤ (s_102.length : Int)))).bind fun u9 =>
    (chk (decide (k_102.toNat ≤ s_102.length))).bind fun u10 =>
    (chk (decide (0 ≤ k_102))).bind fun u11 =>
    some (s_102.take k_102.toNat)

def gW (again0 : Int → (List Int) → Option ((List Int))) (s2_2 : Int) : Nat → Int → Int → (List Int) → Option ((List Int))
  | 0, _, _, _ => none
  | k2 + 1, k_2, k2_2, s_2 =>
    bif decide (k2_2 < ((s_2.drop s2_2.toNat).length : Int)) then ((idx (s_2.drop s2_2.toNat) k2_2).bind fun x5 =>
    (idx (s_2.drop s2_2.toNat) (w64 (k2_2 - 1))).bind fun x6 =>
    bif !decide (x5 = x6) then ((idx (s_2.drop s2_2.toNat) k2_2).bind fun x7 =>
    (idx s_2 k_2).bind fun x8 =>
    (gW again0 s2_2 k2) (w64 (k_2 + 1)) (w64 (k2_2 + 1)) (s_2.set k_2.toNat x7))
    else ((gW again0 s2_2 k2) k_2 (w64 (k2_2 + 1)) s_2))
    else (tE again0 k_2 s_2)

def tD (again0 : Int → (List Int) → Option ((List Int))) (k_101 : Int) (s_101 : List Int) : Option ((List Int)) :=
    again0 (w64 (k_101 + 1)) s_101

def tC (s_100 : List Int) : Option ((List Int)) :=
    some s_100

def fH : Nat → Int → (List Int) → Option ((List Int))
  | 0, _, _ => none
  | k0 + 1, k_0, s_0 =>
    bif decide (k_0 < (s_0.length : Int)) then ((idx s_0 k_0).bind fun x2 =>
    (idx s_0 (w64 (k_0 - 1))).bind fun x3 =>
    bif decide (x2 = x3) then ((chk (decide (0 ≤ k_0) && decide (k_0 ≤ (s_0.length : Int)))).bind fun u4 =>
    gW (fH k0) k_0 BIG k_0 1 s_0)
    else (tD (fH k0) k_0 s_0))
    else (tC s_0)

def slices_Compact_int (s_0 : List Int) : Option ((List Int)) :=
    bif decide ((s_0.length : Int) < 2) then (some s_0)
    else (fH BIG 1 s_0)

def oV (l_0 : List Int) : Option Bool :=
    (slices_Clone_int l_0).bind fun r1 =>
    (slices_Compact_int r1).bind fun r3 =>
    some (decide ((r3.length : Int) = (l_0.length : Int)))

def vZ : Option Bool :=
    some true

def gP (people_0 : List Int) (ofv_0 : fG → Option (Int × Bool)) (t12_0 : List fG) (t13_0 : Int) : Nat → Int → (List Int) → Option Bool
  | 0, _, _ => none
  | k0 + 1, t14_0, done_0 =>
    bif decide (t14_0 < t13_0) then ((idx t12_0 t14_0).bind fun x2 =>
    (ofv_0 x2).bind fun r4 =>
    (bif !r4.2 then (some true) else ((dE people_0 r4.1).bind fun r5 =>
    some (!r5))).bind fun b6 =>
    (bif b6 then (some true) else ((dE done_0 r4.1).bind fun r7 =>
    some r7)).bind fun b8 =>
    bif b8 then (some false)
    else ((app 8 done_0 ([r4.1])).bind fun x9 =>
    (gP people_0 ofv_0 t12_0 t13_0 k0) (w64 (t14_0 + 1)) x9))
    else (vZ)

def mH (people_0 : List Int) (l_1 : List fG) (of_2 : fG → Option (Int × Bool)) : Option Bool :=
    gP people_0 of_2 l_1 (l_1.length : Int) BIG 0 ([] : List Int)

def lV (l_0 : fG) : Option (Int × Bool) :=
    (fV l_0.Mille 0 500).bind fun r2 =>
    some (l_0.Person, r2)

def wA : Option Bool :=
    some true

def gQ (people_0 : List Int) (ofv_0 : cU → Option (Int × Bool)) (t12_0 : List cU) (t13_0 : Int) : Nat → Int → (List Int) → Option Bool
  | 0, _, _ => none
  | k0 + 1, t14_0, done_0 =>
    bif decide (t14_0 < t13_0) then ((idx t12_0 t14_0).bind fun x2 =>
    (ofv_0 x2).bind fun r4 =>
    (bif !r4.2 then (some true) else ((dE people_0 r4.1).bind fun r5 =>
    some (!r5))).bind fun b6 =>
    (bif b6 then (some true) else ((dE done_0 r4.1).bind fun r7 =>
    some r7)).bind fun b8 =>
    bif b8 then (some false)
    else ((app 8 done_0 ([r4.1])).bind fun x9 =>
    (gQ people_0 ofv_0 t12_0 t13_0 k0) (w64 (t14_0 + 1)) x9))
    else (wA)

def mI (people_0 : List Int) (l_1 : List cU) (of_2 : cU → Option (Int × Bool)) : Option Bool :=
    gQ people_0 of_2 l_1 (l_1.length : Int) BIG 0 ([] : List Int)

def lW (r_0 : cU) : Option (Int × Bool) :=
    (fV r_0.Num 1 10000).bind fun r2 =>
    (bif r2 then ((fV r_0.Den 1 10000).bind fun r3 =>
    some r3) else (some false)).bind fun b4 =>
    some (r_0.Person, b4)

def pL (people_104 : List Int) (p_104 : aQ) : Option Bool :=
    (mH people_104 p_104.Levies (fun y24 => lV y24)).bind fun r25 =>
    (bif r25 then ((mI people_104 p_104.Rates (fun y26 => lW y26)).bind fun r27 =>
    some r27) else (some false)).bind fun b28 =>
    some b28

def kY (people_4 : List Int) (t76_4 : List aG) (t77_4 : Int) (p_4 : aQ) (players_4 : List Int) : Nat → Int → Option Bool
  | 0, _ => none
  | k4 + 1, t78_4 =>
    bif decide (t78_4 < t77_4) then ((idx t76_4 t78_4).bind fun x20 =>
    (bif decide (x20.Kind = 5) then ((dE players_4 x20.Player).bind fun r22 =>
    some (!r22)) else (some false)).bind fun b23 =>
    bif b23 then (some false)
    else ((kY people_4 t76_4 t77_4 p_4 players_4 k4) (w64 (t78_4 + 1))))
    else (pL people_4 p_4)

def pK (people_102 : List Int) (p_102 : aQ) (players_102 : List Int) : Option Bool :=
    kY people_102 p_102.Slips (p_102.Slips.length : Int) p_102 players_102 BIG 0

def jU (people_2 : List Int) (t60_2 : List Int) (t61_2 : Int) (p_2 : aQ) (players_2 : List Int) : Nat → Int → Option Bool
  | 0, _ => none
  | k2 + 1, t62_2 =>
    bif decide (t62_2 < t61_2) then ((idx t60_2 t62_2).bind fun x17 =>
    (bif !decide (x17 = (-1)) then ((dE players_2 x17).bind fun r18 =>
    some (!r18)) else (some false)).bind fun b19 =>
    bif b19 then (some false)
    else ((jU people_2 t60_2 t61_2 p_2 players_2 k2) (w64 (t62_2 + 1))))
    else (pK people_2 p_2 players_2)

def pJ (p_100 : aQ) (players_100 : List Int) : Option Bool :=
    (slices_Sort_int players_100).bind fun r12 =>
    (nF p_100).bind fun r13 =>
    (oV r12).bind fun r14 =>
    (bif !r14 then (some true) else ((oV r13).bind fun r15 =>
    some (!r15))).bind fun b16 =>
    bif b16 then (some false)
    else (jU r13 p_100.Tree.Slots (p_100.Tree.Slots.length : Int) p_100 r12 BIG 0)

def kX (t18_0 : List cB) (t19_0 : Int) (p_0 : aQ) : Nat → Int → (List Int) → Option Bool
  | 0, _, _ => none
  | k0 + 1, t20_0, players_0 =>
    bif decide (t20_0 < t19_0) then ((idx t18_0 t20_0).bind fun x3 =>
    (fV x3.Player 0 999).bind fun r5 =>
    (bif !r5 then (some true) else ((fV x3.One 0 999).bind fun r6 =>
    some (!r6))).bind fun b7 =>
    (bif b7 then (some true) else ((fV x3.Two (-1) 999).bind fun r8 =>
    some (!r8))).bind fun b9 =>
    bif b9 then (some false)
    else ((app 8 players_0 ([x3.Player])).bind fun x10 =>
    (kX t18_0 t19_0 p_0 k0) (w64 (t20_0 + 1)) x10))
    else (pJ p_0 players_0)

def sY (p_0 : aQ) : Option Bool :=
    bif decide (64 < (p_0.Teams.length : Int)) then (some false)
    else (kX p_0.Teams (p_0.Teams.length : Int) p_0 BIG 0 ([] : List Int))

def mJ (s_0 : List aH) : Option ((List aH)) :=
    (app 32 ([] : List aH) s_0).bind fun x5 =>
    some x5

def gL (again0 : Int → (List aH) → Option ((List aH))) (a_101 : Int) (b_101 : Int) (cmp_101 : aH → aH → Option Int) (i_101 : Int) (data_101 : List aH) : Option ((List aH)) :=
    again0 (w64 (i_101 + 1)) data_101

def gM (again0 : Int → (List aH) → Option ((List aH))) (a_102 : Int) (b_102 : Int) (cmp_102 : aH → aH → Option Int) (i_102 : Int) (data_102 : List aH) : Option ((List aH)) :=
    gL again0 a_102 b_102 cmp_102 i_102 data_102

def dB (again0 : Int → (List aH) → Option ((List aH))) (a_2 : Int) (b_2 : Int) (cmp_2 : aH → aH → Option Int) (i_2 : Int) : Nat → Int → (List aH) → Option ((List aH))
  | 0, _, _ => none
  | k2 + 1, j_2, data_2 =>
    (bif decide (a_2 < j_2) then ((idx data_2 j_2).bind fun x1 =>
    (idx data_2 (w64 (j_2 - 1))).bind fun x2 =>
    (cmp_2 x1 x2).bind fun r3 =>
    some (decide (r3 < 0))) else (some false)).bind fun b4 =>
    bif b4 then ((idx data_2 (w64 (j_2 - 1))).bind fun x5 =>
    (idx data_2 j_2).bind fun x6 =>
    (idx data_2 j_2).bind fun x7 =>
    (idx (data_2.set j_2.toNat x5) (w64 (j_2 - 1))).bind fun x8 =>
    (dB again0 a_2 b_2 cmp_2 i_2 k2) (w64 (j_2 - 1)) ((data_2.set j_2.toNat x5).set (w64 (j_2 - 1)).toNat x6))
    else (gM again0 a_2 b_2 cmp_2 i_2 data_2)

def gK (data_100 : List aH) : Option ((List aH)) :=
    some data_100

def cQ (a_0 : Int) (b_0 : Int) (cmp_0 : aH → aH → Option Int) : Nat → Int → (List aH) → Option ((List aH))
  | 0, _, _ => none
  | k0 + 1, i_0, data_0 =>
    bif decide (i_0 < b_0) then (dB (cQ a_0 b_0 cmp_0 k0) a_0 b_0 cmp_0 i_0 BIG i_0 data_0)
    else (gK data_0)

def dP (data_0 : List aH) (a_1 : Int) (b_2 : Int) (cmp_3 : aH → aH → Option Int) : Option ((List aH)) :=
    cQ a_1 b_2 cmp_3 BIG (w64 (a_1 + 1)) data_0

def kR (data_100 : List aH) : Option ((List aH)) :=
    some data_100

def eC (a_0 : Int) (b_0 : Int) (n_0 : Int) : Nat → Int → (List aH) → Option ((List aH))
  | 0, _, _ => none
  | k0 + 1, i_0, data_0 =>
    bif decide (i_0 < n_0) then ((idx data_0 (w64 (b_0 + i_0))).bind fun x1 =>
    (idx data_0 (w64 (a_0 + i_0))).bind fun x2 =>
    (idx data_0 (w64 (a_0 + i_0))).bind fun x3 =>
    (idx (data_0.set (w64 (a_0 + i_0)).toNat x1) (w64 (b_0 + i_0))).bind fun x4 =>
    (eC a_0 b_0 n_0 k0) (w64 (i_0 + 1)) ((data_0.set (w64 (a_0 + i_0)).toNat x1).set (w64 (b_0 + i_0)).toNat x2))
    else (kR data_0)

def eR (data_0 : List aH) (a_1 : Int) (b_2 : Int) (n_3 : Int) (cmp_4 : aH → aH → Option Int) : Option ((List aH)) :=
    eC a_1 b_2 n_3 BIG 0 data_0

def lX (m_100 : Int) (cmp_100 : aH → aH → Option Int) (i_100 : Int) (data_100 : List aH) : Option ((List aH)) :=
    (eR data_100 (w64 (m_100 - i_100)) m_100 i_100 cmp_100).bind fun r3 =>
    some r3

def dG (m_0 : Int) (cmp_0 : aH → aH → Option Int) : Nat → Int → Int → (List aH) → Option ((List aH))
  | 0, _, _, _ => none
  | k0 + 1, i_0, j_0, data_0 =>
    bif !decide (i_0 = j_0) then (bif decide (j_0 < i_0) then ((eR data_0 (w64 (m_0 - i_0)) m_0 j_0 cmp_0).bind fun r1 =>
    (dG m_0 cmp_0 k0) (w64 (i_0 - j_0)) j_0 r1)
    else ((eR data_0 (w64 (m_0 - i_0)) (w64 ((w64 (m_0 + j_0)) - i_0)) i_0 cmp_0).bind fun r2 =>
    (dG m_0 cmp_0 k0) i_0 (w64 (j_0 - i_0)) r2))
    else (lX m_0 cmp_0 i_0 data_0)

def fW (data_0 : List aH) (a_1 : Int) (m_2 : Int) (b_3 : Int) (cmp_4 : aH → aH → Option Int) : Option ((List aH)) :=
    dG m_2 cmp_4 BIG (w64 (m_2 - a_1)) (w64 (b_3 - m_2)) data_0

def lA (againR : (List aH) → Int → Int → Int → Option ((List aH))) (data_102 : List aH) : Option ((List aH)) :=
    some data_102

def eI (againR : (List aH) → Int → Int → Int → Option ((List aH))) (i_2 : Int) : Nat → Int → (List aH) → Option ((List aH))
  | 0, _, _ => none
  | k2 + 1, k_2, data_2 =>
    bif decide (k_2 < (w64 (i_2 - 1))) then ((idx data_2 (w64 (k_2 + 1))).bind fun x4 =>
    (idx data_2 k_2).bind fun x5 =>
    (idx data_2 k_2).bind fun x6 =>
    (idx (data_2.set k_2.toNat x4) (w64 (k_2 + 1))).bind fun x7 =>
    (eI againR i_2 k2) (w64 (k_2 + 1)) ((data_2.set k_2.toNat x4).set (w64 (k_2 + 1)).toNat x5))
    else (lA againR data_2)

def iU (againR : (List aH) → Int → Int → Int → Option ((List aH))) (a_100 : Int) (i_100 : Int) (data_100 : List aH) : Option ((List aH)) :=
    eI againR i_100 BIG a_100 data_100

def cY (againR : (List aH) → Int → Int → Int → Option ((List aH))) (a_0 : Int) (cmp_0 : aH → aH → Option Int) (data_0 : List aH) : Nat → Int → Int → Option ((List aH))
  | 0, _, _ => none
  | k0 + 1, i_0, j_0 =>
    bif decide (i_0 < j_0) then ((idx data_0 (w64 ((IntKind.u64.wrap (w64 (i_0 + j_0))).fdiv (2 ^ (min (1 : Int).toNat 64))))).bind fun x1 =>
    (idx data_0 a_0).bind fun x2 =>
    (cmp_0 x1 x2).bind fun r3 =>
    bif decide (r3 < 0) then ((cY againR a_0 cmp_0 data_0 k0) (w64 ((w64 ((IntKind.u64.wrap (w64 (i_0 + j_0))).fdiv (2 ^ (min (1 : Int).toNat 64)))) + 1)) j_0)
    else ((cY againR a_0 cmp_0 data_0 k0) i_0 (w64 ((IntKind.u64.wrap (w64 (i_0 + j_0))).fdiv (2 ^ (min (1 : Int).toNat 64))))))
    else (iU againR a_0 i_0 data_0)

def lB (againR : (List aH) → Int → Int → Int → Option ((List aH))) (data_106 : List aH) : Option ((List aH)) :=
    some data_106

def eJ (againR : (List aH) → Int → Int → Int → Option ((List aH))) (i_6 : Int) : Nat → Int → (List aH) → Option ((List aH))
  | 0, _, _ => none
  | k6 + 1, k_6, data_6 =>
    bif decide (i_6 < k_6) then ((idx data_6 (w64 (k_6 - 1))).bind fun x11 =>
    (idx data_6 k_6).bind fun x12 =>
    (idx data_6 k_6).bind fun x13 =>
    (idx (data_6.set k_6.toNat x11) (w64 (k_6 - 1))).bind fun x14 =>
    (eJ againR i_6 k6) (w64 (k_6 - 1)) ((data_6.set k_6.toNat x11).set (w64 (k_6 - 1)).toNat x12))
    else (lB againR data_6)

def iV (againR : (List aH) → Int → Int → Int → Option ((List aH))) (m_104 : Int) (i_104 : Int) (data_104 : List aH) : Option ((List aH)) :=
    eJ againR i_104 BIG m_104 data_104

def cZ (againR : (List aH) → Int → Int → Int → Option ((List aH))) (m_4 : Int) (cmp_4 : aH → aH → Option Int) (data_4 : List aH) : Nat → Int → Int → Option ((List aH))
  | 0, _, _ => none
  | k4 + 1, i_4, j_4 =>
    bif decide (i_4 < j_4) then ((idx data_4 m_4).bind fun x8 =>
    (idx data_4 (w64 ((IntKind.u64.wrap (w64 (i_4 + j_4))).fdiv (2 ^ (min (1 : Int).toNat 64))))).bind fun x9 =>
    (cmp_4 x8 x9).bind fun r10 =>
    bif !(decide (r10 < 0)) then ((cZ againR m_4 cmp_4 data_4 k4) (w64 ((w64 ((IntKind.u64.wrap (w64 (i_4 + j_4))).fdiv (2 ^ (min (1 : Int).toNat 64)))) + 1)) j_4)
    else ((cZ againR m_4 cmp_4 data_4 k4) i_4 (w64 ((IntKind.u64.wrap (w64 (i_4 + j_4))).fdiv (2 ^ (min (1 : Int).toNat 64))))))
    else (iV againR m_4 i_4 data_4)

def dK (againR : (List aH) → Int → Int → Int → Option ((List aH))) (a_108 : Int) (m_108 : Int) (b_108 : Int) (cmp_108 : aH → aH → Option Int) (mid_108 : Int) (n_108 : Int) (start_108 : Int) (data_108 : List aH) : Option ((List aH)) :=
    (bif decide (start_108 < m_108) then (some (decide (m_108 < (w64 (n_108 - start_108))))) else (some false)).bind fun b18 =>
    bif b18 then ((fW data_108 start_108 m_108 (w64 (n_108 - start_108)) cmp_108).bind fun r19 =>
    (bif decide (a_108 < start_108) then (some (decide (start_108 < mid_108))) else (some false)).bind fun b20 =>
    bif b20 then ((againR r19 a_108 start_108 mid_108).bind fun r21 =>
    (bif decide (mid_108 < (w64 (n_108 - start_108))) then (some (decide ((w64 (n_108 - start_108)) < b_108))) else (some false)).bind fun b22 =>
    bif b22 then ((againR r21 mid_108 (w64 (n_108 - start_108)) b_108).bind fun r23 =>
    some r23)
    else (some r21))
    else ((bif decide (mid_108 < (w64 (n_108 - start_108))) then (some (decide ((w64 (n_108 - start_108)) < b_108))) else (some false)).bind fun b24 =>
    bif b24 then ((againR r19 mid_108 (w64 (n_108 - start_108)) b_108).bind fun r25 =>
    some r25)
    else (some r19)))
    else ((bif decide (a_108 < start_108) then (some (decide (start_108 < mid_108))) else (some false)).bind fun b26 =>
    bif b26 then ((againR data_108 a_108 start_108 mid_108).bind fun r27 =>
    (bif decide (mid_108 < (w64 (n_108 - start_108))) then (some (decide ((w64 (n_108 - start_108)) < b_108))) else (some false)).bind fun b28 =>
    bif b28 then ((againR r27 mid_108 (w64 (n_108 - start_108)) b_108).bind fun r29 =>
    some r29)
    else (some r27))
    else ((bif decide (mid_108 < (w64 (n_108 - start_108))) then (some (decide ((w64 (n_108 - start_108)) < b_108))) else (some false)).bind fun b30 =>
    bif b30 then ((againR data_108 mid_108 (w64 (n_108 - start_108)) b_108).bind fun r31 =>
    some r31)
    else (some data_108)))

def cJ (againR : (List aH) → Int → Int → Int → Option ((List aH))) (a_8 : Int) (m_8 : Int) (b_8 : Int) (cmp_8 : aH → aH → Option Int) (mid_8 : Int) (n_8 : Int) (p_8 : Int) (data_8 : List aH) : Nat → Int → Int → Option ((List aH))
  | 0, _, _ => none
  | k8 + 1, start_8, r_8 =>
    bif decide (start_8 < r_8) then ((idx data_8 (w64 (p_8 - (w64 ((IntKind.u64.wrap (w64 (start_8 + r_8))).fdiv (2 ^ (min (1 : Int).toNat 64))))))).bind fun x15 =>
    (idx data_8 (w64 ((IntKind.u64.wrap (w64 (start_8 + r_8))).fdiv (2 ^ (min (1 : Int).toNat 64))))).bind fun x16 =>
    (cmp_8 x15 x16).bind fun r17 =>
    bif !(decide (r17 < 0)) then ((cJ againR a_8 m_8 b_8 cmp_8 mid_8 n_8 p_8 data_8 k8) (w64 ((w64 ((IntKind.u64.wrap (w64 (start_8 + r_8))).fdiv (2 ^ (min (1 : Int).toNat 64)))) + 1)) r_8)
    else ((cJ againR a_8 m_8 b_8 cmp_8 mid_8 n_8 p_8 data_8 k8) start_8 (w64 ((IntKind.u64.wrap (w64 (start_8 + r_8))).fdiv (2 ^ (min (1 : Int).toNat 64))))))
    else (dK againR a_8 m_8 b_8 cmp_8 mid_8 n_8 start_8 data_8)

def bI (cmp_4 : aH → aH → Option Int) : Nat → (List aH) → Int → Int → Int → Option ((List aH))
  | 0, _, _, _, _ => none
  | kr + 1, data_0, a_1, m_2, b_3 =>
    bif decide ((w64 (m_2 - a_1)) = 1) then (cY (bI cmp_4 kr) a_1 cmp_4 data_0 BIG m_2 b_3)
    else (bif decide ((w64 (b_3 - m_2)) = 1) then (cZ (bI cmp_4 kr) m_2 cmp_4 data_0 BIG a_1 m_2)
    else (bif decide ((w64 ((IntKind.u64.wrap (w64 (a_1 + b_3))).fdiv (2 ^ (min (1 : Int).toNat 64)))) < m_2) then (cJ (bI cmp_4 kr) a_1 m_2 b_3 cmp_4 (w64 ((IntKind.u64.wrap (w64 (a_1 + b_3))).fdiv (2 ^ (min (1 : Int).toNat 64)))) (w64 ((w64 ((IntKind.u64.wrap (w64 (a_1 + b_3))).fdiv (2 ^ (min (1 : Int).toNat 64)))) + m_2)) (w64 ((w64 ((w64 ((IntKind.u64.wrap (w64 (a_1 + b_3))).fdiv (2 ^ (min (1 : Int).toNat 64)))) + m_2)) - 1)) data_0 BIG (w64 ((w64 ((w64 ((IntKind.u64.wrap (w64 (a_1 + b_3))).fdiv (2 ^ (min (1 : Int).toNat 64)))) + m_2)) - b_3)) (w64 ((IntKind.u64.wrap (w64 (a_1 + b_3))).fdiv (2 ^ (min (1 : Int).toNat 64)))))
    else (cJ (bI cmp_4 kr) a_1 m_2 b_3 cmp_4 (w64 ((IntKind.u64.wrap (w64 (a_1 + b_3))).fdiv (2 ^ (min (1 : Int).toNat 64)))) (w64 ((w64 ((IntKind.u64.wrap (w64 (a_1 + b_3))).fdiv (2 ^ (min (1 : Int).toNat 64)))) + m_2)) (w64 ((w64 ((w64 ((IntKind.u64.wrap (w64 (a_1 + b_3))).fdiv (2 ^ (min (1 : Int).toNat 64)))) + m_2)) - 1)) data_0 BIG a_1 m_2)))

def jN (data_0 : List aH) (a_1 : Int) (m_2 : Int) (b_3 : Int) (cmp_4 : aH → aH → Option Int) : Option ((List aH)) := bI cmp_4 BIG data_0 a_1 m_2 b_3

def gR (again2 : Int → (List aH) → Option ((List aH))) (n_103 : Int) (cmp_103 : aH → aH → Option Int) (blockSize_103 : Int) (data_103 : List aH) : Option ((List aH)) :=
    again2 blockSize_103 data_103

def mA (again2 : Int → (List aH) → Option ((List aH))) (n_104 : Int) (cmp_104 : aH → aH → Option Int) (blockSize_104 : Int) (a_104 : Int) (data_104 : List aH) : Option ((List aH)) :=
    bif decide ((w64 (a_104 + blockSize_104)) < n_104) then ((jN data_104 a_104 (w64 (a_104 + blockSize_104)) n_104 cmp_104).bind fun r4 =>
    gR again2 n_104 cmp_104 (w64 (blockSize_104 * 2)) r4)
    else (gR again2 n_104 cmp_104 (w64 (blockSize_104 * 2)) data_104)

def eQ (again2 : Int → (List aH) → Option ((List aH))) (n_4 : Int) (cmp_4 : aH → aH → Option Int) (blockSize_4 : Int) : Nat → Int → Int → (List aH) → Option ((List aH))
  | 0, _, _, _ => none
  | k4 + 1, a_4, b_4, data_4 =>
    bif decide (b_4 ≤ n_4) then ((jN data_4 a_4 (w64 (a_4 + blockSize_4)) b_4 cmp_4).bind fun r3 =>
    (eQ again2 n_4 cmp_4 blockSize_4 k4) b_4 (w64 (b_4 + (w64 (2 * blockSize_4)))) r3)
    else (mA again2 n_4 cmp_4 blockSize_4 a_4 data_4)

def lZ (data_102 : List aH) : Option ((List aH)) :=
    some data_102

def dH (n_2 : Int) (cmp_2 : aH → aH → Option Int) : Nat → Int → (List aH) → Option ((List aH))
  | 0, _, _ => none
  | k2 + 1, blockSize_2, data_2 =>
    bif decide (blockSize_2 < n_2) then (eQ (dH n_2 cmp_2 k2) n_2 cmp_2 blockSize_2 BIG 0 (w64 (2 * blockSize_2)) data_2)
    else (lZ data_2)

def lY (n_100 : Int) (cmp_100 : aH → aH → Option Int) (blockSize_100 : Int) (a_100 : Int) (data_100 : List aH) : Option ((List aH)) :=
    (dP data_100 a_100 n_100 cmp_100).bind fun r2 =>
    dH n_100 cmp_100 BIG blockSize_100 r2

def eP (n_0 : Int) (cmp_0 : aH → aH → Option Int) (blockSize_0 : Int) : Nat → Int → Int → (List aH) → Option ((List aH))
  | 0, _, _, _ => none
  | k0 + 1, a_0, b_0, data_0 =>
    bif decide (b_0 ≤ n_0) then ((dP data_0 a_0 b_0 cmp_0).bind fun r1 =>
    (eP n_0 cmp_0 blockSize_0 k0) b_0 (w64 (b_0 + blockSize_0)) r1)
    else (lY n_0 cmp_0 blockSize_0 a_0 data_0)

def kF (data_0 : List aH) (n_1 : Int) (cmp_2 : aH → aH → Option Int) : Option ((List aH)) :=
    eP n_1 cmp_2 20 BIG 0 20 data_0

def iF (x_0 : List aH) (cmp_1 : aH → aH → Option Int) : Option ((List aH)) :=
    (kF x_0 (x_0.length : Int) cmp_1).bind fun r1 =>
    some r1

def sZ (a_0 : aH) (b_1 : aH) : Option Int :=
    some (w64 (a_0.Id - b_1.Id))

def pD (again0 : Int → (List aH) → Option ((List aH))) (k_102 : Int) (s_102 : List aH) : Option ((List aH)) :=
    (chk (decide (0 ≤ k_102) && decide (k_102 ≤ (s_102.length : Int)))).bind fun u9 =>
    (chk (decide (k_102.toNat ≤ s_102.length))).bind fun u10 =>
    (chk (decide (0 ≤ k_102))).bind fun u11 =>
    some (s_102.take k_102.toNat)

def fF (again0 : Int → (List aH) → Option ((List aH))) (s2_2 : Int) : Nat → Int → Int → (List aH) → Option ((List aH))
  | 0, _, _, _ => none
  | k2 + 1, k_2, k2_2, s_2 =>
    bif decide (k2_2 < ((s_2.drop s2_2.toNat).length : Int)) then ((idx (s_2.drop s2_2.toNat) k2_2).bind fun x5 =>
    (idx (s_2.drop s2_2.toNat) (w64 (k2_2 - 1))).bind fun x6 =>
    bif !decide (x5 = x6) then ((idx (s_2.drop s2_2.toNat) k2_2).bind fun x7 =>
    (idx s_2 k_2).bind fun x8 =>
    (fF again0 s2_2 k2) (w64 (k_2 + 1)) (w64 (k2_2 + 1)) (s_2.set k_2.toNat x7))
    else ((fF again0 s2_2 k2) k_2 (w64 (k2_2 + 1)) s_2))
    else (pD again0 k_2 s_2)

def pC (again0 : Int → (List aH) → Option ((List aH))) (k_101 : Int) (s_101 : List aH) : Option ((List aH)) :=
    again0 (w64 (k_101 + 1)) s_101

def pB (s_100 : List aH) : Option ((List aH)) :=
    some s_100

def dW : Nat → Int → (List aH) → Option ((List aH))
  | 0, _, _ => none
  | k0 + 1, k_0, s_0 =>
    bif decide (k_0 < (s_0.length : Int)) then ((idx s_0 k_0).bind fun x2 =>
    (idx s_0 (w64 (k_0 - 1))).bind fun x3 =>
    bif decide (x2 = x3) then ((chk (decide (0 ≤ k_0) && decide (k_0 ≤ (s_0.length : Int)))).bind fun u4 =>
    fF (dW k0) k_0 BIG k_0 1 s_0)
    else (pC (dW k0) k_0 s_0))
    else (pB s_0)

def kV (s_0 : List aH) : Option ((List aH)) :=
    bif decide ((s_0.length : Int) < 2) then (some s_0)
    else (dW BIG 1 s_0)

def aBk (o7_100 : List aH) : Option ((List aH) × Bool) :=
    (kV o7_100).bind fun r11 =>
    some (r11, true)

def lP (o7_0 : List aH) : Nat → Int → Option ((List aH) × Bool)
  | 0, _ => none
  | k0 + 1, i_0 =>
    bif decide (i_0 < (o7_0.length : Int)) then ((idx o7_0 i_0).bind fun x6 =>
    (idx o7_0 (w64 (i_0 - 1))).bind fun x7 =>
    (bif decide (x6.Id = x7.Id) then ((idx o7_0 i_0).bind fun x8 =>
    (idx o7_0 (w64 (i_0 - 1))).bind fun x9 =>
    some (!decide (x8 = x9))) else (some false)).bind fun b10 =>
    bif b10 then (some (([] : List aH), false))
    else ((lP o7_0 k0) (w64 (i_0 + 1))))
    else (aBk o7_0)

def pX (all_0 : List aH) : Option ((List aH) × Bool) :=
    (mJ all_0).bind fun r1 =>
    (iF r1 (fun y3 y4 => sZ y3 y4)).bind fun r5 =>
    lP r5 BIG 1

def sM (p_100 : aQ) : Option Bool :=
    (pX p_100.Items).bind fun r19 =>
    (bif r19.2 then (some (decide ((p_100.Items.length : Int) ≤ 40))) else (some false)).bind fun b20 =>
    some b20

def jT (people_0 : List Int) (t12_0 : List aH) (t13_0 : Int) (p_0 : aQ) : Nat → Int → Option Bool
  | 0, _ => none
  | k0 + 1, t14_0 =>
    bif decide (t14_0 < t13_0) then ((idx t12_0 t14_0).bind fun x3 =>
    bif decide (x3.Kind = 2) then ((bif !decide (x3.Kind = 1) then (some (!decide (x3.Kind = 2))) else (some false)).bind fun b5 =>
    (bif b5 then (some true) else ((fV x3.Id 0 99).bind fun r6 =>
    some (!r6))).bind fun b7 =>
    (bif b7 then (some true) else ((dE people_0 x3.Person).bind fun r8 =>
    some (!r8))).bind fun b9 =>
    (bif b9 then (some true) else ((fV x3.Amount 0 30).bind fun r10 =>
    some (!r10))).bind fun b11 =>
    bif b11 then (some false)
    else ((jT people_0 t12_0 t13_0 p_0 k0) (w64 (t14_0 + 1))))
    else ((bif !decide (x3.Kind = 1) then (some (!decide (x3.Kind = 2))) else (some false)).bind fun b12 =>
    (bif b12 then (some true) else ((fV x3.Id 0 99).bind fun r13 =>
    some (!r13))).bind fun b14 =>
    (bif b14 then (some true) else ((dE people_0 x3.Person).bind fun r15 =>
    some (!r15))).bind fun b16 =>
    (bif b16 then (some true) else ((fV x3.Amount 0 10000000).bind fun r17 =>
    some (!r17))).bind fun b18 =>
    bif b18 then (some false)
    else ((jT people_0 t12_0 t13_0 p_0 k0) (w64 (t14_0 + 1)))))
    else (sM p_0)

def sX (p_0 : aQ) : Option Bool :=
    (nF p_0).bind fun r2 =>
    jT r2 p_0.Items (p_0.Items.length : Int) p_0 BIG 0

def vC (a0 : aW) (a1 : List aG) : Option Int := fS a0 a1

def sK (p_0 : aQ) : Option Int :=
    (vC p_0.Tree p_0.Slips).bind fun r2 =>
    bif !decide (r2 = 0) then (some r2)
    else ((uR p_0).bind fun r3 =>
    bif !r3 then (some 100)
    else ((sY p_0).bind fun r4 =>
    bif !r4 then (some 101)
    else ((sX p_0).bind fun r5 =>
    bif !r5 then (some 102)
    else (some 0))))

def aHb (n_102 : Int) : Option (Int × Int) :=
    some (n_102, 0)

def nD (t44_2 : List Int) (t45_2 : Int) (p_2 : aQ) : Nat → Int → Int → Option (Int × Int)
  | 0, _, _ => none
  | k2 + 1, n_2, t46_2 =>
    bif decide (t46_2 < t45_2) then ((idx t44_2 t46_2).bind fun x6 =>
    bif decide (x6 = (-1)) then ((idx p_2.Prizes 0).bind fun x7 =>
    (nD t44_2 t45_2 p_2 k2) (w64 (n_2 - x7)) (w64 (t46_2 + 1)))
    else ((nD t44_2 t45_2 p_2 k2) n_2 (w64 (t46_2 + 1))))
    else (aHb n_2)

def xJ (n_100 : Int) (p_100 : aQ) : Option (Int × Int) :=
    nD p_100.Tree.Slots (p_100.Tree.Slots.length : Int) p_100 BIG n_100 0

def nC (t23_0 : Int) (p_0 : aQ) : Nat → Int → Int → Option (Int × Int)
  | 0, _, _ => none
  | k0 + 1, n_0, t24_0 =>
    bif decide (t24_0 < t23_0) then ((idx p_0.Prizes t24_0).bind fun x4 =>
    (chk (decide (0 ≤ (w64 ((w64 (p_0.Tree.Rounds - 1)) - t24_0))))).bind fun u5 =>
    (nC t23_0 p_0 k0) (w64 (n_0 + (w64 (x4 * 2 ^ (min (w64 ((w64 (p_0.Tree.Rounds - 1)) - t24_0)).toNat 64))))) (w64 (t24_0 + 1)))
    else (xJ n_0 p_0)

def zF (p_0 : aQ) : Option (Int × Int) :=
    (sK p_0).bind fun r2 =>
    bif !decide (r2 = 0) then (some (0, r2))
    else ((idx p_0.Prizes p_0.Tree.Rounds).bind fun x3 =>
    nC p_0.Tree.Rounds p_0 BIG x3 0)

def tF : Option Int :=
    some (-1)

def fL (s_0 : List cB) (f_0 : cB → Option Bool) (t7_0 : Int) : Nat → Int → Option Int
  | 0, _ => none
  | k0 + 1, t8_0 =>
    bif decide (t8_0 < t7_0) then ((idx s_0 t8_0).bind fun x1 =>
    (f_0 x1).bind fun r2 =>
    bif r2 then (some t8_0)
    else ((fL s_0 f_0 t7_0 k0) (w64 (t8_0 + 1))))
    else (tF)

def mL (s_0 : List cB) (f_1 : cB → Option Bool) : Option Int :=
    fL s_0 f_1 (s_0.length : Int) BIG 0

def uQ (t_0 : cB) (c_1 : Int) : Option Bool :=
    (bif decide (t_0.One = c_1) then (some true) else ((bif decide (t_0.Two = c_1) then (some (!decide (t_0.Two = (-1)))) else (some false)).bind fun b2 =>
    some b2)).bind fun b3 =>
    some b3

def zT (againQ : ((Option bG) × (List Int) × Int) → Prop) (d_100 : Option bG) (slots_100 : List Int) : Prop :=
    againQ (d_100, slots_100, 0)

def nR (againQ : ((Option bG) × (List Int) × Int) → Prop) (t20_0 : List Int) (t21_0 : Int) : Nat → (Option bG) → Int → (List Int) → Prop
  | 0, _, _, _ => False
  | k0 + 1, d_0, t22_0, slots_0 =>
    bif decide (t22_0 < t21_0) then (nb (idx t20_0 t22_0) fun x5 =>
    nb (gF x5 0 999) fun r6 =>
    bif !r6 then (againQ ((none : Option bG), ([] : List Int), 1))
    else (nb (d_0) fun x8 =>
    nb (iJ x8.players x5) fun r9 =>
    nb (app 8 slots_0 ([r9])) fun x10 =>
    (nR againQ t20_0 t21_0 k0) d_0 (w64 (t22_0 + 1)) x10))
    else (zT againQ d_0 slots_0)

def rV (t_0 : aW) (l_1 : List aG) (players_2 : List Int) (Q : ((Option bG) × (List Int) × Int) → Prop) : Prop :=
    oG t_0 l_1 fun r3 =>
    bif !decide (r3.2 = 0) then (Q ((none : Option bG), ([] : List Int), r3.2))
    else (nR Q players_2 (players_2.length : Int) BIG r3.1 0 ([] : List Int))

def uW (d_100 : bG) : Option Int :=
    some d_100.Tree.Rounds

def jW (d_0 : bG) (slot_0 : Int) (t12_0 : Int) : Nat → Int → Option Int
  | 0, _ => none
  | k0 + 1, t13_0 =>
    bif decide (t13_0 < t12_0) then ((pP t13_0 slot_0).bind fun r1 =>
    (bif !(eG r1 d_0.won) then (some true) else ((idx d_0.players slot_0).bind fun x2 =>
    some (!decide ((dC r1 0 d_0.won) = x2)))).bind fun b3 =>
    bif b3 then (some t13_0)
    else ((jW d_0 slot_0 t12_0 k0) (w64 (t13_0 + 1))))
    else (uW d_0)

def qJ (d_0 : bG) (slot_1 : Int) : Option Int :=
    jW d_0 slot_1 d_0.Tree.Rounds BIG 0

def uV (d_100 : bG) : Option Int :=
    some d_100.Tree.Rounds

def jV (d_0 : bG) (slot_0 : Int) (t12_0 : Int) : Nat → Int → Option Int
  | 0, _ => none
  | k0 + 1, t13_0 =>
    bif decide (t13_0 < t12_0) then ((pP t13_0 slot_0).bind fun r1 =>
    (bif eG r1 d_0.won then ((idx d_0.players slot_0).bind fun x2 =>
    some (!decide ((dC r1 0 d_0.won) = x2))) else (some false)).bind fun b3 =>
    bif b3 then (some t13_0)
    else ((jV d_0 slot_0 t12_0 k0) (w64 (t13_0 + 1))))
    else (uV d_0)

def qI (d_0 : bG) (slot_1 : Int) : Option Int :=
    jV d_0 slot_1 d_0.Tree.Rounds BIG 0

def rG (t_0 : aW) (l_1 : List aG) (player_2 : Int) (Q : (cA × Int) → Prop) : Prop :=
    rV t_0 l_1 ([player_2]) fun r3 =>
    bif !decide (r3.2.2 = 0) then (Q ((cA.mk 0 0), r3.2.2))
    else (nb (idx r3.2.1 0) fun x4 =>
    bif decide (x4 < 0) then (Q ((cA.mk 0 0), 3))
    else (nb (r3.1) fun x5 =>
    nb (idx r3.2.1 0) fun x6 =>
    nb (qJ x5 x6) fun r7 =>
    nb (idx r3.2.1 0) fun x8 =>
    nb (qI x5 x8) fun r9 =>
    Q ((cA.mk r7 r9), 0)))

def rF (prize_0 : Int) (c_1 : cB) (c_2 : Int) : Option Int :=
    bif decide (c_1.Two = (-1)) then (some prize_0)
    else (bif decide (c_1.One = c_2) then (some (w64 ((w64 (prize_0 + 1)).tdiv 2)))
    else (some (w64 (prize_0.tdiv 2))))

def vP : Option Int :=
    some (-1)

def kJ (player_0 : Int) (d_0 : aV) : Nat → Int → Option Int
  | 0, _ => none
  | k0 + 1, s_0 =>
    bif decide (s_0 < (d_0.Slots.length : Int)) then ((idx d_0.Slots s_0).bind fun x2 =>
    bif decide (x2 = player_0) then (some s_0)
    else ((kJ player_0 d_0 k0) (w64 (s_0 + 1))))
    else (vP)

def rK (d_0 : aV) (player_1 : Int) : Option Int :=
    kJ player_1 d_0 BIG 0

def rA (n_100 : Int) : Option Int :=
    some n_100

def jX (slot_0 : Int) (t_0 : aW) (d_0 : aV) : Nat → Int → Option Int
  | 0, _ => none
  | k0 + 1, n_0 =>
    (bif decide (n_0 < t_0.Rounds) then ((idx d_0.Must n_0).bind fun x3 =>
    (chk (decide (0 ≤ (IntKind.u64.wrap (w64 (n_0 + 1)))))).bind fun u4 =>
    (idx x3 (slot_0.fdiv (2 ^ (min (IntKind.u64.wrap (w64 (n_0 + 1))).toNat 64)))).bind fun x5 =>
    (idx d_0.Slots slot_0).bind fun x6 =>
    some (decide (x5 = x6))) else (some false)).bind fun b7 =>
    bif b7 then ((jX slot_0 t_0 d_0 k0) (w64 (n_0 + 1)))
    else (rA n_0)

def qL (t_0 : aW) (d_1 : aV) (slot_2 : Int) : Option Int :=
    jX slot_2 t_0 d_1 BIG 0

def rJ (n_100 : Int) : Option Int :=
    some n_100

def kI (slot_0 : Int) (t_0 : aW) (d_0 : aV) : Nat → Int → Option Int
  | 0, _ => none
  | k0 + 1, n_0 =>
    (bif decide (n_0 < t_0.Rounds) then ((idx d_0.Must n_0).bind fun x3 =>
    (chk (decide (0 ≤ (IntKind.u64.wrap (w64 (n_0 + 1)))))).bind fun u4 =>
    (idx x3 (slot_0.fdiv (2 ^ (min (IntKind.u64.wrap (w64 (n_0 + 1))).toNat 64)))).bind fun x5 =>
    (bif decide (x5 = (-2)) then (some true) else ((idx d_0.Must n_0).bind fun x6 =>
    (chk (decide (0 ≤ (IntKind.u64.wrap (w64 (n_0 + 1)))))).bind fun u7 =>
    (idx x6 (slot_0.fdiv (2 ^ (min (IntKind.u64.wrap (w64 (n_0 + 1))).toNat 64)))).bind fun x8 =>
    (idx d_0.Slots slot_0).bind fun x9 =>
    some (decide (x8 = x9)))).bind fun b10 =>
    some b10) else (some false)).bind fun b11 =>
    bif b11 then ((kI slot_0 t_0 d_0 k0) (w64 (n_0 + 1)))
    else (rJ n_0)

def rI (t_0 : aW) (d_1 : aV) (slot_2 : Int) : Option Int :=
    kI slot_2 t_0 d_1 BIG 0

def fY (t_0 : aW) (l_1 : List aG) (player_2 : Int) : Option (cA × Int) :=
    (fS t_0 l_1).bind fun r3 =>
    bif !decide (r3 = 0) then (some ((cA.mk 0 0), r3))
    else ((fA player_2 0 999).bind fun r4 =>
    bif !r4 then (some ((cA.mk 0 0), 1))
    else ((fQ t_0 l_1).bind fun r5 =>
    (rK r5.1 player_2).bind fun r7 =>
    bif decide (r7 < 0) then (some ((cA.mk 0 0), 3))
    else ((qL t_0 r5.1 r7).bind fun r8 =>
    (rI t_0 r5.1 r7).bind fun r9 =>
    some ((cA.mk r8 r9), 0))))

def sL (a0 : aW) (a1 : List aG) (a2 : Int) : Option (cA × Int) := fY a0 a1 a2

def uT (p_0 : aQ) (person_1 : Int) : Option (cA × Bool) :=
    (mL p_0.Teams (fun y4 => uQ y4 person_1)).bind fun r5 =>
    bif decide (r5 < 0) then (some ((cA.mk 0 0), false))
    else ((idx p_0.Teams r5).bind fun x6 =>
    (sL p_0.Tree p_0.Slips x6.Player).bind fun r8 =>
    bif !decide (r8.2 = 0) then (some ((cA.mk 0 0), true))
    else ((idx p_0.Prizes r8.1.Low).bind fun x10 =>
    (rF x10 x6 person_1).bind fun r11 =>
    (idx p_0.Prizes r8.1.High).bind fun x12 =>
    (rF x12 x6 person_1).bind fun r13 =>
    some ((cA.mk r11 r13), true)))

def xA (p_0 : aQ) (person_1 : Int) : Option (cA × Int) :=
    (sK p_0).bind fun r3 =>
    bif !decide (r3 = 0) then (some ((cA.mk 0 0), r3))
    else ((uT p_0 person_1).bind fun r4 =>
    bif !r4.2 then (some ((cA.mk 0 0), 1))
    else (some (r4.1, 0)))

def xL (paid_105 : Int) (num_105 : Int) (den_105 : Int) (o4_105 : aU) (b_105 : aU) : Option aU :=
    (chk (!decide (den_105 = 0))).bind fun u13 =>
    (chk (!decide (num_105 = 0))).bind fun u14 =>
    some (aU.mk b_105.Person b_105.Gross b_105.Tax b_105.Daily b_105.Fines b_105.Debt (w64 ((w64 (paid_105 * num_105)).tdiv den_105)) (w64 ((w64 ((w64 ((w64 ((w64 ((w64 (paid_105 * num_105)).tdiv den_105)) * den_105)) + num_105)) - 1)).tdiv num_105)) (w64 (paid_105 - (w64 ((w64 ((w64 ((w64 ((w64 ((w64 (paid_105 * num_105)).tdiv den_105)) * den_105)) + num_105)) - 1)).tdiv num_105)))))

def nE (person_5 : Int) (paid_5 : Int) (t104_5 : List cU) (t105_5 : Int) (o4_5 : aU) (b_5 : aU) : Nat → Int → Int → Int → Option aU
  | 0, _, _, _ => none
  | k5 + 1, num_5, den_5, t106_5 =>
    bif decide (t106_5 < t105_5) then ((idx t104_5 t106_5).bind fun x11 =>
    bif decide (x11.Person = person_5) then ((nE person_5 paid_5 t104_5 t105_5 o4_5 b_5 k5) x11.Num x11.Den (w64 (t106_5 + 1)))
    else ((nE person_5 paid_5 t104_5 t105_5 o4_5 b_5 k5) num_5 den_5 (w64 (t106_5 + 1))))
    else (xL paid_5 num_5 den_5 o4_5 b_5)

def uP (person_102 : Int) (p_102 : aQ) (o4_102 : aU) (b_102 : aU) : Option aU :=
    nE person_102 (max 0 (w64 ((w64 ((w64 (b_102.Gross + b_102.Daily)) - b_102.Tax)) - b_102.Fines))) p_102.Rates (p_102.Rates.length : Int) o4_102 (aU.mk b_102.Person b_102.Gross b_102.Tax b_102.Daily b_102.Fines (max 0 (w64 (-(w64 ((w64 ((w64 (b_102.Gross + b_102.Daily)) - b_102.Tax)) - b_102.Fines))))) b_102.Units b_102.Used b_102.Rest) BIG 1 1 0

def lO (person_2 : Int) (t55_2 : List aH) (t56_2 : Int) (p_2 : aQ) (o4_2 : aU) : Nat → Int → aU → Option aU
  | 0, _, _ => none
  | k2 + 1, t57_2, b_2 =>
    bif decide (t57_2 < t56_2) then ((idx t55_2 t57_2).bind fun x9 =>
    bif !decide (x9.Person = person_2) then ((lO person_2 t55_2 t56_2 p_2 o4_2 k2) (w64 (t57_2 + 1)) b_2)
    else (bif decide (x9.Kind = 2) then ((lO person_2 t55_2 t56_2 p_2 o4_2 k2) (w64 (t57_2 + 1)) (aU.mk b_2.Person b_2.Gross b_2.Tax (w64 (b_2.Daily + (w64 (x9.Amount * p_2.Daily)))) b_2.Fines b_2.Debt b_2.Units b_2.Used b_2.Rest))
    else ((lO person_2 t55_2 t56_2 p_2 o4_2 k2) (w64 (t57_2 + 1)) (aU.mk b_2.Person b_2.Gross b_2.Tax b_2.Daily (w64 (b_2.Fines + x9.Amount)) b_2.Debt b_2.Units b_2.Used b_2.Rest))))
    else (uP person_2 p_2 o4_2 b_2)

def xK (person_100 : Int) (p_100 : aQ) (o4_100 : aU) (b_100 : aU) : Option aU :=
    (pX p_100.Items).bind fun r8 =>
    lO person_100 r8.1 (r8.1.length : Int) p_100 o4_100 BIG 0 b_100

def lN (person_0 : Int) (t31_0 : List fG) (t32_0 : Int) (p_0 : aQ) (o4_0 : aU) : Nat → Int → aU → Option aU
  | 0, _, _ => none
  | k0 + 1, t33_0, b_0 =>
    bif decide (t33_0 < t32_0) then ((idx t31_0 t33_0).bind fun x6 =>
    bif decide (x6.Person = person_0) then ((lN person_0 t31_0 t32_0 p_0 o4_0 k0) (w64 (t33_0 + 1)) (aU.mk b_0.Person b_0.Gross (w64 ((w64 (b_0.Gross * x6.Mille)).tdiv 1000)) b_0.Daily b_0.Fines b_0.Debt b_0.Units b_0.Used b_0.Rest))
    else ((lN person_0 t31_0 t32_0 p_0 o4_0 k0) (w64 (t33_0 + 1)) b_0))
    else (xK person_0 p_0 o4_0 b_0)

def wQ (p_0 : aQ) (person_1 : Int) : Option aU :=
    (uT p_0 person_1).bind fun r3 =>
    lN person_1 p_0.Levies (p_0.Levies.length : Int) p_0 (aU.mk 0 0 0 0 0 0 0 0 0) BIG 0 (aU.mk person_1 r3.1.Low 0 0 0 0 0 0 0)

def zE (p_0 : aQ) (person_1 : Int) : Option (aU × Int) :=
    (xA p_0 person_1).bind fun r3 =>
    bif !decide (r3.2 = 0) then (some ((aU.mk 0 0 0 0 0 0 0 0 0), r3.2))
    else ((wQ p_0 person_1).bind fun r5 =>
    some (r5, 0))

def aFb (out_100 : List aU) : Option ((List aU) × Int) :=
    some (out_100, 0)

def nW (t14_0 : List Int) (t15_0 : Int) (p_0 : aQ) : Nat → Int → (List aU) → Option ((List aU) × Int)
  | 0, _, _ => none
  | k0 + 1, t16_0, out_0 =>
    bif decide (t16_0 < t15_0) then ((idx t14_0 t16_0).bind fun x5 =>
    (wQ p_0 x5).bind fun r6 =>
    (app 72 out_0 ([r6])).bind fun x7 =>
    (nW t14_0 t15_0 p_0 k0) (w64 (t16_0 + 1)) x7)
    else (aFb out_0)

def qC (p_0 : aQ) : Option ((List aU) × Int) :=
    (sK p_0).bind fun r2 =>
    bif !decide (r2 = 0) then (some (([] : List aU), r2))
    else ((nF p_0).bind fun r4 =>
    nW r4 (r4.length : Int) p_0 BIG 0 ([] : List aU))

def aFc (o2_100 : aU) (sum_100 : aU) : Option (aU × Int) :=
    some (sum_100, 0)

def nX (t19_0 : List aU) (t20_0 : Int) (o2_0 : aU) : Nat → Int → aU → Option (aU × Int)
  | 0, _, _ => none
  | k0 + 1, t21_0, sum_0 =>
    bif decide (t21_0 < t20_0) then ((idx t19_0 t21_0).bind fun x5 =>
    (nX t19_0 t20_0 o2_0 k0) (w64 (t21_0 + 1)) (aU.mk sum_0.Person (w64 (sum_0.Gross + x5.Gross)) (w64 (sum_0.Tax + x5.Tax)) (w64 (sum_0.Daily + x5.Daily)) (w64 (sum_0.Fines + x5.Fines)) (w64 (sum_0.Debt + x5.Debt)) (w64 (sum_0.Units + x5.Units)) (w64 (sum_0.Used + x5.Used)) (w64 (sum_0.Rest + x5.Rest))))
    else (aFc o2_0 sum_0)

def xC (p_0 : aQ) : Option (aU × Int) :=
    (qC p_0).bind fun r3 =>
    bif !decide (r3.2 = 0) then (some ((aU.mk 0 0 0 0 0 0 0 0 0), r3.2))
    else (nX r3.1 (r3.1.length : Int) (aU.mk 0 0 0 0 0 0 0 0 0) BIG 0 (aU.mk (-1) 0 0 0 0 0 0 0 0))

def nT : Option Bool :=
    (oH).bind fun r1 =>
    (zF r1).bind fun r3 =>
    (zE r1 22).bind fun r4 =>
    (xC r1).bind fun r6 =>
    (bif decide (r3.2 = 0) then (some (decide (r4.2 = 0))) else (some false)).bind fun b8 =>
    (bif b8 then (some (decide (r6.2 = 0))) else (some false)).bind fun b9 =>
    (bif b9 then (some (decide (r3.1 = 1501))) else (some false)).bind fun b10 =>
    (bif b10 then (some (decide (r4.1 = (aU.mk 22 50 0 0 0 0 16 48 2)))) else (some false)).bind fun b11 =>
    (bif b11 then (some (decide (r6.1.Debt = 60))) else (some false)).bind fun b12 =>
    some b12

def nU (t_0 : cB) (second_1 : Bool) (prize_2 : Int) : Option Int :=
    bif decide (t_0.Two = (-1)) then (some prize_2)
    else (bif second_1 then (some (w64 (prize_2.tdiv 2)))
    else (some (w64 ((w64 (prize_2 + 1)).tdiv 2))))

def rL (p_0 : aQ) : Option aQ :=
    (app 8 ([] : List Int) p_0.Tree.Slots).bind fun x4 =>
    (app 40 ([] : List aG) p_0.Slips).bind fun x5 =>
    (app 8 ([] : List Int) p_0.Prizes).bind fun x6 =>
    (app 24 ([] : List cB) p_0.Teams).bind fun x7 =>
    (app 16 ([] : List fG) p_0.Levies).bind fun x8 =>
    (app 24 ([] : List cU) p_0.Rates).bind fun x9 =>
    (app 32 ([] : List aH) p_0.Items).bind fun x10 =>
    some (aQ.mk (aW.mk p_0.Tree.Rounds x4) x5 x6 p_0.Daily x7 x8 x9 x10)

def qO (p_0 : aQ) (person_1 : Int) : Option cA :=
    (oS p_0 person_1).bind fun r3 =>
    (fY p_0.Tree p_0.Slips r3.1.Player).bind fun r5 =>
    bif !decide (r5.2 = 0) then (some (cA.mk 0 0))
    else ((idx p_0.Prizes r5.1.Low).bind fun x7 =>
    (nU r3.1 r3.2.1 x7).bind fun r8 =>
    (idx p_0.Prizes r5.1.High).bind fun x9 =>
    (nU r3.1 r3.2.1 x9).bind fun r10 =>
    some (cA.mk r8 r10))

def nM (again0 : Int → (List aH) → Option ((List aH))) (l_101 : List aH) (id_101 : Int) (out_101 : List aH) : Option ((List aH)) :=
    again0 (w64 (id_101 + 1)) out_101

def lG (again0 : Int → (List aH) → Option ((List aH))) (l_102 : List aH) (id_102 : Int) (out_102 : List aH) : Option ((List aH)) :=
    nM again0 l_102 id_102 out_102

def iS (again0 : Int → (List aH) → Option ((List aH))) (l_2 : List aH) (id_2 : Int) : Nat → Int → (List aH) → Option ((List aH))
  | 0, _, _ => none
  | k2 + 1, i_2, out_2 =>
    bif decide (i_2 < (l_2.length : Int)) then ((idx l_2 i_2).bind fun x2 =>
    bif decide (x2.Id = id_2) then ((idx l_2 i_2).bind fun x3 =>
    (app 32 out_2 ([x3])).bind fun x4 =>
    lG again0 l_2 id_2 x4)
    else ((iS again0 l_2 id_2 k2) (w64 (i_2 + 1)) out_2))
    else (lG again0 l_2 id_2 out_2)

def zS (out_100 : List aH) : Option ((List aH)) :=
    some out_100

def iR (l_0 : List aH) : Nat → Int → (List aH) → Option ((List aH))
  | 0, _, _ => none
  | k0 + 1, id_0, out_0 =>
    bif decide (id_0 ≤ 99) then (iS (iR l_0 k0) l_0 id_0 BIG 0 out_0)
    else (zS out_0)

def qP (l_0 : List aH) : Option ((List aH)) :=
    iR l_0 BIG 0 ([] : List aH)

def aAs (person_100 : Int) (o4_100 : cU) : Option cU :=
    some (cU.mk person_100 1 1)

def kL (person_0 : Int) (p_0 : aQ) : Nat → Int → cU → Option cU
  | 0, _, _ => none
  | k0 + 1, i_0, o4_0 =>
    bif decide (i_0 < (p_0.Rates.length : Int)) then ((idx p_0.Rates i_0).bind fun x3 =>
    bif decide (x3.Person = person_0) then ((idx p_0.Rates i_0).bind fun x4 =>
    some x4)
    else ((kL person_0 p_0 k0) (w64 (i_0 + 1)) o4_0))
    else (aAs person_0 o4_0)

def rO (p_0 : aQ) (person_1 : Int) : Option cU :=
    kL person_1 p_0 BIG 0 (cU.mk 0 0 0)

def oL (person_102 : Int) (p_102 : aQ) (o4_102 : aU) (b_102 : aU) : Option aU :=
    (rO p_102 person_102).bind fun r12 =>
    (chk (!decide (r12.Den = 0))).bind fun u14 =>
    (chk (!decide (r12.Num = 0))).bind fun u15 =>
    some (aU.mk b_102.Person b_102.Gross b_102.Tax b_102.Daily b_102.Fines (max 0 (w64 (-(w64 ((w64 ((w64 (b_102.Gross + b_102.Daily)) - b_102.Tax)) - b_102.Fines))))) (w64 ((w64 ((max 0 (w64 ((w64 ((w64 (b_102.Gross + b_102.Daily)) - b_102.Tax)) - b_102.Fines))) * r12.Num)).tdiv r12.Den)) (w64 ((w64 ((w64 ((w64 ((w64 ((w64 ((max 0 (w64 ((w64 ((w64 (b_102.Gross + b_102.Daily)) - b_102.Tax)) - b_102.Fines))) * r12.Num)).tdiv r12.Den)) * r12.Den)) + r12.Num)) - 1)).tdiv r12.Num)) (w64 ((max 0 (w64 ((w64 ((w64 (b_102.Gross + b_102.Daily)) - b_102.Tax)) - b_102.Fines))) - (w64 ((w64 ((w64 ((w64 ((w64 ((w64 ((max 0 (w64 ((w64 ((w64 (b_102.Gross + b_102.Daily)) - b_102.Tax)) - b_102.Fines))) * r12.Num)).tdiv r12.Den)) * r12.Den)) + r12.Num)) - 1)).tdiv r12.Num)))))

def gE (person_2 : Int) (allv_2 : List aH) (p_2 : aQ) (o4_2 : aU) : Nat → Int → aU → Option aU
  | 0, _, _ => none
  | k2 + 1, i_2, b_2 =>
    bif decide (i_2 < (allv_2.length : Int)) then ((idx allv_2 i_2).bind fun x8 =>
    bif !decide (x8.Person = person_2) then ((gE person_2 allv_2 p_2 o4_2 k2) (w64 (i_2 + 1)) b_2)
    else ((idx allv_2 i_2).bind fun x9 =>
    bif decide (x9.Kind = 1) then ((idx allv_2 i_2).bind fun x10 =>
    (gE person_2 allv_2 p_2 o4_2 k2) (w64 (i_2 + 1)) (aU.mk b_2.Person b_2.Gross b_2.Tax b_2.Daily (w64 (b_2.Fines + x10.Amount)) b_2.Debt b_2.Units b_2.Used b_2.Rest))
    else ((idx allv_2 i_2).bind fun x11 =>
    (gE person_2 allv_2 p_2 o4_2 k2) (w64 (i_2 + 1)) (aU.mk b_2.Person b_2.Gross b_2.Tax (w64 (b_2.Daily + (w64 (x11.Amount * p_2.Daily)))) b_2.Fines b_2.Debt b_2.Units b_2.Used b_2.Rest))))
    else (oL person_2 p_2 o4_2 b_2)

def rN (person_100 : Int) (p_100 : aQ) (o4_100 : aU) (b_100 : aU) : Option aU :=
    (qP p_100.Items).bind fun r7 =>
    gE person_100 r7 p_100 o4_100 BIG 0 b_100

def iC (person_0 : Int) (p_0 : aQ) (o4_0 : aU) : Nat → Int → aU → Option aU
  | 0, _, _ => none
  | k0 + 1, i_0, b_0 =>
    bif decide (i_0 < (p_0.Levies.length : Int)) then ((idx p_0.Levies i_0).bind fun x5 =>
    bif decide (x5.Person = person_0) then ((idx p_0.Levies i_0).bind fun x6 =>
    (iC person_0 p_0 o4_0 k0) (w64 (i_0 + 1)) (aU.mk b_0.Person b_0.Gross (w64 ((w64 (b_0.Gross * x6.Mille)).tdiv 1000)) b_0.Daily b_0.Fines b_0.Debt b_0.Units b_0.Used b_0.Rest))
    else ((iC person_0 p_0 o4_0 k0) (w64 (i_0 + 1)) b_0))
    else (rN person_0 p_0 o4_0 b_0)

def rM (p_0 : aQ) (person_1 : Int) : Option aU :=
    (qO p_0 person_1).bind fun r3 =>
    iC person_1 p_0 (aU.mk 0 0 0 0 0 0 0 0 0) BIG 0 (aU.mk person_1 r3.Low 0 0 0 0 0 0 0)

def zR (out_100 : List aU) : Option ((List aU)) :=
    some out_100

def iQ (p_0 : aQ) : Nat → Int → (List aU) → Option ((List aU))
  | 0, _, _ => none
  | k0 + 1, person_0, out_0 =>
    bif decide (person_0 ≤ 999) then ((gT p_0 person_0).bind fun r3 =>
    bif r3 then ((rM p_0 person_0).bind fun r4 =>
    (app 72 out_0 ([r4])).bind fun x5 =>
    (iQ p_0 k0) (w64 (person_0 + 1)) x5)
    else ((iQ p_0 k0) (w64 (person_0 + 1)) out_0))
    else (zR out_0)

def qN (p_0 : aQ) : Option ((List aU)) :=
    iQ p_0 BIG 0 ([] : List aU)

def rD : Option Int :=
    some (-1)

def eD (s_0 : List aK) (f_0 : aK → Option Bool) (t7_0 : Int) : Nat → Int → Option Int
  | 0, _ => none
  | k0 + 1, t8_0 =>
    bif decide (t8_0 < t7_0) then ((idx s_0 t8_0).bind fun x1 =>
    (f_0 x1).bind fun r2 =>
    bif r2 then (some t8_0)
    else ((eD s_0 f_0 t7_0 k0) (w64 (t8_0 + 1))))
    else (rD)

def kQ (s_0 : List aK) (f_1 : aK → Option Bool) : Option Int :=
    eD s_0 f_1 (s_0.length : Int) BIG 0

def gZ (s_0 : List aK) (f_1 : aK → Option Bool) : Option Bool :=
    (kQ s_0 f_1).bind fun r1 =>
    some (decide (0 ≤ r1))

def xB (x_0 : aK) (c_1 : List Int) : Option Bool :=
    (dE c_1 x_0.Person).bind fun r2 =>
    (bif !r2 then (some true) else ((fV x_0.Units 0 1000000000).bind fun r3 =>
    some (!r3))).bind fun b4 =>
    some b4

def qW (again0 : Int → (List aK) → (List aK) → Option ((List aK) × (List aK) × Int)) (before_101 : List aK) (t34_101 : List aU) (t35_101 : Int) (t36_101 : Int) (pay_101 : List aK) (over_101 : List aK) : Option ((List aK) × (List aK) × Int) :=
    again0 (w64 (t36_101 + 1)) pay_101 over_101

def vY (again0 : Int → (List aK) → (List aK) → Option ((List aK) × (List aK) × Int)) (before_102 : List aK) (left_102 : Int) (t34_102 : List aU) (t35_102 : Int) (t36_102 : Int) (pay_102 : List aK) (over_102 : List aK) (b_102 : aU) : Option ((List aK) × (List aK) × Int) :=
    bif decide (0 < left_102) then ((app 16 pay_102 ([(aK.mk b_102.Person left_102)])).bind fun x18 =>
    qW again0 before_102 t34_102 t35_102 t36_102 x18 over_102)
    else (bif decide (left_102 < 0) then ((app 16 over_102 ([(aK.mk b_102.Person (w64 (-left_102)))])).bind fun x20 =>
    qW again0 before_102 t34_102 t35_102 t36_102 pay_102 x20)
    else (qW again0 before_102 t34_102 t35_102 t36_102 pay_102 over_102))

def oP (again0 : Int → (List aK) → (List aK) → Option ((List aK) × (List aK) × Int)) (before_2 : List aK) (t34_2 : List aU) (t35_2 : Int) (t36_2 : Int) (t42_2 : List aK) (t43_2 : Int) (pay_2 : List aK) (over_2 : List aK) (b_2 : aU) : Nat → Int → Int → Option ((List aK) × (List aK) × Int)
  | 0, _, _ => none
  | k2 + 1, left_2, t44_2 =>
    bif decide (t44_2 < t43_2) then ((idx t42_2 t44_2).bind fun x16 =>
    bif decide (x16.Person = b_2.Person) then ((oP again0 before_2 t34_2 t35_2 t36_2 t42_2 t43_2 pay_2 over_2 b_2 k2) (w64 (left_2 - x16.Units)) (w64 (t44_2 + 1)))
    else ((oP again0 before_2 t34_2 t35_2 t36_2 t42_2 t43_2 pay_2 over_2 b_2 k2) left_2 (w64 (t44_2 + 1))))
    else (vY again0 before_2 left_2 t34_2 t35_2 t36_2 pay_2 over_2 b_2)

def aIz (pay_100 : List aK) (over_100 : List aK) : Option ((List aK) × (List aK) × Int) :=
    some (pay_100, over_100, 0)

def lL (before_0 : List aK) (t34_0 : List aU) (t35_0 : Int) : Nat → Int → (List aK) → (List aK) → Option ((List aK) × (List aK) × Int)
  | 0, _, _, _ => none
  | k0 + 1, t36_0, pay_0, over_0 =>
    bif decide (t36_0 < t35_0) then ((idx t34_0 t36_0).bind fun x14 =>
    oP (lL before_0 t34_0 t35_0 k0) before_0 t34_0 t35_0 t36_0 before_0 (before_0.length : Int) pay_0 over_0 x14 BIG x14.Units 0)
    else (aIz pay_0 over_0)

def qD (p_0 : aQ) (before_1 : List aK) : Option ((List aK) × (List aK) × Int) :=
    (qC p_0).bind fun r4 =>
    bif !decide (r4.2 = 0) then (some (([] : List aK), ([] : List aK), r4.2))
    else ((nF p_0).bind fun r7 =>
    (bif decide (200 < (before_1.length : Int)) then (some true) else ((gZ before_1 (fun y9 => xB y9 r7)).bind fun r10 =>
    some r10)).bind fun b11 =>
    bif b11 then (some (([] : List aK), ([] : List aK), 103))
    else (lL before_1 r4.1 (r4.1.length : Int) BIG 0 ([] : List aK) ([] : List aK)))

def iT (again2 : Int → (List aK) → (List aK) → Option ((List aK) × (List aK) × Int)) (before_103 : List aK) (allv_103 : List aU) (i_103 : Int) (pay_103 : List aK) (over_103 : List aK) : Option ((List aK) × (List aK) × Int) :=
    again2 (w64 (i_103 + 1)) pay_103 over_103

def pI (again2 : Int → (List aK) → (List aK) → Option ((List aK) × (List aK) × Int)) (before_104 : List aK) (allv_104 : List aU) (i_104 : Int) (left_104 : Int) (pay_104 : List aK) (over_104 : List aK) : Option ((List aK) × (List aK) × Int) :=
    bif decide (0 < left_104) then ((idx allv_104 i_104).bind fun x21 =>
    (app 16 pay_104 ([(aK.mk x21.Person left_104)])).bind fun x22 =>
    bif decide (left_104 < 0) then ((idx allv_104 i_104).bind fun x24 =>
    (app 16 over_104 ([(aK.mk x24.Person (w64 (-left_104)))])).bind fun x25 =>
    iT again2 before_104 allv_104 i_104 x22 x25)
    else (iT again2 before_104 allv_104 i_104 x22 over_104))
    else (bif decide (left_104 < 0) then ((idx allv_104 i_104).bind fun x27 =>
    (app 16 over_104 ([(aK.mk x27.Person (w64 (-left_104)))])).bind fun x28 =>
    iT again2 before_104 allv_104 i_104 pay_104 x28)
    else (iT again2 before_104 allv_104 i_104 pay_104 over_104))

def jR (again2 : Int → (List aK) → (List aK) → Option ((List aK) × (List aK) × Int)) (before_4 : List aK) (allv_4 : List aU) (i_4 : Int) (pay_4 : List aK) (over_4 : List aK) : Nat → Int → Int → Option ((List aK) × (List aK) × Int)
  | 0, _, _ => none
  | k4 + 1, left_4, k_4 =>
    bif decide (k_4 < (before_4.length : Int)) then ((idx before_4 k_4).bind fun x18 =>
    (idx allv_4 i_4).bind fun x19 =>
    bif decide (x18.Person = x19.Person) then ((idx before_4 k_4).bind fun x20 =>
    (jR again2 before_4 allv_4 i_4 pay_4 over_4 k4) (w64 (left_4 - x20.Units)) (w64 (k_4 + 1)))
    else ((jR again2 before_4 allv_4 i_4 pay_4 over_4 k4) left_4 (w64 (k_4 + 1))))
    else (pI again2 before_4 allv_4 i_4 left_4 pay_4 over_4)

def aBo (pay_102 : List aK) (over_102 : List aK) : Option ((List aK) × (List aK) × Int) :=
    some (pay_102, over_102, 0)

def gY (before_2 : List aK) (allv_2 : List aU) : Nat → Int → (List aK) → (List aK) → Option ((List aK) × (List aK) × Int)
  | 0, _, _, _ => none
  | k2 + 1, i_2, pay_2, over_2 =>
    bif decide (i_2 < (allv_2.length : Int)) then ((idx allv_2 i_2).bind fun x17 =>
    jR (gY before_2 allv_2 k2) before_2 allv_2 i_2 pay_2 over_2 BIG x17.Units 0)
    else (aBo pay_2 over_2)

def pH (before_100 : List aK) (p_100 : aQ) (pay_100 : List aK) (over_100 : List aK) : Option ((List aK) × (List aK) × Int) :=
    (qN p_100).bind fun r16 =>
    gY before_100 r16 BIG 0 pay_100 over_100

def gX (before_0 : List aK) (p_0 : aQ) (pay_0 : List aK) (over_0 : List aK) : Nat → Int → Option ((List aK) × (List aK) × Int)
  | 0, _ => none
  | k0 + 1, i_0 =>
    bif decide (i_0 < (before_0.length : Int)) then ((idx before_0 i_0).bind fun x9 =>
    (gT p_0 x9.Person).bind fun r10 =>
    (bif !r10 then (some true) else ((idx before_0 i_0).bind fun x11 =>
    (dN x11.Units 0 1000000000).bind fun r12 =>
    some (!r12))).bind fun b13 =>
    bif b13 then (some (([] : List aK), ([] : List aK), 103))
    else ((gX before_0 p_0 pay_0 over_0 k0) (w64 (i_0 + 1))))
    else (pH before_0 p_0 pay_0 over_0)

def jO (p_0 : aQ) (before_1 : List aK) : Option ((List aK) × (List aK) × Int) :=
    (qM p_0).bind fun r4 =>
    bif !decide (r4 = 0) then (some (([] : List aK), ([] : List aK), r4))
    else (bif decide (200 < (before_1.length : Int)) then (some (([] : List aK), ([] : List aK), 103))
    else (gX before_1 p_0 ([] : List aK) ([] : List aK) BIG 0))

def wW : Option Bool :=
    some true

def iG (a_0 : List aK) (b_0 : List aK) : Nat → Int → Option Bool
  | 0, _ => none
  | k0 + 1, i_0 =>
    bif decide (i_0 < (a_0.length : Int)) then ((idx a_0 i_0).bind fun x1 =>
    (idx b_0 i_0).bind fun x2 =>
    bif !decide (x1 = x2) then (some false)
    else ((iG a_0 b_0 k0) (w64 (i_0 + 1))))
    else (wW)

def lD (a_0 : List aK) (b_1 : List aK) : Option Bool :=
    bif !decide ((a_0.length : Int) = (b_1.length : Int)) then (some false)
    else (iG a_0 b_1 BIG 0)

def pQ (p_0 : aQ) (before_1 : List aK) : Option Bool :=
    (nS p_0).bind fun r2 =>
    (bif r2 then (some true) else (some (decide (250 < (before_1.length : Int))))).bind fun b3 =>
    bif b3 then ((nT).bind fun r4 =>
    some r4)
    else ((rL p_0).bind fun r5 =>
    (app 16 ([] : List aK) before_1).bind fun x6 =>
    (qD r5 x6).bind fun r7 =>
    (jO p_0 before_1).bind fun r10 =>
    (lD r7.1 r10.1).bind fun r11 =>
    (bif r11 then ((lD r7.2.1 r10.2.1).bind fun r12 =>
    some r12) else (some false)).bind fun b13 =>
    (bif b13 then (some (decide (r7.2.2 = r10.2.2))) else (some false)).bind fun b14 =>
    (bif b14 then ((nT).bind fun r15 =>
    some r15) else (some false)).bind fun b16 =>
    some b16)

end Go.Am
