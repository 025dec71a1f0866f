/- Shallow functions, printed by program. -/
import Derived.Test.YtoflekecpkjghaaGreatAmFull
import Derived.Test.YtoflekecpkjghaaGreatAmNd
import Derived.Test.YtoflekecpkjghaaGreatAmSort
namespace Go.Am

def qQ (x : List Int) : List D := [.sl 1 (x.map aK)]

structure aQ where
  Rounds : Int
  Slots : List Int
  deriving DecidableEq, Inhabited
def bI (x : aQ) : List D := [.lit (.int .i64 x.Rounds), .sl 1 (x.Slots.map aK)]

structure aF where
  Kind : Int
  Round : Int
  Place : Int
  Player : Int
  Old : Int
  deriving DecidableEq, Inhabited
def aJ (x : aF) : List D := [.lit (.int .i64 x.Kind), .lit (.int .i64 x.Round), .lit (.int .i64 x.Place), .lit (.int .i64 x.Player), .lit (.int .i64 x.Old)]

def lL (x : List aF) : List D := [.sl 5 (x.map aJ)]

structure bE where
  Player : Int
  One : Int
  Two : Int
  deriving DecidableEq, Inhabited
def aW (x : bE) : List D := [.lit (.int .i64 x.Player), .lit (.int .i64 x.One), .lit (.int .i64 x.Two)]

def aPc (x : List bE) : List D := [.sl 3 (x.map aW)]

structure cA where
  Person : Int
  Mille : Int
  deriving DecidableEq, Inhabited
def bF (x : cA) : List D := [.lit (.int .i64 x.Person), .lit (.int .i64 x.Mille)]

def aPa (x : List cA) : List D := [.sl 2 (x.map bF)]

structure bT where
  Person : Int
  Num : Int
  Den : Int
  deriving DecidableEq, Inhabited
def bG (x : bT) : List D := [.lit (.int .i64 x.Person), .lit (.int .i64 x.Num), .lit (.int .i64 x.Den)]

def aPb (x : List bT) : List D := [.sl 3 (x.map bG)]

structure aG where
  Id : Int
  Kind : Int
  Person : Int
  Amount : Int
  deriving DecidableEq, Inhabited
def aD (x : aG) : List D := [.lit (.int .i64 x.Id), .lit (.int .i64 x.Kind), .lit (.int .i64 x.Person), .lit (.int .i64 x.Amount)]

def lK (x : List aG) : List D := [.sl 4 (x.map aD)]

structure aM where
  Tree : aQ
  Slips : List aF
  Prizes : List Int
  Daily : Int
  Teams : List bE
  Levies : List cA
  Rates : List bT
  Items : List aG
  deriving DecidableEq, Inhabited
def aL (x : aM) : List D := [.lit (.int .i64 x.Tree.Rounds), .sl 1 (x.Tree.Slots.map aK), .sl 5 (x.Slips.map aJ), .sl 1 (x.Prizes.map aK), .lit (.int .i64 x.Daily), .sl 3 (x.Teams.map aW), .sl 2 (x.Levies.map bF), .sl 3 (x.Rates.map bG), .sl 4 (x.Items.map aD)]

structure aT where
  Slots : List Int
  Must : List (List Int)
  deriving DecidableEq, Inhabited
def cP (x : aT) : List D := [.sl 1 (x.Slots.map aK), .sl 1 (x.Must.map qQ)]

structure aH where
  round : Int
  place : Int
  deriving DecidableEq, Inhabited
def aS (x : aH) : List D := [.lit (.int .i64 x.round), .lit (.int .i64 x.place)]

structure bH where
  Tree : aQ
  players : List Int
  won : List (aH × Int)
  deriving DecidableEq, Inhabited
def bW (x : bH) : List D := [.lit (.int .i64 x.Tree.Rounds), .sl 1 (x.Tree.Slots.map aK), .sl 1 (x.players.map aK), .mp false (x.won.map fun p : aH × Int => ((fun a : aH => Value.agg ((aS a).map cB).toArray) p.1, aK p.2))]

structure cN where
  Low : Int
  High : Int
  deriving DecidableEq, Inhabited
def cG (x : cN) : List D := [.lit (.int .i64 x.Low), .lit (.int .i64 x.High)]

structure bC where
  Person : Int
  Gross : Int
  Tax : Int
  Daily : Int
  Fines : Int
  Debt : Int
  Units : Int
  Used : Int
  Rest : Int
  deriving DecidableEq, Inhabited
def aZ (x : bC) : List D := [.lit (.int .i64 x.Person), .lit (.int .i64 x.Gross), .lit (.int .i64 x.Tax), .lit (.int .i64 x.Daily), .lit (.int .i64 x.Fines), .lit (.int .i64 x.Debt), .lit (.int .i64 x.Units), .lit (.int .i64 x.Used), .lit (.int .i64 x.Rest)]

def aOp (x : aQ) : Prop := okI x.Rounds ∧ (okL okI) x.Slots

def aIw (x : aF) : Prop := okI x.Kind ∧ okI x.Round ∧ okI x.Place ∧ okI x.Player ∧ okI x.Old

def aIx (x : bE) : Prop := okI x.Player ∧ okI x.One ∧ okI x.Two

def aIu (x : cA) : Prop := okI x.Person ∧ okI x.Mille

def aIv (x : bT) : Prop := okI x.Person ∧ okI x.Num ∧ okI x.Den

def aIt (x : aG) : Prop := okI x.Id ∧ okI x.Kind ∧ okI x.Person ∧ okI x.Amount

def aMt (x : aM) : Prop := aOp x.Tree ∧ (okL aIw) x.Slips ∧ (okL okI) x.Prizes ∧ okI x.Daily ∧ (okL aIx) x.Teams ∧ (okL aIu) x.Levies ∧ (okL aIv) x.Rates ∧ (okL aIt) x.Items

def nT (p_0 : aM) : Option Bool :=
    (bif decide (8 < (p_0.Tree.Slots.length : Int)) then (some true) else (some (decide (20 < (p_0.Slips.length : Int))))).bind fun b2 =>
    (bif b2 then (some true) else (some (decide (20 < (p_0.Prizes.length : Int))))).bind fun b3 =>
    (bif b3 then (some true) else (some (decide (40 < (p_0.Teams.length : Int))))).bind fun b4 =>
    (bif b4 then (some true) else (some (decide (40 < (p_0.Levies.length : Int))))).bind fun b5 =>
    (bif b5 then (some true) else (some (decide (40 < (p_0.Rates.length : Int))))).bind fun b6 =>
    (bif b6 then (some true) else (some (decide (60 < (p_0.Items.length : Int))))).bind fun b7 =>
    some b7

def fA (n_0 : Int) (low_1 : Int) (high_2 : Int) : Option Bool :=
    (bif decide (low_1 ≤ n_0) then (some (decide (n_0 ≤ high_2))) else (some false)).bind fun b1 =>
    some b1

def tS (again0 : Int → Option Bool) (i_101 : Int) (t_101 : aQ) : Option Bool :=
    again0 (w64 (i_101 + 1))

def tT (again0 : Int → Option Bool) (i_102 : Int) (t_102 : aQ) : Option Bool :=
    tS again0 i_102 t_102

def iG (again0 : Int → Option Bool) (i_2 : Int) (t_2 : aQ) : Nat → Int → Option Bool
  | 0, _ => none
  | k2 + 1, k_2 =>
    bif decide (k_2 < i_2) then ((idx t_2.Slots k_2).bind fun x12 =>
    (idx t_2.Slots i_2).bind fun x13 =>
    (bif decide (x12 = x13) then ((idx t_2.Slots i_2).bind fun x14 =>
    some (!decide (x14 = (-1)))) else (some false)).bind fun b15 =>
    bif b15 then (some false)
    else ((iG again0 i_2 t_2 k2) (w64 (k_2 + 1))))
    else (tT again0 i_2 t_2)

def tR : Option Bool :=
    some true

def iF (t_0 : aQ) : Nat → Int → Option Bool
  | 0, _ => none
  | k0 + 1, i_0 =>
    bif decide (i_0 < (t_0.Slots.length : Int)) then ((idx t_0.Slots i_0).bind fun x5 =>
    (fA x5 (-1) 999).bind fun r6 =>
    (bif !r6 then (some true) else ((bif decide ((i_0.tmod 2) = 1) then ((idx t_0.Slots i_0).bind fun x7 =>
    some (decide (x7 = (-1)))) else (some false)).bind fun b8 =>
    (bif b8 then ((idx t_0.Slots (w64 (i_0 - 1))).bind fun x9 =>
    some (decide (x9 = (-1)))) else (some false)).bind fun b10 =>
    some b10)).bind fun b11 =>
    bif b11 then (some false)
    else (iG (iF t_0 k0) i_0 t_0 BIG 0))
    else (tR)

def mZ (t_0 : aQ) : Option Bool :=
    (fA t_0.Rounds 1 5).bind fun r2 =>
    (bif !r2 then (some true) else ((chk (decide (0 ≤ (IntKind.u64.wrap t_0.Rounds)))).bind fun u3 =>
    some (!decide ((t_0.Slots.length : Int) = (w64 (1 * 2 ^ (min (IntKind.u64.wrap t_0.Rounds).toNat 64))))))).bind fun b4 =>
    bif b4 then (some false)
    else (iF t_0 BIG 0)

def nA (t_0 : aQ) (round_1 : Int) : Option Int :=
    (chk (decide (0 ≤ (IntKind.u64.wrap (w64 ((w64 (t_0.Rounds - 1)) - round_1)))))).bind fun u2 =>
    some (w64 (1 * 2 ^ (min (IntKind.u64.wrap (w64 ((w64 (t_0.Rounds - 1)) - round_1))).toNat 64)))

def oM (t_0 : aQ) (round_1 : Int) (place_2 : Int) : Option Bool :=
    (fA round_1 0 (w64 (t_0.Rounds - 1))).bind fun r2 =>
    (bif r2 then ((nA t_0 round_1).bind fun r3 =>
    (fA place_2 0 (w64 (r3 - 1))).bind fun r4 =>
    some r4) else (some false)).bind fun b5 =>
    some b5

def pP (t_0 : aQ) (x_1 : aF) : Option Bool :=
    (fA x_1.Player 0 999).bind fun r3 =>
    bif !r3 then (some false)
    else (bif decide (x_1.Kind = 5) then ((bif decide (x_1.Round = 0) then ((fA x_1.Place 0 (w64 ((t_0.Slots.length : Int) - 1))).bind fun r4 =>
    some r4) else (some false)).bind fun b5 =>
    (bif b5 then ((fA x_1.Old 0 999).bind fun r6 =>
    some r6) else (some false)).bind fun b7 =>
    some b7)
    else ((fA x_1.Kind 1 4).bind fun r8 =>
    (bif !r8 then (some true) else ((oM t_0 x_1.Round x_1.Place).bind fun r9 =>
    some (!r9))).bind fun b10 =>
    (bif b10 then (some true) else (some (!decide (x_1.Old = 0)))).bind fun b11 =>
    bif b11 then (some false)
    else ((bif decide (0 < x_1.Round) then (some true) else ((idx t_0.Slots (w64 (2 * x_1.Place))).bind fun x12 =>
    (bif !decide (x12 = (-1)) then ((idx t_0.Slots (w64 ((w64 (2 * x_1.Place)) + 1))).bind fun x13 =>
    some (!decide (x13 = (-1)))) else (some false)).bind fun b14 =>
    some b14)).bind fun b15 =>
    some b15)))

def mF (again0 : Int → (List aF) → Option ((List aF))) (l_101 : List aF) (i_101 : Int) (out_101 : List aF) : Option ((List aF)) :=
    again0 (w64 (i_101 + 1)) out_101

def oP (again0 : Int → (List aF) → Option ((List aF))) (l_102 : List aF) (i_102 : Int) (twin_102 : Bool) (out_102 : List aF) : Option ((List aF)) :=
    bif !twin_102 then ((idx l_102 i_102).bind fun x5 =>
    (app 40 out_102 ([x5])).bind fun x6 =>
    mF again0 l_102 i_102 x6)
    else (mF again0 l_102 i_102 out_102)

def jB (again0 : Int → (List aF) → Option ((List aF))) (l_2 : List aF) (i_2 : Int) (out_2 : List aF) : Nat → Bool → Int → Option ((List aF))
  | 0, _, _ => none
  | k2 + 1, twin_2, k_2 =>
    bif decide (k_2 < (out_2.length : Int)) then ((bif twin_2 then (some true) else ((idx out_2 k_2).bind fun x2 =>
    (idx l_2 i_2).bind fun x3 =>
    some (decide (x2 = x3)))).bind fun b4 =>
    (jB again0 l_2 i_2 out_2 k2) b4 (w64 (k_2 + 1)))
    else (oP again0 l_2 i_2 twin_2 out_2)

def vH (out_100 : List aF) : Option ((List aF)) :=
    some out_100

def fE (l_0 : List aF) : Nat → Int → (List aF) → Option ((List aF))
  | 0, _, _ => none
  | k0 + 1, i_0, out_0 =>
    bif decide (i_0 < (l_0.length : Int)) then (jB (fE l_0 k0) l_0 i_0 out_0 BIG false 0)
    else (vH out_0)

def oX (l_0 : List aF) : Option ((List aF)) :=
    fE l_0 BIG 0 ([] : List aF)

def xG : Option Bool :=
    some false

def lR (l_0 : List Int) (n_0 : Int) : Nat → Int → Option Bool
  | 0, _ => none
  | k0 + 1, i_0 =>
    bif decide (i_0 < (l_0.length : Int)) then ((idx l_0 i_0).bind fun x1 =>
    bif decide (x1 = n_0) then (some true)
    else ((lR l_0 n_0 k0) (w64 (i_0 + 1))))
    else (xG)

def uC (l_0 : List Int) (n_1 : Int) : Option Bool :=
    lR l_0 n_1 BIG 0

def kE (again0 : Int → Int → (List Int) → (List Int) → Option ((List Int) × Bool)) (again2 : Int → Int → Bool → (List Int) → Option ((List Int) × Bool)) (allv_103 : List aF) (used_103 : Int) (i_103 : Int) (now_103 : Int) (again_103 : Bool) (t_103 : aQ) (out_103 : List Int) (o18_103 : List Int) : Option ((List Int) × Bool) :=
    again2 used_103 now_103 again_103 o18_103

def mB (again0 : Int → Int → (List Int) → (List Int) → Option ((List Int) × Bool)) (again2 : Int → Int → Bool → (List Int) → Option ((List Int) × Bool)) (allv_104 : List aF) (used_104 : Int) (i_104 : Int) (now_104 : Int) (again_104 : Bool) (t_104 : aQ) (out_104 : List Int) (nextv_104 : List Int) (o18_104 : List Int) : Option ((List Int) × Bool) :=
    (bif decide (1 < (nextv_104.length : Int)) then (some true) else ((bif decide ((nextv_104.length : Int) = 1) then ((idx nextv_104 0).bind fun x17 =>
    (uC o18_104 x17).bind fun r18 =>
    some r18) else (some false)).bind fun b19 =>
    some b19)).bind fun b20 =>
    bif b20 then (some (([] : List Int), false))
    else (bif decide ((nextv_104.length : Int) = 1) then ((idx nextv_104 0).bind fun x21 =>
    (app 8 o18_104 ([x21])).bind fun x22 =>
    kE again0 again2 allv_104 (w64 (used_104 + 1)) i_104 x21 true t_104 out_104 x22)
    else (kE again0 again2 allv_104 used_104 i_104 now_104 again_104 t_104 out_104 o18_104))

def fU (again0 : Int → Int → (List Int) → (List Int) → Option ((List Int) × Bool)) (again2 : Int → Int → Bool → (List Int) → Option ((List Int) × Bool)) (allv_4 : List aF) (used_4 : Int) (i_4 : Int) (now_4 : Int) (again_4 : Bool) (t_4 : aQ) (out_4 : List Int) (o18_4 : List Int) : Nat → Int → (List Int) → Option ((List Int) × Bool)
  | 0, _, _ => none
  | k4 + 1, k_4, nextv_4 =>
    bif decide (k_4 < (allv_4.length : Int)) then ((idx allv_4 k_4).bind fun x9 =>
    (bif decide (x9.Kind = 5) then ((idx allv_4 k_4).bind fun x10 =>
    some (decide (x10.Place = i_4))) else (some false)).bind fun b11 =>
    (bif b11 then ((idx allv_4 k_4).bind fun x12 =>
    some (decide (x12.Old = now_4))) else (some false)).bind fun b13 =>
    bif b13 then ((idx allv_4 k_4).bind fun x14 =>
    (app 8 nextv_4 ([x14.Player])).bind fun x15 =>
    (fU again0 again2 allv_4 used_4 i_4 now_4 again_4 t_4 out_4 o18_4 k4) (w64 (k_4 + 1)) x15)
    else ((fU again0 again2 allv_4 used_4 i_4 now_4 again_4 t_4 out_4 o18_4 k4) (w64 (k_4 + 1)) nextv_4))
    else (mB again0 again2 allv_4 used_4 i_4 now_4 again_4 t_4 out_4 nextv_4 o18_4)

def sR (again0 : Int → Int → (List Int) → (List Int) → Option ((List Int) × Bool)) (allv_101 : List aF) (used_101 : Int) (i_101 : Int) (t_101 : aQ) (out_101 : List Int) (o18_101 : List Int) : Option ((List Int) × Bool) :=
    again0 used_101 (w64 (i_101 + 1)) out_101 o18_101

def oW (again0 : Int → Int → (List Int) → (List Int) → Option ((List Int) × Bool)) (allv_102 : List aF) (used_102 : Int) (i_102 : Int) (now_102 : Int) (t_102 : aQ) (out_102 : List Int) (o18_102 : List Int) : Option ((List Int) × Bool) :=
    (app 8 out_102 ([now_102])).bind fun x24 =>
    sR again0 allv_102 used_102 i_102 t_102 x24 o18_102

def hZ (again0 : Int → Int → (List Int) → (List Int) → Option ((List Int) × Bool)) (allv_2 : List aF) (i_2 : Int) (t_2 : aQ) (out_2 : List Int) : Nat → Int → Int → Bool → (List Int) → Option ((List Int) × Bool)
  | 0, _, _, _, _ => none
  | k2 + 1, used_2, now_2, again_2, o18_2 =>
    bif again_2 then (fU again0 (hZ again0 allv_2 i_2 t_2 out_2 k2) allv_2 used_2 i_2 now_2 false t_2 out_2 o18_2 BIG 0 ([] : List Int))
    else (oW again0 allv_2 used_2 i_2 now_2 t_2 out_2 o18_2)

def sS (used_106 : Int) (out_106 : List Int) : Option ((List Int) × Bool) :=
    some (out_106, decide (used_106 = 0))

def fV (allv_6 : List aF) (out_6 : List Int) : Nat → Int → Int → Option ((List Int) × Bool)
  | 0, _, _ => none
  | k6 + 1, used_6, k_6 =>
    bif decide (k_6 < (allv_6.length : Int)) then ((idx allv_6 k_6).bind fun x26 =>
    bif decide (x26.Kind = 5) then ((fV allv_6 out_6 k6) (w64 (used_6 - 1)) (w64 (k_6 + 1)))
    else ((fV allv_6 out_6 k6) used_6 (w64 (k_6 + 1))))
    else (sS used_6 out_6)

def sQ (allv_100 : List aF) (used_100 : Int) (out_100 : List Int) : Option ((List Int) × Bool) :=
    fV allv_100 out_100 BIG used_100 0

def eR (allv_0 : List aF) (t_0 : aQ) : Nat → Int → Int → (List Int) → (List Int) → Option ((List Int) × Bool)
  | 0, _, _, _, _ => none
  | k0 + 1, used_0, i_0, out_0, o18_0 =>
    bif decide (i_0 < (t_0.Slots.length : Int)) then ((idx t_0.Slots i_0).bind fun x7 =>
    hZ (eR allv_0 t_0 k0) allv_0 i_0 t_0 out_0 BIG used_0 x7 true o18_0)
    else (sQ allv_0 used_0 out_0)

def oN (t_0 : aQ) (l_1 : List aF) : Option ((List Int) × Bool) :=
    (oX l_1).bind fun r2 =>
    (app 8 ([] : List Int) t_0.Slots).bind fun x4 =>
    eR r2 t_0 BIG 0 0 ([] : List Int) x4

def vE (again0 : Int → (List (List Int)) → (List Int) → Option (aT × Bool)) (l_101 : List aF) (slots_101 : List Int) (r_101 : Int) (t_101 : aQ) (o4_101 : aT) (d_101 : List (List Int)) (d_101_2 : List Int) : Option (aT × Bool) :=
    again0 (w64 (r_101 + 1)) d_101 d_101_2

def mD (again0 : Int → (List (List Int)) → (List Int) → Option (aT × Bool)) (l_102 : List aF) (slots_102 : List Int) (r_102 : Int) (t_102 : aQ) (o4_102 : aT) (d_102 : List (List Int)) (d_102_2 : List Int) (row_102 : List Int) : Option (aT × Bool) :=
    (app 24 d_102 [row_102]).bind fun x24 =>
    vE again0 l_102 slots_102 r_102 t_102 o4_102 x24 d_102_2

def fD (again0 : Int → (List (List Int)) → (List Int) → Option (aT × Bool)) (l_2 : List aF) (slots_2 : List Int) (r_2 : Int) (t_2 : aQ) (o4_2 : aT) (d_2 : List (List Int)) (d_2_2 : List Int) : Nat → Int → (List Int) → Option (aT × Bool)
  | 0, _, _ => none
  | k2 + 1, p_2, row_2 =>
    (nA t_2 r_2).bind fun r6 =>
    bif decide (p_2 < r6) then ((bif decide (r_2 = 0) then ((idx slots_2 (w64 (2 * p_2))).bind fun x7 =>
    some (decide (x7 = (-1)))) else (some false)).bind fun b8 =>
    bif b8 then ((idx slots_2 (w64 ((w64 (2 * p_2)) + 1))).bind fun x9 =>
    (bif decide (r_2 = 0) then ((idx slots_2 (w64 ((w64 (2 * p_2)) + 1))).bind fun x10 =>
    some (decide (x10 = (-1)))) else (some false)).bind fun b11 =>
    bif b11 then ((idx slots_2 (w64 (2 * p_2))).bind fun x12 =>
    (app 8 row_2 ([x12])).bind fun x13 =>
    (fD again0 l_2 slots_2 r_2 t_2 o4_2 d_2 d_2_2 k2) (w64 (p_2 + 1)) x13)
    else ((app 8 row_2 ([x9])).bind fun x15 =>
    (fD again0 l_2 slots_2 r_2 t_2 o4_2 d_2 d_2_2 k2) (w64 (p_2 + 1)) x15))
    else ((bif decide (r_2 = 0) then ((idx slots_2 (w64 ((w64 (2 * p_2)) + 1))).bind fun x17 =>
    some (decide (x17 = (-1)))) else (some false)).bind fun b18 =>
    bif b18 then ((idx slots_2 (w64 (2 * p_2))).bind fun x19 =>
    (app 8 row_2 ([x19])).bind fun x20 =>
    (fD again0 l_2 slots_2 r_2 t_2 o4_2 d_2 d_2_2 k2) (w64 (p_2 + 1)) x20)
    else ((app 8 row_2 ([(-2)])).bind fun x22 =>
    (fD again0 l_2 slots_2 r_2 t_2 o4_2 d_2 d_2_2 k2) (w64 (p_2 + 1)) x22)))
    else (mD again0 l_2 slots_2 r_2 t_2 o4_2 d_2 d_2_2 row_2)

def mE (again4 : Int → aT → (List (List Int)) → Option (aT × Bool)) (slots_105 : List Int) (allv_105 : List aF) (i_105 : Int) (o4_105 : aT) (d_105 : List (List Int)) (d_105_2 : List Int) : Option (aT × Bool) :=
    again4 (w64 (i_105 + 1)) o4_105 d_105

def uQ (again4 : Int → aT → (List (List Int)) → Option (aT × Bool)) (slots_110 : List Int) (allv_110 : List aF) (i_110 : Int) (o4_110 : aT) (d_110 : List (List Int)) (d_110_2 : List Int) : Option (aT × Bool) :=
    mE again4 slots_110 allv_110 i_110 o4_110 d_110 d_110_2

def iQ (again4 : Int → aT → (List (List Int)) → Option (aT × Bool)) (slots_10 : List Int) (allv_10 : List aF) (i_10 : Int) (atv_10 : Int) (d_10_2 : List Int) (x_10 : aF) : Nat → Int → aT → (List (List Int)) → Option (aT × Bool)
  | 0, _, _, _ => none
  | k10 + 1, r_10, o4_10, d_10 =>
    bif decide (r_10 ≤ x_10.Round) then ((chk (decide (0 ≤ (IntKind.u64.wrap (w64 (r_10 + 1)))))).bind fun u36 =>
    (idx d_10 r_10).bind fun x37 =>
    (idx x37 (atv_10.fdiv (2 ^ (min (IntKind.u64.wrap (w64 (r_10 + 1))).toNat 64)))).bind fun x38 =>
    (bif !decide (x38 = (-2)) then ((idx d_10 r_10).bind fun x39 =>
    (idx x39 (atv_10.fdiv (2 ^ (min (IntKind.u64.wrap (w64 (r_10 + 1))).toNat 64)))).bind fun x40 =>
    some (!decide (x40 = x_10.Player))) else (some false)).bind fun b41 =>
    bif b41 then (some ((aT.mk ([] : List Int) ([] : List (List Int))), false))
    else ((idx d_10 r_10).bind fun x42 =>
    (idx x42 (atv_10.fdiv (2 ^ (min (IntKind.u64.wrap (w64 (r_10 + 1))).toNat 64)))).bind fun x43 =>
    (iQ again4 slots_10 allv_10 i_10 atv_10 d_10_2 x_10 k10) (w64 (r_10 + 1)) o4_10 (d_10.set r_10.toNat (x42.set (atv_10.fdiv (2 ^ (min (IntKind.u64.wrap (w64 (r_10 + 1))).toNat 64))).toNat x_10.Player))))
    else (uQ again4 slots_10 allv_10 i_10 o4_10 d_10 d_10_2)

def iZ (again4 : Int → aT → (List (List Int)) → Option (aT × Bool)) (slots_108 : List Int) (allv_108 : List aF) (i_108 : Int) (atv_108 : Int) (o4_108 : aT) (d_108 : List (List Int)) (d_108_2 : List Int) (x_108 : aF) : Option (aT × Bool) :=
    (bif decide (atv_108 < 0) then (some true) else ((chk (decide (0 ≤ (IntKind.u64.wrap (w64 (x_108.Round + 1)))))).bind fun u34 =>
    some (!decide ((atv_108.fdiv (2 ^ (min (IntKind.u64.wrap (w64 (x_108.Round + 1))).toNat 64))) = x_108.Place)))).bind fun b35 =>
    bif b35 then (some ((aT.mk ([] : List Int) ([] : List (List Int))), false))
    else (iQ again4 slots_108 allv_108 i_108 atv_108 d_108_2 x_108 BIG 0 o4_108 d_108)

def eS (again4 : Int → aT → (List (List Int)) → Option (aT × Bool)) (slots_8 : List Int) (allv_8 : List aF) (i_8 : Int) (o4_8 : aT) (d_8 : List (List Int)) (d_8_2 : List Int) (x_8 : aF) : Nat → Int → Int → Option (aT × Bool)
  | 0, _, _ => none
  | k8 + 1, atv_8, s_8 =>
    bif decide (s_8 < (slots_8.length : Int)) then ((idx slots_8 s_8).bind fun x33 =>
    bif decide (x33 = x_8.Player) then ((eS again4 slots_8 allv_8 i_8 o4_8 d_8 d_8_2 x_8 k8) s_8 (w64 (s_8 + 1)))
    else ((eS again4 slots_8 allv_8 i_8 o4_8 d_8 d_8_2 x_8 k8) atv_8 (w64 (s_8 + 1))))
    else (iZ again4 slots_8 allv_8 i_8 atv_8 o4_8 d_8 d_8_2 x_8)

def rR (again4 : Int → aT → (List (List Int)) → Option (aT × Bool)) (slots_106 : List Int) (allv_106 : List aF) (i_106 : Int) (o4_106 : aT) (d_106 : List (List Int)) (d_106_2 : List Int) (x_106 : aF) : Option (aT × Bool) :=
    eS again4 slots_106 allv_106 i_106 o4_106 d_106 d_106_2 x_106 BIG (-1) 0

def jA (again4 : Int → aT → (List (List Int)) → Option (aT × Bool)) (slots_6 : List Int) (allv_6 : List aF) (i_6 : Int) (d_6 : List (List Int)) (d_6_2 : List Int) (x_6 : aF) : Nat → Int → aT → Option (aT × Bool)
  | 0, _, _ => none
  | k6 + 1, k_6, o4_6 =>
    bif decide (k_6 < i_6) then ((idx allv_6 k_6).bind fun x29 =>
    (bif !decide (x29.Kind = 5) then (some (decide (x29.Round = x_6.Round))) else (some false)).bind fun b31 =>
    (bif b31 then (some (decide (x29.Place = x_6.Place))) else (some false)).bind fun b32 =>
    bif b32 then (some ((aT.mk ([] : List Int) ([] : List (List Int))), false))
    else ((jA again4 slots_6 allv_6 i_6 d_6 d_6_2 x_6 k6) (w64 (k_6 + 1)) o4_6))
    else (rR again4 slots_6 allv_6 i_6 o4_6 d_6 d_6_2 x_6)

def vF (o4_104 : aT) (d_104 : List (List Int)) (d_104_2 : List Int) : Option (aT × Bool) :=
    some ((aT.mk d_104_2 d_104), true)

def dK (slots_4 : List Int) (allv_4 : List aF) (d_4_2 : List Int) : Nat → Int → aT → (List (List Int)) → Option (aT × Bool)
  | 0, _, _, _ => none
  | k4 + 1, i_4, o4_4, d_4 =>
    bif decide (i_4 < (allv_4.length : Int)) then ((idx allv_4 i_4).bind fun x27 =>
    bif decide (x27.Kind = 5) then (mE (dK slots_4 allv_4 d_4_2 k4) slots_4 allv_4 i_4 o4_4 d_4 d_4_2)
    else (jA (dK slots_4 allv_4 d_4_2 k4) slots_4 allv_4 i_4 d_4 d_4_2 x27 BIG 0 o4_4))
    else (vF o4_4 d_4 d_4_2)

def mC (l_100 : List aF) (slots_100 : List Int) (o4_100 : aT) (d_100 : List (List Int)) (d_100_2 : List Int) : Option (aT × Bool) :=
    (oX l_100).bind fun r26 =>
    dK slots_100 r26 d_100_2 BIG 0 o4_100 d_100

def iH (l_0 : List aF) (slots_0 : List Int) (t_0 : aQ) (o4_0 : aT) : Nat → Int → (List (List Int)) → (List Int) → Option (aT × Bool)
  | 0, _, _, _ => none
  | k0 + 1, r_0, d_0, d_0_2 =>
    bif decide (r_0 < t_0.Rounds) then (fD (iH l_0 slots_0 t_0 o4_0 k0) l_0 slots_0 r_0 t_0 o4_0 d_0 d_0_2 BIG 0 ([] : List Int))
    else (mC l_0 slots_0 o4_0 d_0 d_0_2)

def fW (t_0 : aQ) (l_1 : List aF) : Option (aT × Bool) :=
    (oN t_0 l_1).bind fun r3 =>
    bif !r3.2 then (some ((aT.mk ([] : List Int) ([] : List (List Int))), false))
    else (iH l_1 r3.1 t_0 (aT.mk ([] : List Int) ([] : List (List Int))) BIG 0 ([] : List (List Int)) r3.1)

def lB (l_100 : List aF) (t_100 : aQ) : Option Int :=
    (fW t_100 l_100).bind fun r5 =>
    bif !r5.2 then (some 72)
    else (some 0)

def iP (l_0 : List aF) (t_0 : aQ) : Nat → Int → Option Int
  | 0, _ => none
  | k0 + 1, i_0 =>
    bif decide (i_0 < (l_0.length : Int)) then ((idx l_0 i_0).bind fun x3 =>
    (pP t_0 x3).bind fun r4 =>
    bif !r4 then (some 71)
    else ((iP l_0 t_0 k0) (w64 (i_0 + 1))))
    else (lB l_0 t_0)

def fY (t_0 : aQ) (l_1 : List aF) : Option Int :=
    (mZ t_0).bind fun r2 =>
    bif !r2 then (some 70)
    else (bif decide (60 < (l_1.length : Int)) then (some 71)
    else (iP l_1 t_0 BIG 0))

def eD (n_0 : Int) (low_1 : Int) (high_2 : Int) : Option Bool :=
    (bif decide (low_1 ≤ n_0) then (some (decide (n_0 ≤ high_2))) else (some false)).bind fun b1 =>
    some b1

def xV : Option Bool :=
    some false

def iV (player_0 : Int) (p_0 : aM) : Nat → Int → Option Bool
  | 0, _ => none
  | k0 + 1, i_0 =>
    bif decide (i_0 < (p_0.Teams.length : Int)) then ((idx p_0.Teams i_0).bind fun x2 =>
    bif decide (x2.Player = player_0) then (some true)
    else ((iV player_0 p_0 k0) (w64 (i_0 + 1))))
    else (xV)

def mG (p_0 : aM) (player_1 : Int) : Option Bool :=
    iV player_1 p_0 BIG 0

def sG (again0 : Int → Option Bool) (i_101 : Int) (p_101 : aM) : Option Bool :=
    again0 (w64 (i_101 + 1))

def sH (again0 : Int → Option Bool) (i_102 : Int) (p_102 : aM) : Option Bool :=
    sG again0 i_102 p_102

def gN (again0 : Int → Option Bool) (i_2 : Int) (p_2 : aM) (t_2 : bE) : Nat → Int → Option Bool
  | 0, _ => none
  | k2 + 1, k_2 =>
    bif decide (k_2 < i_2) then ((idx p_2.Teams k_2).bind fun x10 =>
    (bif decide (x10.Player = t_2.Player) then (some true) else (some (decide (x10.One = t_2.One)))).bind fun b12 =>
    (bif b12 then (some true) else (some (decide (x10.Two = t_2.One)))).bind fun b13 =>
    (bif b13 then (some true) else ((bif decide (0 ≤ t_2.Two) then ((bif decide (x10.One = t_2.Two) then (some true) else (some (decide (x10.Two = t_2.Two)))).bind fun b14 =>
    some b14) else (some false)).bind fun b15 =>
    some b15)).bind fun b16 =>
    bif b16 then (some false)
    else ((gN again0 i_2 p_2 t_2 k2) (w64 (k_2 + 1))))
    else (sH again0 i_2 p_2)

def oD (p_106 : aM) : Option Bool :=
    some (decide ((p_106.Teams.length : Int) ≤ 64))

def iK (p_6 : aM) : Nat → Int → Option Bool
  | 0, _ => none
  | k6 + 1, i_6 =>
    bif decide (i_6 < (p_6.Slips.length : Int)) then ((idx p_6.Slips i_6).bind fun x21 =>
    (bif decide (x21.Kind = 5) then ((idx p_6.Slips i_6).bind fun x22 =>
    (mG p_6 x22.Player).bind fun r23 =>
    some (!r23)) else (some false)).bind fun b24 =>
    bif b24 then (some false)
    else ((iK p_6 k6) (w64 (i_6 + 1))))
    else (oD p_6)

def lF (p_104 : aM) : Option Bool :=
    iK p_104 BIG 0

def iJ (p_4 : aM) : Nat → Int → Option Bool
  | 0, _ => none
  | k4 + 1, i_4 =>
    bif decide (i_4 < (p_4.Tree.Slots.length : Int)) then ((idx p_4.Tree.Slots i_4).bind fun x17 =>
    (bif !decide (x17 = (-1)) then ((idx p_4.Tree.Slots i_4).bind fun x18 =>
    (mG p_4 x18).bind fun r19 =>
    some (!r19)) else (some false)).bind fun b20 =>
    bif b20 then (some false)
    else ((iJ p_4 k4) (w64 (i_4 + 1))))
    else (lF p_4)

def lE (p_100 : aM) : Option Bool :=
    iJ p_100 BIG 0

def gM (p_0 : aM) : Nat → Int → Option Bool
  | 0, _ => none
  | k0 + 1, i_0 =>
    bif decide (i_0 < (p_0.Teams.length : Int)) then ((idx p_0.Teams i_0).bind fun x2 =>
    (eD x2.Player 0 999).bind fun r4 =>
    (bif !r4 then (some true) else ((eD x2.One 0 999).bind fun r5 =>
    some (!r5))).bind fun b6 =>
    (bif b6 then (some true) else ((eD x2.Two (-1) 999).bind fun r7 =>
    some (!r7))).bind fun b8 =>
    (bif b8 then (some true) else (some (decide (x2.One = x2.Two)))).bind fun b9 =>
    bif b9 then (some false)
    else (gN (gM p_0 k0) i_0 p_0 x2 BIG 0))
    else (lE p_0)

def lC (p_0 : aM) : Option Bool :=
    gM p_0 BIG 0

def aAj (t_100 : bE) : Option (bE × Bool × Bool) :=
    some ((bE.mk 0 0 0), false, false)

def kI (person_0 : Int) (p_0 : aM) : Nat → Int → bE → Option (bE × Bool × Bool)
  | 0, _, _ => none
  | k0 + 1, i_0, t_0 =>
    bif decide (i_0 < (p_0.Teams.length : Int)) then ((idx p_0.Teams i_0).bind fun x3 =>
    (bif decide (x3.One = person_0) then (some true) else ((idx p_0.Teams i_0).bind fun x4 =>
    (bif decide (x4.Two = person_0) then (some (decide (0 ≤ person_0))) else (some false)).bind fun b5 =>
    some b5)).bind fun b6 =>
    bif b6 then ((idx p_0.Teams i_0).bind fun x7 =>
    (idx p_0.Teams i_0).bind fun x8 =>
    some (x7, decide (x8.Two = person_0), true))
    else ((kI person_0 p_0 k0) (w64 (i_0 + 1)) t_0))
    else (aAj t_0)

def rS (p_0 : aM) (person_1 : Int) : Option (bE × Bool × Bool) :=
    kI person_1 p_0 BIG 0 (bE.mk 0 0 0)

def jY (p_0 : aM) (person_1 : Int) : Option Bool :=
    (rS p_0 person_1).bind fun r2 =>
    (bif r2.2.2 then (some (decide (0 ≤ person_1))) else (some false)).bind fun b4 =>
    some b4

def sB (again0 : Int → Option Bool) (i_101 : Int) (p_101 : aM) : Option Bool :=
    again0 (w64 (i_101 + 1))

def sC (again0 : Int → Option Bool) (i_102 : Int) (p_102 : aM) : Option Bool :=
    sB again0 i_102 p_102

def gK (again0 : Int → Option Bool) (i_2 : Int) (p_2 : aM) : Nat → Int → Option Bool
  | 0, _ => none
  | k2 + 1, k_2 =>
    bif decide (k_2 < i_2) then ((idx p_2.Levies k_2).bind fun x7 =>
    (idx p_2.Levies i_2).bind fun x8 =>
    bif decide (x7.Person = x8.Person) then (some false)
    else ((gK again0 i_2 p_2 k2) (w64 (k_2 + 1))))
    else (sC again0 i_2 p_2)

def sE (again4 : Int → Option Bool) (i_105 : Int) (p_105 : aM) : Option Bool :=
    again4 (w64 (i_105 + 1))

def sF (again4 : Int → Option Bool) (i_106 : Int) (p_106 : aM) : Option Bool :=
    sE again4 i_106 p_106

def gL (again4 : Int → Option Bool) (i_6 : Int) (p_6 : aM) (r_6 : bT) : Nat → Int → Option Bool
  | 0, _ => none
  | k6 + 1, k_6 =>
    bif decide (k_6 < i_6) then ((idx p_6.Rates k_6).bind fun x16 =>
    bif decide (x16.Person = r_6.Person) then (some false)
    else ((gL again4 i_6 p_6 r_6 k6) (w64 (k_6 + 1))))
    else (sF again4 i_6 p_6)

def sD : Option Bool :=
    some true

def dS (p_4 : aM) : Nat → Int → Option Bool
  | 0, _ => none
  | k4 + 1, i_4 =>
    bif decide (i_4 < (p_4.Rates.length : Int)) then ((idx p_4.Rates i_4).bind fun x9 =>
    (jY p_4 x9.Person).bind fun r11 =>
    (bif !r11 then (some true) else ((eD x9.Num 1 10000).bind fun r12 =>
    some (!r12))).bind fun b13 =>
    (bif b13 then (some true) else ((eD x9.Den 1 10000).bind fun r14 =>
    some (!r14))).bind fun b15 =>
    bif b15 then (some false)
    else (gL (dS p_4 k4) i_4 p_4 x9 BIG 0))
    else (sD)

def lD (p_100 : aM) : Option Bool :=
    dS p_100 BIG 0

def dR (p_0 : aM) : Nat → Int → Option Bool
  | 0, _ => none
  | k0 + 1, i_0 =>
    bif decide (i_0 < (p_0.Levies.length : Int)) then ((idx p_0.Levies i_0).bind fun x2 =>
    (jY p_0 x2.Person).bind fun r3 =>
    (bif !r3 then (some true) else ((idx p_0.Levies i_0).bind fun x4 =>
    (eD x4.Mille 0 500).bind fun r5 =>
    some (!r5))).bind fun b6 =>
    bif b6 then (some false)
    else (gK (dR p_0 k0) i_0 p_0 BIG 0))
    else (lD p_0)

def nM (p_0 : aM) : Option Bool :=
    dR p_0 BIG 0

def rZ (again0 : Int → Option Bool) (i_101 : Int) (p_101 : aM) : Option Bool :=
    again0 (w64 (i_101 + 1))

def sA (again0 : Int → Option Bool) (i_102 : Int) (p_102 : aM) : Option Bool :=
    rZ again0 i_102 p_102

def gJ (again0 : Int → Option Bool) (i_2 : Int) (p_2 : aM) (x_2 : aG) : Nat → Int → Option Bool
  | 0, _ => none
  | k2 + 1, k_2 =>
    bif decide (k_2 < i_2) then ((idx p_2.Items k_2).bind fun x13 =>
    (bif decide (x13.Id = x_2.Id) then ((idx p_2.Items k_2).bind fun x14 =>
    some (!decide (x14 = x_2))) else (some false)).bind fun b15 =>
    bif b15 then (some false)
    else ((gJ again0 i_2 p_2 x_2 k2) (w64 (k_2 + 1))))
    else (sA again0 i_2 p_2)

def oC (p_100 : aM) : Option Bool :=
    some (decide ((p_100.Items.length : Int) ≤ 40))

def dQ (p_0 : aM) : Nat → Int → Option Bool
  | 0, _ => none
  | k0 + 1, i_0 =>
    bif decide (i_0 < (p_0.Items.length : Int)) then ((idx p_0.Items i_0).bind fun x2 =>
    (eD x2.Id 0 99).bind fun r4 =>
    (bif !r4 then (some true) else ((jY p_0 x2.Person).bind fun r5 =>
    some (!r5))).bind fun b6 =>
    (bif b6 then (some true) else ((bif decide (x2.Kind = 1) then ((eD x2.Amount 0 10000000).bind fun r7 =>
    some r7) else (some false)).bind fun b8 =>
    (bif b8 then (some true) else ((bif decide (x2.Kind = 2) then ((eD x2.Amount 0 30).bind fun r9 =>
    some r9) else (some false)).bind fun b10 =>
    some b10)).bind fun b11 =>
    some (!b11))).bind fun b12 =>
    bif b12 then (some false)
    else (gJ (dQ p_0 k0) i_0 p_0 x2 BIG 0))
    else (oC p_0)

def nL (p_0 : aM) : Option Bool :=
    dQ p_0 BIG 0

def rK (p_100 : aM) : Option Int :=
    (bif !decide ((p_100.Prizes.length : Int) = (w64 (p_100.Tree.Rounds + 1))) then (some true) else ((eD p_100.Daily 0 100000).bind fun r9 =>
    some (!r9))).bind fun b10 =>
    bif b10 then (some 100)
    else ((lC p_100).bind fun r11 =>
    (bif !r11 then (some true) else ((nM p_100).bind fun r12 =>
    some (!r12))).bind fun b13 =>
    bif b13 then (some 101)
    else ((nL p_100).bind fun r14 =>
    bif !r14 then (some 102)
    else (some 0)))

def iS (p_0 : aM) : Nat → Int → Option Int
  | 0, _ => none
  | k0 + 1, i_0 =>
    bif decide (i_0 < (p_0.Prizes.length : Int)) then ((idx p_0.Prizes i_0).bind fun x3 =>
    (eD x3 0 10000000).bind fun r4 =>
    (bif !r4 then (some true) else ((bif decide (0 < i_0) then ((idx p_0.Prizes i_0).bind fun x5 =>
    (idx p_0.Prizes (w64 (i_0 - 1))).bind fun x6 =>
    some (decide (x5 < x6))) else (some false)).bind fun b7 =>
    some b7)).bind fun b8 =>
    bif b8 then (some 100)
    else ((iS p_0 k0) (w64 (i_0 + 1))))
    else (rK p_0)

def kH (p_0 : aM) : Option Int :=
    (fY p_0.Tree p_0.Slips).bind fun r2 =>
    bif !decide (r2 = 0) then (some r2)
    else (iS p_0 BIG 0)

def nU (p_0 : aM) : Option Bool :=
    (nT p_0).bind fun r2 =>
    (bif !r2 then ((kH p_0).bind fun r3 =>
    some (decide (r3 = 0))) else (some false)).bind fun b4 =>
    some b4

def oL : Option aM :=
    some (aM.mk (aQ.mk 2 ([1, 2, 3, 4])) ([(aF.mk 1 0 0 1 0)]) ([100, 300, 1001]) 40 ([(bE.mk 1 11 12), (bE.mk 2 21 22), (bE.mk 3 31 (-1)), (bE.mk 4 41 (-1))]) ([(cA.mk 11 250)]) ([(bT.mk 21 3 2), (bT.mk 22 1 3)]) ([(aG.mk 1 1 21 30), (aG.mk 2 2 11 2), (aG.mk 3 1 31 160)]))

def gP (n_0 : Int) (low_1 : Int) (high_2 : Int) : Option Bool :=
    (bif decide (low_1 ≤ n_0) then (some (decide (n_0 ≤ high_2))) else (some false)).bind fun b1 =>
    some b1

def wK : Option Bool :=
    some true

def jT (t21_0 : List Int) (t22_0 : Int) (t_0 : aQ) : Nat → Int → (List (Int × Int)) → Option Bool
  | 0, _, _ => none
  | k0 + 1, t23_0, o19_0 =>
    bif decide (t23_0 < t22_0) then ((idx t21_0 t23_0).bind fun x6 =>
    bif decide (x6 = (-1)) then ((idx t_0.Slots (aPx t23_0 1)).bind fun x7 =>
    bif decide (x7 = (-1)) then (some false)
    else ((jT t21_0 t22_0 t_0 k0) (w64 (t23_0 + 1)) o19_0))
    else ((bif decide (1 < (dA x6 0 (iD x6 (w64 ((dA x6 0 o19_0) + 1)) o19_0))) then (some true) else ((gP x6 0 999).bind fun r8 =>
    some (!r8))).bind fun b9 =>
    bif b9 then (some false)
    else ((jT t21_0 t22_0 t_0 k0) (w64 (t23_0 + 1)) (iD x6 (w64 ((dA x6 0 o19_0) + 1)) o19_0))))
    else (wK)

def qO (t_0 : aQ) : Option Bool :=
    (gP t_0.Rounds 1 5).bind fun r2 =>
    (bif !r2 then (some true) else ((chk (decide (0 ≤ t_0.Rounds))).bind fun u3 =>
    some (!decide ((t_0.Slots.length : Int) = (w64 (1 * 2 ^ (min t_0.Rounds.toNat 64))))))).bind fun b4 =>
    bif b4 then (some false)
    else (jT t_0.Slots (t_0.Slots.length : Int) t_0 BIG 0 ([] : List (Int × Int)))

def oA : Option Int :=
    some (-1)

def fM (s_0 : List aF) (f_0 : aF → Option Bool) (t7_0 : Int) : Nat → Int → Option Int
  | 0, _ => none
  | k0 + 1, t8_0 =>
    bif decide (t8_0 < t7_0) then ((idx s_0 t8_0).bind fun x1 =>
    (f_0 x1).bind fun r2 =>
    bif r2 then (some t8_0)
    else ((fM s_0 f_0 t7_0 k0) (w64 (t8_0 + 1))))
    else (oA)

def kC (s_0 : List aF) (f_1 : aF → Option Bool) : Option Int :=
    fM s_0 f_1 (s_0.length : Int) BIG 0

def iW (s_0 : List aF) (f_1 : aF → Option Bool) : Option Bool :=
    (kC s_0 f_1).bind fun r1 =>
    some (decide (0 ≤ r1))

def qY (m_0 : aH) (t_1 : aQ) : Option Bool :=
    (gP m_0.round 0 (w64 (t_1.Rounds - 1))).bind fun r3 =>
    (bif r3 then ((chk (decide (0 ≤ (w64 (m_0.round + 1))))).bind fun u4 =>
    (gP m_0.place 0 (w64 (((t_1.Slots.length : Int).fdiv (2 ^ (min (w64 (m_0.round + 1)).toNat 64))) - 1))).bind fun r5 =>
    some r5) else (some false)).bind fun b6 =>
    some b6

def uU : Option Int :=
    some (-1)

def jZ (s_0 : List Int) (v_0 : Int) (t7_0 : Int) : Nat → Int → Option Int
  | 0, _ => none
  | k0 + 1, t8_0 =>
    bif decide (t8_0 < t7_0) then ((idx s_0 t8_0).bind fun x1 =>
    bif decide (v_0 = x1) then (some t8_0)
    else ((jZ s_0 v_0 t7_0 k0) (w64 (t8_0 + 1))))
    else (uU)

def iL (s_0 : List Int) (v_1 : Int) : Option Int :=
    jZ s_0 v_1 (s_0.length : Int) BIG 0

def dH (s_0 : List Int) (v_1 : Int) : Option Bool :=
    (iL s_0 v_1).bind fun r1 =>
    some (decide (0 ≤ r1))

def sP (t_0 : aQ) (s_1 : aF) : Option Bool :=
    (gP s_1.Player 0 999).bind fun r3 =>
    bif !r3 then (some false)
    else (bif decide (s_1.Kind = 5) then ((bif decide (s_1.Round = 0) then ((gP s_1.Place 0 (w64 ((t_0.Slots.length : Int) - 1))).bind fun r4 =>
    some r4) else (some false)).bind fun b5 =>
    (bif b5 then ((gP s_1.Old 0 999).bind fun r6 =>
    some r6) else (some false)).bind fun b7 =>
    some b7)
    else ((gP s_1.Kind 1 4).bind fun r9 =>
    (bif !r9 then (some true) else (some (!decide (s_1.Old = 0)))).bind fun b10 =>
    (bif b10 then (some true) else ((qY (aH.mk s_1.Round s_1.Place) t_0).bind fun r11 =>
    some (!r11))).bind fun b12 =>
    bif b12 then (some false)
    else ((bif decide (0 < s_1.Round) then (some true) else ((sub t_0.Slots (w64 (2 * s_1.Place)) (w64 ((w64 (2 * s_1.Place)) + 2))).bind fun x13 =>
    (dH x13 (-1)).bind fun r14 =>
    some (!r14))).bind fun b15 =>
    some b15)))

def qP (s_0 : aF) (c_1 : aQ) : Option Bool :=
    (sP c_1 s_0).bind fun r2 =>
    some (!r2)

def slices_Clone_int (s_0 : List Int) : Option ((List Int)) :=
    (app 8 ([] : List Int) s_0).bind fun x5 =>
    some x5

def pY (againQ : (aF × Bool) → Prop) (d_100 : List Int) (d_100_2 : aQ) (lucky_100 : List (aF × Int)) (o6_100 : aF) : Prop :=
    againQ ((aF.mk 0 0 0 0 0), false)

def jG (againQ : (aF × Bool) → Prop) (slot_0 : Int) (d_0 : List Int) (d_0_2 : aQ) (lucky_0 : List (aF × Int)) : Nat → aF → (List (aF × Int)) → Prop
  | 0, _, _ => False
  | k0 + 1, o6_0, left_0 =>
    aQv left_0 (pY againQ d_0 d_0_2 lucky_0 o6_0)
    (fun p5 left6 =>
    nb (bif decide (p5.1.Place = slot_0) then ((idx d_0 slot_0).bind fun x8 =>
    some (decide (p5.1.Old = x8))) else (some false)) fun b9 =>
    bif b9 then (againQ (p5.1, true))
    else ((jG againQ slot_0 d_0 d_0_2 lucky_0 k0) o6_0 left6))

def jS (d_0_Tree : aQ) (d_0_players : List Int) (lucky_1 : List (aF × Int)) (slot_2 : Int) (Q : (aF × Bool) → Prop) : Prop :=
    aEz lucky_1 fun left3 =>
    jG Q slot_2 d_0_players d_0_Tree lucky_1 BIG (aF.mk 0 0 0 0 0) left3

def nH (againQ : (Bool × (List Int) × (List (aF × Int))) → Prop) (again0 : Int → (List Int) → (List (aF × Int)) → (List Int) → Prop) (t19_101 : Int) (t20_101 : Int) (d_101 : List Int) (d_101_2 : aQ) (lucky_101 : List (aF × Int)) (o14_101 : List Int) : Prop :=
    again0 (w64 (t20_101 + 1)) d_101 lucky_101 o14_101

def nI (againQ : (Bool × (List Int) × (List (aF × Int))) → Prop) (again0 : Int → (List Int) → (List (aF × Int)) → (List Int) → Prop) (t19_102 : Int) (t20_102 : Int) (d_102 : List Int) (d_102_2 : aQ) (lucky_102 : List (aF × Int)) (o14_102 : List Int) : Prop :=
    nH againQ again0 t19_102 t20_102 d_102 d_102_2 lucky_102 o14_102

def eQ (againQ : (Bool × (List Int) × (List (aF × Int))) → Prop) (again0 : Int → (List Int) → (List (aF × Int)) → (List Int) → Prop) (i_2 : Int) (t19_2 : Int) (t20_2 : Int) (d_2_2 : aQ) : Nat → Bool → (List Int) → (List (aF × Int)) → aF → (List Int) → Prop
  | 0, _, _, _, _, _ => False
  | k2 + 1, isv_2, d_2, lucky_2, s_2, o14_2 =>
    bif isv_2 then (nb (dH o14_2 s_2.Player) fun r5 =>
    bif r5 then (againQ (false, d_2, lucky_2))
    else (nb (idx d_2 i_2) fun x6 =>
    nb (app 8 o14_2 ([s_2.Player])) fun x7 =>
    jS d_2_2 (d_2.set i_2.toNat s_2.Player) (sK s_2 lucky_2) i_2 fun r10 =>
    (eQ againQ again0 i_2 t19_2 t20_2 d_2_2 k2) r10.2 (d_2.set i_2.toNat s_2.Player) (sK s_2 lucky_2) r10.1 x7))
    else (nI againQ again0 t19_2 t20_2 d_2 d_2_2 lucky_2 o14_2)

def nG (againQ : (Bool × (List Int) × (List (aF × Int))) → Prop) (d_100 : List Int) (d_100_2 : aQ) (lucky_100 : List (aF × Int)) : Prop :=
    againQ (decide ((lucky_100.length : Int) = 0), d_100, lucky_100)

def dC (againQ : (Bool × (List Int) × (List (aF × Int))) → Prop) (t19_0 : Int) (d_0_2 : aQ) : Nat → Int → (List Int) → (List (aF × Int)) → (List Int) → Prop
  | 0, _, _, _, _ => False
  | k0 + 1, t20_0, d_0, lucky_0, o14_0 =>
    bif decide (t20_0 < t19_0) then (jS d_0_2 d_0 lucky_0 t20_0 fun r3 =>
    eQ againQ (dC againQ t19_0 d_0_2 k0) t20_0 t19_0 t20_0 d_0_2 BIG r3.2 d_0 lucky_0 r3.1 o14_0)
    else (nG againQ d_0 d_0_2 lucky_0)

def mP (d_0_Tree : aQ) (d_0_players : List Int) (lucky_1 : List (aF × Int)) (Q : (Bool × (List Int) × (List (aF × Int))) → Prop) : Prop :=
    nb (slices_Clone_int d_0_Tree.Slots) fun r1 =>
    dC Q (d_0_players.length : Int) d_0_Tree BIG 0 d_0_players lucky_1 r1

def pZ (round_0 : Int) (slot_1 : Int) : Option aH :=
    (chk (decide (0 ≤ (w64 (round_0 + 1))))).bind fun u2 =>
    some (aH.mk round_0 (slot_1.fdiv (2 ^ (min (w64 (round_0 + 1)).toNat 64))))

def tP (d_100 : List Int) (d_100_2 : List (aH × Int)) (d_100_3 : aQ) : Option (Bool × (List (aH × Int))) :=
    some (true, d_100_2)

def jH (slot_0 : Int) (t12_0 : Int) (d_0 : List Int) (d_0_3 : aQ) : Nat → Int → (List (aH × Int)) → Option (Bool × (List (aH × Int)))
  | 0, _, _ => none
  | k0 + 1, t13_0, d_0_2 =>
    bif decide (t13_0 < t12_0) then ((pZ t13_0 slot_0).bind fun r1 =>
    (bif eE r1 d_0_2 then ((idx d_0 slot_0).bind fun x3 =>
    some (!decide ((dA r1 0 d_0_2) = x3))) else (some false)).bind fun b4 =>
    bif b4 then (some (false, d_0_2))
    else ((idx d_0 slot_0).bind fun x5 =>
    (jH slot_0 t12_0 d_0 d_0_3 k0) (w64 (t13_0 + 1)) (iD r1 x5 d_0_2)))
    else (tP d_0 d_0_2 d_0_3)

def mY (d_0_Tree : aQ) (d_0_players : List Int) (d_0_won : List (aH × Int)) (slot_1 : Int) (round_2 : Int) : Option (Bool × (List (aH × Int))) :=
    jH slot_1 (w64 (round_2 + 1)) d_0_players d_0_Tree BIG 0 d_0_won

def xE (againQ : ((Option bH) × Bool) → Prop) (o22_104 : List Int) (o23_104 : List (aH × Int)) (o25_104 : aQ) : Prop :=
    againQ ((some (bH.mk o25_104 o22_104 o23_104)), true)

def lQ (againQ : ((Option bH) × Bool) → Prop) (o22_4 : List Int) (o25_4 : aQ) (o27_4 : List (aH × aF)) : Nat → (List (aH × Int)) → (List (aH × aF)) → Prop
  | 0, _, _ => False
  | k4 + 1, o23_4, left_4 =>
    aQv left_4 (xE againQ o22_4 o23_4 o25_4)
    (fun p23 left24 =>
    nb (iL o22_4 p23.2.Player) fun r27 =>
    nb (bif decide (r27 < 0) then (some true) else ((pZ p23.1.round r27).bind fun r28 =>
    some (!decide (r28 = p23.1)))) fun b29 =>
    bif b29 then (againQ ((none : Option bH), false))
    else (nb (mY o25_4 o22_4 o23_4 r27 p23.1.round) fun r31 =>
    bif !r31.1 then (againQ ((none : Option bH), false))
    else ((lQ againQ o22_4 o25_4 o27_4 k4) r31.2 left24)))

def tO (againQ : ((Option bH) × Bool) → Prop) (o22_102 : List Int) (o23_102 : List (aH × Int)) (o25_102 : aQ) (o27_102 : List (aH × aF)) : Prop :=
    aEz o27_102 fun left21 =>
    lQ againQ o22_102 o25_102 o27_102 BIG o23_102 left21

def jF (againQ : ((Option bH) × Bool) → Prop) (t72_2 : Int) (o22_2 : List Int) (o25_2 : aQ) (o27_2 : List (aH × aF)) : Nat → Int → (List (aH × Int)) → Prop
  | 0, _, _ => False
  | k2 + 1, t73_2, o23_2 =>
    bif decide (t73_2 < t72_2) then (nb (idx o22_2 t73_2) fun x16 =>
    bif decide (x16 = (-1)) then (nb (mY o25_2 o22_2 o23_2 (aPx t73_2 1) 0) fun r17 =>
    (jF againQ t72_2 o22_2 o25_2 o27_2 k2) (w64 (t73_2 + 1)) r17.2)
    else ((jF againQ t72_2 o22_2 o25_2 o27_2 k2) (w64 (t73_2 + 1)) o23_2))
    else (tO againQ o22_2 o23_2 o25_2 o27_2)

def tN (againQ : ((Option bH) × Bool) → Prop) (o22_100 : List Int) (o23_100 : List (aH × Int)) (o25_100 : aQ) (o26_100 : List (aF × Int)) (o27_100 : List (aH × aF)) : Prop :=
    mP o25_100 o22_100 o26_100 fun r13 =>
    bif !r13.1 then (againQ ((none : Option bH), false))
    else (jF againQ (r13.2.1.length : Int) r13.2.1 o25_100 o27_100 BIG 0 o23_100)

def jE (againQ : ((Option bH) × Bool) → Prop) (t28_0 : List aF) (t29_0 : Int) (o22_0 : List Int) (o23_0 : List (aH × Int)) (o25_0 : aQ) : Nat → Int → (List (aF × Int)) → (List (aH × aF)) → Prop
  | 0, _, _, _ => False
  | k0 + 1, t30_0, o26_0, o27_0 =>
    bif decide (t30_0 < t29_0) then (nb (idx t28_0 t30_0) fun x8 =>
    bif decide (x8.Kind = 5) then ((jE againQ t28_0 t29_0 o22_0 o23_0 o25_0 k0) (w64 (t30_0 + 1)) (iD x8 (w64 ((dA x8 0 o26_0) + 1)) o26_0) o27_0)
    else (nb (bif eE (aH.mk x8.Round x8.Place) o27_0 then (some (!decide ((dA (aH.mk x8.Round x8.Place) (aF.mk 0 0 0 0 0) o27_0) = x8))) else (some false)) fun b12 =>
    bif b12 then (againQ ((none : Option bH), false))
    else ((jE againQ t28_0 t29_0 o22_0 o23_0 o25_0 k0) (w64 (t30_0 + 1)) o26_0 (iD (aH.mk x8.Round x8.Place) x8 o27_0))))
    else (tN againQ o22_0 o23_0 o25_0 o26_0 o27_0)

def uA (t_0 : aQ) (l_1 : List aF) (Q : ((Option bH) × Bool) → Prop) : Prop :=
    nb (slices_Clone_int t_0.Slots) fun r2 =>
    jE Q l_1 (l_1.length : Int) r2 ([] : List (aH × Int)) t_0 BIG 0 ([] : List (aF × Int)) ([] : List (aH × aF))

def oJ (t_0 : aQ) (l_1 : List aF) (Q : ((Option bH) × Int) → Prop) : Prop :=
    nb (qO t_0) fun r2 =>
    bif !r2 then (Q ((none : Option bH), 70))
    else (nb (bif decide (60 < (l_1.length : Int)) then (some true) else ((iW l_1 (fun y3 => qP y3 t_0)).bind fun r4 =>
    some r4)) fun b5 =>
    bif b5 then (Q ((none : Option bH), 71))
    else (uA t_0 l_1 fun r6 =>
    bif !r6.2 then (Q ((none : Option bH), 72))
    else (Q (r6.1, 0))))

def tZ (t_0 : aQ) (l_1 : List aF) (Q : Int → Prop) : Prop :=
    oJ t_0 l_1 fun r2 =>
    Q r2.2

def uB (x_0 : Int) : Option Bool :=
    some (!decide (x_0 = x_0))

def vD (x_0 : Int) (y_1 : Int) : Option Bool :=
    (uB x_0).bind fun r1 =>
    (bif r1 then ((uB y_1).bind fun r2 =>
    some (!r2)) else (some false)).bind fun b3 =>
    (bif b3 then (some true) else (some (decide (x_0 < y_1)))).bind fun b4 =>
    some b4

def wT : Option Bool :=
    some true

def iM (x_0 : List Int) : Nat → Int → Option Bool
  | 0, _ => none
  | k0 + 1, i_0 =>
    bif decide (0 < i_0) then ((idx x_0 i_0).bind fun x1 =>
    (idx x_0 (w64 (i_0 - 1))).bind fun x2 =>
    (vD x1 x2).bind fun r3 =>
    bif r3 then (some false)
    else ((iM x_0 k0) (w64 (i_0 - 1))))
    else (wT)

def nP (x_0 : List Int) : Option Bool :=
    iM x_0 BIG (w64 ((x_0.length : Int) - 1))

def gY (n_0 : Int) (low_1 : Int) (high_2 : Int) : Option Bool :=
    (bif decide (low_1 ≤ n_0) then (some (decide (n_0 ≤ high_2))) else (some false)).bind fun b1 =>
    some b1

def uJ (p_0 : aM) : Option Bool :=
    (bif !decide ((p_0.Prizes.length : Int) = (w64 (p_0.Tree.Rounds + 1))) then (some true) else ((nP p_0.Prizes).bind fun r2 =>
    some (!r2))).bind fun b3 =>
    (bif b3 then (some true) else ((gY p_0.Daily 0 100000).bind fun r4 =>
    some (!r4))).bind fun b5 =>
    bif b5 then (some false)
    else ((idx p_0.Prizes 0).bind fun x6 =>
    (bif decide (0 ≤ x6) then ((idx p_0.Prizes (w64 ((p_0.Prizes.length : Int) - 1))).bind fun x7 =>
    some (decide (x7 ≤ 10000000))) else (some false)).bind fun b8 =>
    some b8)

def slices_Sort_int (x : List Int) : Option (List Int) := if x.length < 4611686018427387904 then some (fC x) else none

def tW (out_100 : List Int) : Option ((List Int)) :=
    (slices_Sort_int out_100).bind fun r9 =>
    some r9

def kK (t7_0 : List bE) (t8_0 : Int) : Nat → Int → (List Int) → Option ((List Int))
  | 0, _, _ => none
  | k0 + 1, t9_0, out_0 =>
    bif decide (t9_0 < t8_0) then ((idx t7_0 t9_0).bind fun x3 =>
    (app 8 out_0 ([x3.One])).bind fun x5 =>
    bif !decide (x3.Two = (-1)) then ((app 8 x5 ([x3.Two])).bind fun x7 =>
    (kK t7_0 t8_0 k0) (w64 (t9_0 + 1)) x7)
    else ((kK t7_0 t8_0 k0) (w64 (t9_0 + 1)) x5))
    else (tW out_0)

def pJ (p_0 : aM) : Option ((List Int)) :=
    kK p_0.Teams (p_0.Teams.length : Int) BIG 0 ([] : List Int)

def tC (again0 : Int → (List Int) → Option ((List Int))) (k_102 : Int) (s_102 : List Int) : Option ((List Int)) :=
    (chk (decide (0 ≤ k_102) && decide (k_102 ≤ (s_102.length : Int)))).bind fun u9 =>
    (chk (decide (k_102.toNat ≤ s_102.length))).bind fun u10 =>
    (chk (decide (0 ≤ k_102))).bind fun u11 =>
    some (s_102.take k_102.toNat)

def iB (again0 : Int → (List Int) → Option ((List Int))) (s2_2 : Int) : Nat → Int → Int → (List Int) → Option ((List Int))
  | 0, _, _, _ => none
  | k2 + 1, k_2, k2_2, s_2 =>
    bif decide (k2_2 < ((s_2.drop s2_2.toNat).length : Int)) then ((idx (s_2.drop s2_2.toNat) k2_2).bind fun x5 =>
    (idx (s_2.drop s2_2.toNat) (w64 (k2_2 - 1))).bind fun x6 =>
    bif !decide (x5 = x6) then ((idx (s_2.drop s2_2.toNat) k2_2).bind fun x7 =>
    (idx s_2 k_2).bind fun x8 =>
    (iB again0 s2_2 k2) (w64 (k_2 + 1)) (w64 (k2_2 + 1)) (s_2.set k_2.toNat x7))
    else ((iB again0 s2_2 k2) k_2 (w64 (k2_2 + 1)) s_2))
    else (tC again0 k_2 s_2)

def tB (again0 : Int → (List Int) → Option ((List Int))) (k_101 : Int) (s_101 : List Int) : Option ((List Int)) :=
    again0 (w64 (k_101 + 1)) s_101

def tA (s_100 : List Int) : Option ((List Int)) :=
    some s_100

def fH : Nat → Int → (List Int) → Option ((List Int))
  | 0, _, _ => none
  | k0 + 1, k_0, s_0 =>
    bif decide (k_0 < (s_0.length : Int)) then ((idx s_0 k_0).bind fun x2 =>
    (idx s_0 (w64 (k_0 - 1))).bind fun x3 =>
    bif decide (x2 = x3) then ((chk (decide (0 ≤ k_0) && decide (k_0 ≤ (s_0.length : Int)))).bind fun u4 =>
    iB (fH k0) k_0 BIG k_0 1 s_0)
    else (tB (fH k0) k_0 s_0))
    else (tA s_0)

def slices_Compact_int (s_0 : List Int) : Option ((List Int)) :=
    bif decide ((s_0.length : Int) < 2) then (some s_0)
    else (fH BIG 1 s_0)

def pC (l_0 : List Int) : Option Bool :=
    (slices_Clone_int l_0).bind fun r1 =>
    (slices_Compact_int r1).bind fun r3 =>
    some (decide ((r3.length : Int) = (l_0.length : Int)))

def vR : Option Bool :=
    some true

def gW (people_0 : List Int) (ofv_0 : cA → Option (Int × Bool)) (t12_0 : List cA) (t13_0 : Int) : Nat → Int → (List Int) → Option Bool
  | 0, _, _ => none
  | k0 + 1, t14_0, done_0 =>
    bif decide (t14_0 < t13_0) then ((idx t12_0 t14_0).bind fun x2 =>
    (ofv_0 x2).bind fun r4 =>
    (bif !r4.2 then (some true) else ((dH people_0 r4.1).bind fun r5 =>
    some (!r5))).bind fun b6 =>
    (bif b6 then (some true) else ((dH done_0 r4.1).bind fun r7 =>
    some r7)).bind fun b8 =>
    bif b8 then (some false)
    else ((app 8 done_0 ([r4.1])).bind fun x9 =>
    (gW people_0 ofv_0 t12_0 t13_0 k0) (w64 (t14_0 + 1)) x9))
    else (vR)

def mH (people_0 : List Int) (l_1 : List cA) (of_2 : cA → Option (Int × Bool)) : Option Bool :=
    gW people_0 of_2 l_1 (l_1.length : Int) BIG 0 ([] : List Int)

def lU (l_0 : cA) : Option (Int × Bool) :=
    (gY l_0.Mille 0 500).bind fun r2 =>
    some (l_0.Person, r2)

def vS : Option Bool :=
    some true

def gX (people_0 : List Int) (ofv_0 : bT → Option (Int × Bool)) (t12_0 : List bT) (t13_0 : Int) : Nat → Int → (List Int) → Option Bool
  | 0, _, _ => none
  | k0 + 1, t14_0, done_0 =>
    bif decide (t14_0 < t13_0) then ((idx t12_0 t14_0).bind fun x2 =>
    (ofv_0 x2).bind fun r4 =>
    (bif !r4.2 then (some true) else ((dH people_0 r4.1).bind fun r5 =>
    some (!r5))).bind fun b6 =>
    (bif b6 then (some true) else ((dH done_0 r4.1).bind fun r7 =>
    some r7)).bind fun b8 =>
    bif b8 then (some false)
    else ((app 8 done_0 ([r4.1])).bind fun x9 =>
    (gX people_0 ofv_0 t12_0 t13_0 k0) (w64 (t14_0 + 1)) x9))
    else (vS)

def mI (people_0 : List Int) (l_1 : List bT) (of_2 : bT → Option (Int × Bool)) : Option Bool :=
    gX people_0 of_2 l_1 (l_1.length : Int) BIG 0 ([] : List Int)

def lV (r_0 : bT) : Option (Int × Bool) :=
    (gY r_0.Num 1 10000).bind fun r2 =>
    (bif r2 then ((gY r_0.Den 1 10000).bind fun r3 =>
    some r3) else (some false)).bind fun b4 =>
    some (r_0.Person, b4)

def pS (people_104 : List Int) (p_104 : aM) : Option Bool :=
    (mH people_104 p_104.Levies (fun y24 => lU y24)).bind fun r25 =>
    (bif r25 then ((mI people_104 p_104.Rates (fun y26 => lV y26)).bind fun r27 =>
    some r27) else (some false)).bind fun b28 =>
    some b28

def kV (people_4 : List Int) (t76_4 : List aF) (t77_4 : Int) (p_4 : aM) (players_4 : List Int) : Nat → Int → Option Bool
  | 0, _ => none
  | k4 + 1, t78_4 =>
    bif decide (t78_4 < t77_4) then ((idx t76_4 t78_4).bind fun x20 =>
    (bif decide (x20.Kind = 5) then ((dH players_4 x20.Player).bind fun r22 =>
    some (!r22)) else (some false)).bind fun b23 =>
    bif b23 then (some false)
    else ((kV people_4 t76_4 t77_4 p_4 players_4 k4) (w64 (t78_4 + 1))))
    else (pS people_4 p_4)

def pR (people_102 : List Int) (p_102 : aM) (players_102 : List Int) : Option Bool :=
    kV people_102 p_102.Slips (p_102.Slips.length : Int) p_102 players_102 BIG 0

def jV (people_2 : List Int) (t60_2 : List Int) (t61_2 : Int) (p_2 : aM) (players_2 : List Int) : Nat → Int → Option Bool
  | 0, _ => none
  | k2 + 1, t62_2 =>
    bif decide (t62_2 < t61_2) then ((idx t60_2 t62_2).bind fun x17 =>
    (bif !decide (x17 = (-1)) then ((dH players_2 x17).bind fun r18 =>
    some (!r18)) else (some false)).bind fun b19 =>
    bif b19 then (some false)
    else ((jV people_2 t60_2 t61_2 p_2 players_2 k2) (w64 (t62_2 + 1))))
    else (pR people_2 p_2 players_2)

def pQ (p_100 : aM) (players_100 : List Int) : Option Bool :=
    (slices_Sort_int players_100).bind fun r12 =>
    (pJ p_100).bind fun r13 =>
    (pC r12).bind fun r14 =>
    (bif !r14 then (some true) else ((pC r13).bind fun r15 =>
    some (!r15))).bind fun b16 =>
    bif b16 then (some false)
    else (jV r13 p_100.Tree.Slots (p_100.Tree.Slots.length : Int) p_100 r12 BIG 0)

def kU (t18_0 : List bE) (t19_0 : Int) (p_0 : aM) : Nat → Int → (List Int) → Option Bool
  | 0, _, _ => none
  | k0 + 1, t20_0, players_0 =>
    bif decide (t20_0 < t19_0) then ((idx t18_0 t20_0).bind fun x3 =>
    (gY x3.Player 0 999).bind fun r5 =>
    (bif !r5 then (some true) else ((gY x3.One 0 999).bind fun r6 =>
    some (!r6))).bind fun b7 =>
    (bif b7 then (some true) else ((gY x3.Two (-1) 999).bind fun r8 =>
    some (!r8))).bind fun b9 =>
    bif b9 then (some false)
    else ((app 8 players_0 ([x3.Player])).bind fun x10 =>
    (kU t18_0 t19_0 p_0 k0) (w64 (t20_0 + 1)) x10))
    else (pQ p_0 players_0)

def sW (p_0 : aM) : Option Bool :=
    bif decide (64 < (p_0.Teams.length : Int)) then (some false)
    else (kU p_0.Teams (p_0.Teams.length : Int) p_0 BIG 0 ([] : List Int))

def mK (s_0 : List aG) : Option ((List aG)) :=
    (app 32 ([] : List aG) s_0).bind fun x5 =>
    some x5

def gS (again0 : Int → (List aG) → Option ((List aG))) (a_101 : Int) (b_101 : Int) (cmp_101 : aG → aG → Option Int) (i_101 : Int) (data_101 : List aG) : Option ((List aG)) :=
    again0 (w64 (i_101 + 1)) data_101

def gT (again0 : Int → (List aG) → Option ((List aG))) (a_102 : Int) (b_102 : Int) (cmp_102 : aG → aG → Option Int) (i_102 : Int) (data_102 : List aG) : Option ((List aG)) :=
    gS again0 a_102 b_102 cmp_102 i_102 data_102

def cZ (again0 : Int → (List aG) → Option ((List aG))) (a_2 : Int) (b_2 : Int) (cmp_2 : aG → aG → Option Int) (i_2 : Int) : Nat → Int → (List aG) → Option ((List aG))
  | 0, _, _ => none
  | k2 + 1, j_2, data_2 =>
    (bif decide (a_2 < j_2) then ((idx data_2 j_2).bind fun x1 =>
    (idx data_2 (w64 (j_2 - 1))).bind fun x2 =>
    (cmp_2 x1 x2).bind fun r3 =>
    some (decide (r3 < 0))) else (some false)).bind fun b4 =>
    bif b4 then ((idx data_2 (w64 (j_2 - 1))).bind fun x5 =>
    (idx data_2 j_2).bind fun x6 =>
    (idx data_2 j_2).bind fun x7 =>
    (idx (data_2.set j_2.toNat x5) (w64 (j_2 - 1))).bind fun x8 =>
    (cZ again0 a_2 b_2 cmp_2 i_2 k2) (w64 (j_2 - 1)) ((data_2.set j_2.toNat x5).set (w64 (j_2 - 1)).toNat x6))
    else (gT again0 a_2 b_2 cmp_2 i_2 data_2)

def gR (data_100 : List aG) : Option ((List aG)) :=
    some data_100

def cM (a_0 : Int) (b_0 : Int) (cmp_0 : aG → aG → Option Int) : Nat → Int → (List aG) → Option ((List aG))
  | 0, _, _ => none
  | k0 + 1, i_0, data_0 =>
    bif decide (i_0 < b_0) then (cZ (cM a_0 b_0 cmp_0 k0) a_0 b_0 cmp_0 i_0 BIG i_0 data_0)
    else (gR data_0)

def dO (data_0 : List aG) (a_1 : Int) (b_2 : Int) (cmp_3 : aG → aG → Option Int) : Option ((List aG)) :=
    cM a_1 b_2 cmp_3 BIG (w64 (a_1 + 1)) data_0

def kP (data_100 : List aG) : Option ((List aG)) :=
    some data_100

def eA (a_0 : Int) (b_0 : Int) (n_0 : Int) : Nat → Int → (List aG) → Option ((List aG))
  | 0, _, _ => none
  | k0 + 1, i_0, data_0 =>
    bif decide (i_0 < n_0) then ((idx data_0 (w64 (b_0 + i_0))).bind fun x1 =>
    (idx data_0 (w64 (a_0 + i_0))).bind fun x2 =>
    (idx data_0 (w64 (a_0 + i_0))).bind fun x3 =>
    (idx (data_0.set (w64 (a_0 + i_0)).toNat x1) (w64 (b_0 + i_0))).bind fun x4 =>
    (eA a_0 b_0 n_0 k0) (w64 (i_0 + 1)) ((data_0.set (w64 (a_0 + i_0)).toNat x1).set (w64 (b_0 + i_0)).toNat x2))
    else (kP data_0)

def eO (data_0 : List aG) (a_1 : Int) (b_2 : Int) (n_3 : Int) (cmp_4 : aG → aG → Option Int) : Option ((List aG)) :=
    eA a_1 b_2 n_3 BIG 0 data_0

def lW (m_100 : Int) (cmp_100 : aG → aG → Option Int) (i_100 : Int) (data_100 : List aG) : Option ((List aG)) :=
    (eO data_100 (w64 (m_100 - i_100)) m_100 i_100 cmp_100).bind fun r3 =>
    some r3

def dD (m_0 : Int) (cmp_0 : aG → aG → Option Int) : Nat → Int → Int → (List aG) → Option ((List aG))
  | 0, _, _, _ => none
  | k0 + 1, i_0, j_0, data_0 =>
    bif !decide (i_0 = j_0) then (bif decide (j_0 < i_0) then ((eO data_0 (w64 (m_0 - i_0)) m_0 j_0 cmp_0).bind fun r1 =>
    (dD m_0 cmp_0 k0) (w64 (i_0 - j_0)) j_0 r1)
    else ((eO data_0 (w64 (m_0 - i_0)) (w64 ((w64 (m_0 + j_0)) - i_0)) i_0 cmp_0).bind fun r2 =>
    (dD m_0 cmp_0 k0) i_0 (w64 (j_0 - i_0)) r2))
    else (lW m_0 cmp_0 i_0 data_0)

def gB (data_0 : List aG) (a_1 : Int) (m_2 : Int) (b_3 : Int) (cmp_4 : aG → aG → Option Int) : Option ((List aG)) :=
    dD m_2 cmp_4 BIG (w64 (m_2 - a_1)) (w64 (b_3 - m_2)) data_0

def kY (againR : (List aG) → Int → Int → Int → Option ((List aG))) (data_102 : List aG) : Option ((List aG)) :=
    some data_102

def eF (againR : (List aG) → Int → Int → Int → Option ((List aG))) (i_2 : Int) : Nat → Int → (List aG) → Option ((List aG))
  | 0, _, _ => none
  | k2 + 1, k_2, data_2 =>
    bif decide (k_2 < (w64 (i_2 - 1))) then ((idx data_2 (w64 (k_2 + 1))).bind fun x4 =>
    (idx data_2 k_2).bind fun x5 =>
    (idx data_2 k_2).bind fun x6 =>
    (idx (data_2.set k_2.toNat x4) (w64 (k_2 + 1))).bind fun x7 =>
    (eF againR i_2 k2) (w64 (k_2 + 1)) ((data_2.set k_2.toNat x4).set (w64 (k_2 + 1)).toNat x5))
    else (kY againR data_2)

def iT (againR : (List aG) → Int → Int → Int → Option ((List aG))) (a_100 : Int) (i_100 : Int) (data_100 : List aG) : Option ((List aG)) :=
    eF againR i_100 BIG a_100 data_100

def cX (againR : (List aG) → Int → Int → Int → Option ((List aG))) (a_0 : Int) (cmp_0 : aG → aG → Option Int) (data_0 : List aG) : Nat → Int → Int → Option ((List aG))
  | 0, _, _ => none
  | k0 + 1, i_0, j_0 =>
    bif decide (i_0 < j_0) then ((idx data_0 (w64 ((IntKind.u64.wrap (w64 (i_0 + j_0))).fdiv (2 ^ (min (1 : Int).toNat 64))))).bind fun x1 =>
    (idx data_0 a_0).bind fun x2 =>
    (cmp_0 x1 x2).bind fun r3 =>
    bif decide (r3 < 0) then ((cX againR a_0 cmp_0 data_0 k0) (w64 ((w64 ((IntKind.u64.wrap (w64 (i_0 + j_0))).fdiv (2 ^ (min (1 : Int).toNat 64)))) + 1)) j_0)
    else ((cX againR a_0 cmp_0 data_0 k0) i_0 (w64 ((IntKind.u64.wrap (w64 (i_0 + j_0))).fdiv (2 ^ (min (1 : Int).toNat 64))))))
    else (iT againR a_0 i_0 data_0)

def kZ (againR : (List aG) → Int → Int → Int → Option ((List aG))) (data_106 : List aG) : Option ((List aG)) :=
    some data_106

def eG (againR : (List aG) → Int → Int → Int → Option ((List aG))) (i_6 : Int) : Nat → Int → (List aG) → Option ((List aG))
  | 0, _, _ => none
  | k6 + 1, k_6, data_6 =>
    bif decide (i_6 < k_6) then ((idx data_6 (w64 (k_6 - 1))).bind fun x11 =>
    (idx data_6 k_6).bind fun x12 =>
    (idx data_6 k_6).bind fun x13 =>
    (idx (data_6.set k_6.toNat x11) (w64 (k_6 - 1))).bind fun x14 =>
    (eG againR i_6 k6) (w64 (k_6 - 1)) ((data_6.set k_6.toNat x11).set (w64 (k_6 - 1)).toNat x12))
    else (kZ againR data_6)

def iU (againR : (List aG) → Int → Int → Int → Option ((List aG))) (m_104 : Int) (i_104 : Int) (data_104 : List aG) : Option ((List aG)) :=
    eG againR i_104 BIG m_104 data_104

def cY (againR : (List aG) → Int → Int → Int → Option ((List aG))) (m_4 : Int) (cmp_4 : aG → aG → Option Int) (data_4 : List aG) : Nat → Int → Int → Option ((List aG))
  | 0, _, _ => none
  | k4 + 1, i_4, j_4 =>
    bif decide (i_4 < j_4) then ((idx data_4 m_4).bind fun x8 =>
    (idx data_4 (w64 ((IntKind.u64.wrap (w64 (i_4 + j_4))).fdiv (2 ^ (min (1 : Int).toNat 64))))).bind fun x9 =>
    (cmp_4 x8 x9).bind fun r10 =>
    bif !(decide (r10 < 0)) then ((cY againR m_4 cmp_4 data_4 k4) (w64 ((w64 ((IntKind.u64.wrap (w64 (i_4 + j_4))).fdiv (2 ^ (min (1 : Int).toNat 64)))) + 1)) j_4)
    else ((cY againR m_4 cmp_4 data_4 k4) i_4 (w64 ((IntKind.u64.wrap (w64 (i_4 + j_4))).fdiv (2 ^ (min (1 : Int).toNat 64))))))
    else (iU againR m_4 i_4 data_4)

def dG (againR : (List aG) → Int → Int → Int → Option ((List aG))) (a_108 : Int) (m_108 : Int) (b_108 : Int) (cmp_108 : aG → aG → Option Int) (mid_108 : Int) (n_108 : Int) (start_108 : Int) (data_108 : List aG) : Option ((List aG)) :=
    (bif decide (start_108 < m_108) then (some (decide (m_108 < (w64 (n_108 - start_108))))) else (some false)).bind fun b18 =>
    bif b18 then ((gB data_108 start_108 m_108 (w64 (n_108 - start_108)) cmp_108).bind fun r19 =>
    (bif decide (a_108 < start_108) then (some (decide (start_108 < mid_108))) else (some false)).bind fun b20 =>
    bif b20 then ((againR r19 a_108 start_108 mid_108).bind fun r21 =>
    (bif decide (mid_108 < (w64 (n_108 - start_108))) then (some (decide ((w64 (n_108 - start_108)) < b_108))) else (some false)).bind fun b22 =>
    bif b22 then ((againR r21 mid_108 (w64 (n_108 - start_108)) b_108).bind fun r23 =>
    some r23)
    else (some r21))
    else ((bif decide (mid_108 < (w64 (n_108 - start_108))) then (some (decide ((w64 (n_108 - start_108)) < b_108))) else (some false)).bind fun b24 =>
    bif b24 then ((againR r19 mid_108 (w64 (n_108 - start_108)) b_108).bind fun r25 =>
    some r25)
    else (some r19)))
    else ((bif decide (a_108 < start_108) then (some (decide (start_108 < mid_108))) else (some false)).bind fun b26 =>
    bif b26 then ((againR data_108 a_108 start_108 mid_108).bind fun r27 =>
    (bif decide (mid_108 < (w64 (n_108 - start_108))) then (some (decide ((w64 (n_108 - start_108)) < b_108))) else (some false)).bind fun b28 =>
    bif b28 then ((againR r27 mid_108 (w64 (n_108 - start_108)) b_108).bind fun r29 =>
    some r29)
    else (some r27))
    else ((bif decide (mid_108 < (w64 (n_108 - start_108))) then (some (decide ((w64 (n_108 - start_108)) < b_108))) else (some false)).bind fun b30 =>
    bif b30 then ((againR data_108 mid_108 (w64 (n_108 - start_108)) b_108).bind fun r31 =>
    some r31)
    else (some data_108)))

def cH (againR : (List aG) → Int → Int → Int → Option ((List aG))) (a_8 : Int) (m_8 : Int) (b_8 : Int) (cmp_8 : aG → aG → Option Int) (mid_8 : Int) (n_8 : Int) (p_8 : Int) (data_8 : List aG) : Nat → Int → Int → Option ((List aG))
  | 0, _, _ => none
  | k8 + 1, start_8, r_8 =>
    bif decide (start_8 < r_8) then ((idx data_8 (w64 (p_8 - (w64 ((IntKind.u64.wrap (w64 (start_8 + r_8))).fdiv (2 ^ (min (1 : Int).toNat 64))))))).bind fun x15 =>
    (idx data_8 (w64 ((IntKind.u64.wrap (w64 (start_8 + r_8))).fdiv (2 ^ (min (1 : Int).toNat 64))))).bind fun x16 =>
    (cmp_8 x15 x16).bind fun r17 =>
    bif !(decide (r17 < 0)) then ((cH againR a_8 m_8 b_8 cmp_8 mid_8 n_8 p_8 data_8 k8) (w64 ((w64 ((IntKind.u64.wrap (w64 (start_8 + r_8))).fdiv (2 ^ (min (1 : Int).toNat 64)))) + 1)) r_8)
    else ((cH againR a_8 m_8 b_8 cmp_8 mid_8 n_8 p_8 data_8 k8) start_8 (w64 ((IntKind.u64.wrap (w64 (start_8 + r_8))).fdiv (2 ^ (min (1 : Int).toNat 64))))))
    else (dG againR a_8 m_8 b_8 cmp_8 mid_8 n_8 start_8 data_8)

def bJ (cmp_4 : aG → aG → Option Int) : Nat → (List aG) → Int → Int → Int → Option ((List aG))
  | 0, _, _, _, _ => none
  | kr + 1, data_0, a_1, m_2, b_3 =>
    bif decide ((w64 (m_2 - a_1)) = 1) then (cX (bJ cmp_4 kr) a_1 cmp_4 data_0 BIG m_2 b_3)
    else (bif decide ((w64 (b_3 - m_2)) = 1) then (cY (bJ cmp_4 kr) m_2 cmp_4 data_0 BIG a_1 m_2)
    else (bif decide ((w64 ((IntKind.u64.wrap (w64 (a_1 + b_3))).fdiv (2 ^ (min (1 : Int).toNat 64)))) < m_2) then (cH (bJ cmp_4 kr) a_1 m_2 b_3 cmp_4 (w64 ((IntKind.u64.wrap (w64 (a_1 + b_3))).fdiv (2 ^ (min (1 : Int).toNat 64)))) (w64 ((w64 ((IntKind.u64.wrap (w64 (a_1 + b_3))).fdiv (2 ^ (min (1 : Int).toNat 64)))) + m_2)) (w64 ((w64 ((w64 ((IntKind.u64.wrap (w64 (a_1 + b_3))).fdiv (2 ^ (min (1 : Int).toNat 64)))) + m_2)) - 1)) data_0 BIG (w64 ((w64 ((w64 ((IntKind.u64.wrap (w64 (a_1 + b_3))).fdiv (2 ^ (min (1 : Int).toNat 64)))) + m_2)) - b_3)) (w64 ((IntKind.u64.wrap (w64 (a_1 + b_3))).fdiv (2 ^ (min (1 : Int).toNat 64)))))
    else (cH (bJ cmp_4 kr) a_1 m_2 b_3 cmp_4 (w64 ((IntKind.u64.wrap (w64 (a_1 + b_3))).fdiv (2 ^ (min (1 : Int).toNat 64)))) (w64 ((w64 ((IntKind.u64.wrap (w64 (a_1 + b_3))).fdiv (2 ^ (min (1 : Int).toNat 64)))) + m_2)) (w64 ((w64 ((w64 ((IntKind.u64.wrap (w64 (a_1 + b_3))).fdiv (2 ^ (min (1 : Int).toNat 64)))) + m_2)) - 1)) data_0 BIG a_1 m_2)))

def jR (data_0 : List aG) (a_1 : Int) (m_2 : Int) (b_3 : Int) (cmp_4 : aG → aG → Option Int) : Option ((List aG)) := bJ cmp_4 BIG data_0 a_1 m_2 b_3

def hJ (again2 : Int → (List aG) → Option ((List aG))) (n_103 : Int) (cmp_103 : aG → aG → Option Int) (blockSize_103 : Int) (data_103 : List aG) : Option ((List aG)) :=
    again2 blockSize_103 data_103

def lZ (again2 : Int → (List aG) → Option ((List aG))) (n_104 : Int) (cmp_104 : aG → aG → Option Int) (blockSize_104 : Int) (a_104 : Int) (data_104 : List aG) : Option ((List aG)) :=
    bif decide ((w64 (a_104 + blockSize_104)) < n_104) then ((jR data_104 a_104 (w64 (a_104 + blockSize_104)) n_104 cmp_104).bind fun r4 =>
    hJ again2 n_104 cmp_104 (w64 (blockSize_104 * 2)) r4)
    else (hJ again2 n_104 cmp_104 (w64 (blockSize_104 * 2)) data_104)

def eN (again2 : Int → (List aG) → Option ((List aG))) (n_4 : Int) (cmp_4 : aG → aG → Option Int) (blockSize_4 : Int) : Nat → Int → Int → (List aG) → Option ((List aG))
  | 0, _, _, _ => none
  | k4 + 1, a_4, b_4, data_4 =>
    bif decide (b_4 ≤ n_4) then ((jR data_4 a_4 (w64 (a_4 + blockSize_4)) b_4 cmp_4).bind fun r3 =>
    (eN again2 n_4 cmp_4 blockSize_4 k4) b_4 (w64 (b_4 + (w64 (2 * blockSize_4)))) r3)
    else (lZ again2 n_4 cmp_4 blockSize_4 a_4 data_4)

def lY (data_102 : List aG) : Option ((List aG)) :=
    some data_102

def dE (n_2 : Int) (cmp_2 : aG → aG → Option Int) : Nat → Int → (List aG) → Option ((List aG))
  | 0, _, _ => none
  | k2 + 1, blockSize_2, data_2 =>
    bif decide (blockSize_2 < n_2) then (eN (dE n_2 cmp_2 k2) n_2 cmp_2 blockSize_2 BIG 0 (w64 (2 * blockSize_2)) data_2)
    else (lY data_2)

def lX (n_100 : Int) (cmp_100 : aG → aG → Option Int) (blockSize_100 : Int) (a_100 : Int) (data_100 : List aG) : Option ((List aG)) :=
    (dO data_100 a_100 n_100 cmp_100).bind fun r2 =>
    dE n_100 cmp_100 BIG blockSize_100 r2

def eM (n_0 : Int) (cmp_0 : aG → aG → Option Int) (blockSize_0 : Int) : Nat → Int → Int → (List aG) → Option ((List aG))
  | 0, _, _, _ => none
  | k0 + 1, a_0, b_0, data_0 =>
    bif decide (b_0 ≤ n_0) then ((dO data_0 a_0 b_0 cmp_0).bind fun r1 =>
    (eM n_0 cmp_0 blockSize_0 k0) b_0 (w64 (b_0 + blockSize_0)) r1)
    else (lX n_0 cmp_0 blockSize_0 a_0 data_0)

def kF (data_0 : List aG) (n_1 : Int) (cmp_2 : aG → aG → Option Int) : Option ((List aG)) :=
    eM n_1 cmp_2 20 BIG 0 20 data_0

def iI (x_0 : List aG) (cmp_1 : aG → aG → Option Int) : Option ((List aG)) :=
    (kF x_0 (x_0.length : Int) cmp_1).bind fun r1 =>
    some r1

def sX (a_0 : aG) (b_1 : aG) : Option Int :=
    some (w64 (a_0.Id - b_1.Id))

def pN (again0 : Int → (List aG) → Option ((List aG))) (k_102 : Int) (s_102 : List aG) : Option ((List aG)) :=
    (chk (decide (0 ≤ k_102) && decide (k_102 ≤ (s_102.length : Int)))).bind fun u9 =>
    (chk (decide (k_102.toNat ≤ s_102.length))).bind fun u10 =>
    (chk (decide (0 ≤ k_102))).bind fun u11 =>
    some (s_102.take k_102.toNat)

def fF (again0 : Int → (List aG) → Option ((List aG))) (s2_2 : Int) : Nat → Int → Int → (List aG) → Option ((List aG))
  | 0, _, _, _ => none
  | k2 + 1, k_2, k2_2, s_2 =>
    bif decide (k2_2 < ((s_2.drop s2_2.toNat).length : Int)) then ((idx (s_2.drop s2_2.toNat) k2_2).bind fun x5 =>
    (idx (s_2.drop s2_2.toNat) (w64 (k2_2 - 1))).bind fun x6 =>
    bif !decide (x5 = x6) then ((idx (s_2.drop s2_2.toNat) k2_2).bind fun x7 =>
    (idx s_2 k_2).bind fun x8 =>
    (fF again0 s2_2 k2) (w64 (k_2 + 1)) (w64 (k2_2 + 1)) (s_2.set k_2.toNat x7))
    else ((fF again0 s2_2 k2) k_2 (w64 (k2_2 + 1)) s_2))
    else (pN again0 k_2 s_2)

def pM (again0 : Int → (List aG) → Option ((List aG))) (k_101 : Int) (s_101 : List aG) : Option ((List aG)) :=
    again0 (w64 (k_101 + 1)) s_101

def pL (s_100 : List aG) : Option ((List aG)) :=
    some s_100

def dT : Nat → Int → (List aG) → Option ((List aG))
  | 0, _, _ => none
  | k0 + 1, k_0, s_0 =>
    bif decide (k_0 < (s_0.length : Int)) then ((idx s_0 k_0).bind fun x2 =>
    (idx s_0 (w64 (k_0 - 1))).bind fun x3 =>
    bif decide (x2 = x3) then ((chk (decide (0 ≤ k_0) && decide (k_0 ≤ (s_0.length : Int)))).bind fun u4 =>
    fF (dT k0) k_0 BIG k_0 1 s_0)
    else (pM (dT k0) k_0 s_0))
    else (pL s_0)

def kS (s_0 : List aG) : Option ((List aG)) :=
    bif decide ((s_0.length : Int) < 2) then (some s_0)
    else (dT BIG 1 s_0)

def aAy (o7_100 : List aG) : Option ((List aG) × Bool) :=
    (kS o7_100).bind fun r11 =>
    some (r11, true)

def lO (o7_0 : List aG) : Nat → Int → Option ((List aG) × Bool)
  | 0, _ => none
  | k0 + 1, i_0 =>
    bif decide (i_0 < (o7_0.length : Int)) then ((idx o7_0 i_0).bind fun x6 =>
    (idx o7_0 (w64 (i_0 - 1))).bind fun x7 =>
    (bif decide (x6.Id = x7.Id) then ((idx o7_0 i_0).bind fun x8 =>
    (idx o7_0 (w64 (i_0 - 1))).bind fun x9 =>
    some (!decide (x8 = x9))) else (some false)).bind fun b10 =>
    bif b10 then (some (([] : List aG), false))
    else ((lO o7_0 k0) (w64 (i_0 + 1))))
    else (aAy o7_0)

def oF (all_0 : List aG) : Option ((List aG) × Bool) :=
    (mK all_0).bind fun r1 =>
    (iI r1 (fun y3 y4 => sX y3 y4)).bind fun r5 =>
    lO r5 BIG 1

def sN (p_100 : aM) : Option Bool :=
    (oF p_100.Items).bind fun r19 =>
    (bif r19.2 then (some (decide ((p_100.Items.length : Int) ≤ 40))) else (some false)).bind fun b20 =>
    some b20

def jU (people_0 : List Int) (t12_0 : List aG) (t13_0 : Int) (p_0 : aM) : Nat → Int → Option Bool
  | 0, _ => none
  | k0 + 1, t14_0 =>
    bif decide (t14_0 < t13_0) then ((idx t12_0 t14_0).bind fun x3 =>
    bif decide (x3.Kind = 2) then ((bif !decide (x3.Kind = 1) then (some (!decide (x3.Kind = 2))) else (some false)).bind fun b5 =>
    (bif b5 then (some true) else ((gY x3.Id 0 99).bind fun r6 =>
    some (!r6))).bind fun b7 =>
    (bif b7 then (some true) else ((dH people_0 x3.Person).bind fun r8 =>
    some (!r8))).bind fun b9 =>
    (bif b9 then (some true) else ((gY x3.Amount 0 30).bind fun r10 =>
    some (!r10))).bind fun b11 =>
    bif b11 then (some false)
    else ((jU people_0 t12_0 t13_0 p_0 k0) (w64 (t14_0 + 1))))
    else ((bif !decide (x3.Kind = 1) then (some (!decide (x3.Kind = 2))) else (some false)).bind fun b12 =>
    (bif b12 then (some true) else ((gY x3.Id 0 99).bind fun r13 =>
    some (!r13))).bind fun b14 =>
    (bif b14 then (some true) else ((dH people_0 x3.Person).bind fun r15 =>
    some (!r15))).bind fun b16 =>
    (bif b16 then (some true) else ((gY x3.Amount 0 10000000).bind fun r17 =>
    some (!r17))).bind fun b18 =>
    bif b18 then (some false)
    else ((jU people_0 t12_0 t13_0 p_0 k0) (w64 (t14_0 + 1)))))
    else (sN p_0)

def sV (p_0 : aM) : Option Bool :=
    (pJ p_0).bind fun r2 =>
    jU r2 p_0.Items (p_0.Items.length : Int) p_0 BIG 0

def uV (a0 : aQ) (a1 : List aF) : Option Int := fY a0 a1

def oE (p_0 : aM) : Option Int :=
    (uV p_0.Tree p_0.Slips).bind fun r2 =>
    bif !decide (r2 = 0) then (some r2)
    else ((uJ p_0).bind fun r3 =>
    bif !r3 then (some 100)
    else ((sW p_0).bind fun r4 =>
    bif !r4 then (some 101)
    else ((sV p_0).bind fun r5 =>
    bif !r5 then (some 102)
    else (some 0))))

def aHd (n_102 : Int) : Option (Int × Int) :=
    some (n_102, 0)

def nE (t44_2 : List Int) (t45_2 : Int) (p_2 : aM) : Nat → Int → Int → Option (Int × Int)
  | 0, _, _ => none
  | k2 + 1, n_2, t46_2 =>
    bif decide (t46_2 < t45_2) then ((idx t44_2 t46_2).bind fun x6 =>
    bif decide (x6 = (-1)) then ((idx p_2.Prizes 0).bind fun x7 =>
    (nE t44_2 t45_2 p_2 k2) (w64 (n_2 - x7)) (w64 (t46_2 + 1)))
    else ((nE t44_2 t45_2 p_2 k2) n_2 (w64 (t46_2 + 1))))
    else (aHd n_2)

def wY (n_100 : Int) (p_100 : aM) : Option (Int × Int) :=
    nE p_100.Tree.Slots (p_100.Tree.Slots.length : Int) p_100 BIG n_100 0

def nD (t23_0 : Int) (p_0 : aM) : Nat → Int → Int → Option (Int × Int)
  | 0, _, _ => none
  | k0 + 1, n_0, t24_0 =>
    bif decide (t24_0 < t23_0) then ((idx p_0.Prizes t24_0).bind fun x4 =>
    (chk (decide (0 ≤ (w64 ((w64 (p_0.Tree.Rounds - 1)) - t24_0))))).bind fun u5 =>
    (nD t23_0 p_0 k0) (w64 (n_0 + (w64 (x4 * 2 ^ (min (w64 ((w64 (p_0.Tree.Rounds - 1)) - t24_0)).toNat 64))))) (w64 (t24_0 + 1)))
    else (wY n_0 p_0)

def yP (p_0 : aM) : Option (Int × Int) :=
    (oE p_0).bind fun r2 =>
    bif !decide (r2 = 0) then (some (0, r2))
    else ((idx p_0.Prizes p_0.Tree.Rounds).bind fun x3 =>
    nD p_0.Tree.Rounds p_0 BIG x3 0)

def tD : Option Int :=
    some (-1)

def fN (s_0 : List bE) (f_0 : bE → Option Bool) (t7_0 : Int) : Nat → Int → Option Int
  | 0, _ => none
  | k0 + 1, t8_0 =>
    bif decide (t8_0 < t7_0) then ((idx s_0 t8_0).bind fun x1 =>
    (f_0 x1).bind fun r2 =>
    bif r2 then (some t8_0)
    else ((fN s_0 f_0 t7_0 k0) (w64 (t8_0 + 1))))
    else (tD)

def mM (s_0 : List bE) (f_1 : bE → Option Bool) : Option Int :=
    fN s_0 f_1 (s_0.length : Int) BIG 0

def uI (t_0 : bE) (c_1 : Int) : Option Bool :=
    (bif decide (t_0.One = c_1) then (some true) else ((bif decide (t_0.Two = c_1) then (some (!decide (t_0.Two = (-1)))) else (some false)).bind fun b2 =>
    some b2)).bind fun b3 =>
    some b3

def zD (againQ : ((Option bH) × (List Int) × Int) → Prop) (d_100 : Option bH) (slots_100 : List Int) : Prop :=
    againQ (d_100, slots_100, 0)

def nS (againQ : ((Option bH) × (List Int) × Int) → Prop) (t20_0 : List Int) (t21_0 : Int) : Nat → (Option bH) → Int → (List Int) → Prop
  | 0, _, _, _ => False
  | k0 + 1, d_0, t22_0, slots_0 =>
    bif decide (t22_0 < t21_0) then (nb (idx t20_0 t22_0) fun x5 =>
    nb (gP x5 0 999) fun r6 =>
    bif !r6 then (againQ ((none : Option bH), ([] : List Int), 1))
    else (nb (d_0) fun x8 =>
    nb (iL x8.players x5) fun r9 =>
    nb (app 8 slots_0 ([r9])) fun x10 =>
    (nS againQ t20_0 t21_0 k0) d_0 (w64 (t22_0 + 1)) x10))
    else (zD againQ d_0 slots_0)

def rY (t_0 : aQ) (l_1 : List aF) (players_2 : List Int) (Q : ((Option bH) × (List Int) × Int) → Prop) : Prop :=
    oJ t_0 l_1 fun r3 =>
    bif !decide (r3.2 = 0) then (Q ((none : Option bH), ([] : List Int), r3.2))
    else (nS Q players_2 (players_2.length : Int) BIG r3.1 0 ([] : List Int))

def uP (d_100 : bH) : Option Int :=
    some d_100.Tree.Rounds

def jX (d_0 : bH) (slot_0 : Int) (t12_0 : Int) : Nat → Int → Option Int
  | 0, _ => none
  | k0 + 1, t13_0 =>
    bif decide (t13_0 < t12_0) then ((pZ t13_0 slot_0).bind fun r1 =>
    (bif !(eE r1 d_0.won) then (some true) else ((idx d_0.players slot_0).bind fun x2 =>
    some (!decide ((dA r1 0 d_0.won) = x2)))).bind fun b3 =>
    bif b3 then (some t13_0)
    else ((jX d_0 slot_0 t12_0 k0) (w64 (t13_0 + 1))))
    else (uP d_0)

def qX (d_0 : bH) (slot_1 : Int) : Option Int :=
    jX d_0 slot_1 d_0.Tree.Rounds BIG 0

def uO (d_100 : bH) : Option Int :=
    some d_100.Tree.Rounds

def jW (d_0 : bH) (slot_0 : Int) (t12_0 : Int) : Nat → Int → Option Int
  | 0, _ => none
  | k0 + 1, t13_0 =>
    bif decide (t13_0 < t12_0) then ((pZ t13_0 slot_0).bind fun r1 =>
    (bif eE r1 d_0.won then ((idx d_0.players slot_0).bind fun x2 =>
    some (!decide ((dA r1 0 d_0.won) = x2))) else (some false)).bind fun b3 =>
    bif b3 then (some t13_0)
    else ((jW d_0 slot_0 t12_0 k0) (w64 (t13_0 + 1))))
    else (uO d_0)

def qW (d_0 : bH) (slot_1 : Int) : Option Int :=
    jW d_0 slot_1 d_0.Tree.Rounds BIG 0

def rQ (t_0 : aQ) (l_1 : List aF) (player_2 : Int) (Q : (cN × Int) → Prop) : Prop :=
    rY t_0 l_1 ([player_2]) fun r3 =>
    bif !decide (r3.2.2 = 0) then (Q ((cN.mk 0 0), r3.2.2))
    else (nb (idx r3.2.1 0) fun x4 =>
    bif decide (x4 < 0) then (Q ((cN.mk 0 0), 3))
    else (nb (r3.1) fun x5 =>
    nb (idx r3.2.1 0) fun x6 =>
    nb (qX x5 x6) fun r7 =>
    nb (idx r3.2.1 0) fun x8 =>
    nb (qW x5 x8) fun r9 =>
    Q ((cN.mk r7 r9), 0)))

def rP (prize_0 : Int) (c_1 : bE) (c_2 : Int) : Option Int :=
    bif decide (c_1.Two = (-1)) then (some prize_0)
    else (bif decide (c_1.One = c_2) then (some (w64 ((w64 (prize_0 + 1)).tdiv 2)))
    else (some (w64 (prize_0.tdiv 2))))

def aAh : Option Int :=
    some (-1)

def oQ (player_0 : Int) (d_0 : aT) : Nat → Int → Option Int
  | 0, _ => none
  | k0 + 1, s_0 =>
    bif decide (s_0 < (d_0.Slots.length : Int)) then ((idx d_0.Slots s_0).bind fun x2 =>
    bif decide (x2 = player_0) then (some s_0)
    else ((oQ player_0 d_0 k0) (w64 (s_0 + 1))))
    else (aAh)

def yH (d_0 : aT) (player_1 : Int) : Option Int :=
    oQ player_1 d_0 BIG 0

def uR (n_100 : Int) : Option Int :=
    some n_100

def nK (slot_0 : Int) (t_0 : aQ) (d_0 : aT) : Nat → Int → Option Int
  | 0, _ => none
  | k0 + 1, n_0 =>
    (bif decide (n_0 < t_0.Rounds) then ((idx d_0.Must n_0).bind fun x3 =>
    (chk (decide (0 ≤ (IntKind.u64.wrap (w64 (n_0 + 1)))))).bind fun u4 =>
    (idx x3 (slot_0.fdiv (2 ^ (min (IntKind.u64.wrap (w64 (n_0 + 1))).toNat 64)))).bind fun x5 =>
    (idx d_0.Slots slot_0).bind fun x6 =>
    some (decide (x5 = x6))) else (some false)).bind fun b7 =>
    bif b7 then ((nK slot_0 t_0 d_0 k0) (w64 (n_0 + 1)))
    else (uR n_0)

def xH (t_0 : aQ) (d_1 : aT) (slot_2 : Int) : Option Int :=
    nK slot_2 t_0 d_1 BIG 0

def vG (n_100 : Int) : Option Int :=
    some n_100

def oO (slot_0 : Int) (t_0 : aQ) (d_0 : aT) : Nat → Int → Option Int
  | 0, _ => none
  | k0 + 1, n_0 =>
    (bif decide (n_0 < t_0.Rounds) then ((idx d_0.Must n_0).bind fun x3 =>
    (chk (decide (0 ≤ (IntKind.u64.wrap (w64 (n_0 + 1)))))).bind fun u4 =>
    (idx x3 (slot_0.fdiv (2 ^ (min (IntKind.u64.wrap (w64 (n_0 + 1))).toNat 64)))).bind fun x5 =>
    (bif decide (x5 = (-2)) then (some true) else ((idx d_0.Must n_0).bind fun x6 =>
    (chk (decide (0 ≤ (IntKind.u64.wrap (w64 (n_0 + 1)))))).bind fun u7 =>
    (idx x6 (slot_0.fdiv (2 ^ (min (IntKind.u64.wrap (w64 (n_0 + 1))).toNat 64)))).bind fun x8 =>
    (idx d_0.Slots slot_0).bind fun x9 =>
    some (decide (x8 = x9)))).bind fun b10 =>
    some b10) else (some false)).bind fun b11 =>
    bif b11 then ((oO slot_0 t_0 d_0 k0) (w64 (n_0 + 1)))
    else (vG n_0)

def yG (t_0 : aQ) (d_1 : aT) (slot_2 : Int) : Option Int :=
    oO slot_2 t_0 d_1 BIG 0

def kG (t_0 : aQ) (l_1 : List aF) (player_2 : Int) : Option (cN × Int) :=
    (fY t_0 l_1).bind fun r3 =>
    bif !decide (r3 = 0) then (some ((cN.mk 0 0), r3))
    else ((fA player_2 0 999).bind fun r4 =>
    bif !r4 then (some ((cN.mk 0 0), 1))
    else ((fW t_0 l_1).bind fun r5 =>
    (yH r5.1 player_2).bind fun r7 =>
    bif decide (r7 < 0) then (some ((cN.mk 0 0), 3))
    else ((xH t_0 r5.1 r7).bind fun r8 =>
    (yG t_0 r5.1 r7).bind fun r9 =>
    some ((cN.mk r8 r9), 0))))

def sM (a0 : aQ) (a1 : List aF) (a2 : Int) : Option (cN × Int) := kG a0 a1 a2

def uM (p_0 : aM) (person_1 : Int) : Option (cN × Bool) :=
    (mM p_0.Teams (fun y4 => uI y4 person_1)).bind fun r5 =>
    bif decide (r5 < 0) then (some ((cN.mk 0 0), false))
    else ((idx p_0.Teams r5).bind fun x6 =>
    (sM p_0.Tree p_0.Slips x6.Player).bind fun r8 =>
    bif !decide (r8.2 = 0) then (some ((cN.mk 0 0), true))
    else ((idx p_0.Prizes r8.1.Low).bind fun x10 =>
    (rP x10 x6 person_1).bind fun r11 =>
    (idx p_0.Prizes r8.1.High).bind fun x12 =>
    (rP x12 x6 person_1).bind fun r13 =>
    some ((cN.mk r11 r13), true)))

def wP (p_0 : aM) (person_1 : Int) : Option (cN × Int) :=
    (oE p_0).bind fun r3 =>
    bif !decide (r3 = 0) then (some ((cN.mk 0 0), r3))
    else ((uM p_0 person_1).bind fun r4 =>
    bif !r4.2 then (some ((cN.mk 0 0), 1))
    else (some (r4.1, 0)))

def xA (paid_105 : Int) (num_105 : Int) (den_105 : Int) (o4_105 : bC) (b_105 : bC) : Option bC :=
    (chk (!decide (den_105 = 0))).bind fun u13 =>
    (chk (!decide (num_105 = 0))).bind fun u14 =>
    some (bC.mk b_105.Person b_105.Gross b_105.Tax b_105.Daily b_105.Fines b_105.Debt (w64 ((w64 (paid_105 * num_105)).tdiv den_105)) (w64 ((w64 ((w64 ((w64 ((w64 ((w64 (paid_105 * num_105)).tdiv den_105)) * den_105)) + num_105)) - 1)).tdiv num_105)) (w64 (paid_105 - (w64 ((w64 ((w64 ((w64 ((w64 ((w64 (paid_105 * num_105)).tdiv den_105)) * den_105)) + num_105)) - 1)).tdiv num_105)))))

def nF (person_5 : Int) (paid_5 : Int) (t104_5 : List bT) (t105_5 : Int) (o4_5 : bC) (b_5 : bC) : Nat → Int → Int → Int → Option bC
  | 0, _, _, _ => none
  | k5 + 1, num_5, den_5, t106_5 =>
    bif decide (t106_5 < t105_5) then ((idx t104_5 t106_5).bind fun x11 =>
    bif decide (x11.Person = person_5) then ((nF person_5 paid_5 t104_5 t105_5 o4_5 b_5 k5) x11.Num x11.Den (w64 (t106_5 + 1)))
    else ((nF person_5 paid_5 t104_5 t105_5 o4_5 b_5 k5) num_5 den_5 (w64 (t106_5 + 1))))
    else (xA paid_5 num_5 den_5 o4_5 b_5)

def uH (person_102 : Int) (p_102 : aM) (o4_102 : bC) (b_102 : bC) : Option bC :=
    nF person_102 (max 0 (w64 ((w64 ((w64 (b_102.Gross + b_102.Daily)) - b_102.Tax)) - b_102.Fines))) p_102.Rates (p_102.Rates.length : Int) o4_102 (bC.mk b_102.Person b_102.Gross b_102.Tax b_102.Daily b_102.Fines (max 0 (w64 (-(w64 ((w64 ((w64 (b_102.Gross + b_102.Daily)) - b_102.Tax)) - b_102.Fines))))) b_102.Units b_102.Used b_102.Rest) BIG 1 1 0

def lN (person_2 : Int) (t55_2 : List aG) (t56_2 : Int) (p_2 : aM) (o4_2 : bC) : Nat → Int → bC → Option bC
  | 0, _, _ => none
  | k2 + 1, t57_2, b_2 =>
    bif decide (t57_2 < t56_2) then ((idx t55_2 t57_2).bind fun x9 =>
    bif !decide (x9.Person = person_2) then ((lN person_2 t55_2 t56_2 p_2 o4_2 k2) (w64 (t57_2 + 1)) b_2)
    else (bif decide (x9.Kind = 2) then ((lN person_2 t55_2 t56_2 p_2 o4_2 k2) (w64 (t57_2 + 1)) (bC.mk b_2.Person b_2.Gross b_2.Tax (w64 (b_2.Daily + (w64 (x9.Amount * p_2.Daily)))) b_2.Fines b_2.Debt b_2.Units b_2.Used b_2.Rest))
    else ((lN person_2 t55_2 t56_2 p_2 o4_2 k2) (w64 (t57_2 + 1)) (bC.mk b_2.Person b_2.Gross b_2.Tax b_2.Daily (w64 (b_2.Fines + x9.Amount)) b_2.Debt b_2.Units b_2.Used b_2.Rest))))
    else (uH person_2 p_2 o4_2 b_2)

def wZ (person_100 : Int) (p_100 : aM) (o4_100 : bC) (b_100 : bC) : Option bC :=
    (oF p_100.Items).bind fun r8 =>
    lN person_100 r8.1 (r8.1.length : Int) p_100 o4_100 BIG 0 b_100

def lM (person_0 : Int) (t31_0 : List cA) (t32_0 : Int) (p_0 : aM) (o4_0 : bC) : Nat → Int → bC → Option bC
  | 0, _, _ => none
  | k0 + 1, t33_0, b_0 =>
    bif decide (t33_0 < t32_0) then ((idx t31_0 t33_0).bind fun x6 =>
    bif decide (x6.Person = person_0) then ((lM person_0 t31_0 t32_0 p_0 o4_0 k0) (w64 (t33_0 + 1)) (bC.mk b_0.Person b_0.Gross (w64 ((w64 (b_0.Gross * x6.Mille)).tdiv 1000)) b_0.Daily b_0.Fines b_0.Debt b_0.Units b_0.Used b_0.Rest))
    else ((lM person_0 t31_0 t32_0 p_0 o4_0 k0) (w64 (t33_0 + 1)) b_0))
    else (wZ person_0 p_0 o4_0 b_0)

def wG (p_0 : aM) (person_1 : Int) : Option bC :=
    (uM p_0 person_1).bind fun r3 =>
    lM person_1 p_0.Levies (p_0.Levies.length : Int) p_0 (bC.mk 0 0 0 0 0 0 0 0 0) BIG 0 (bC.mk person_1 r3.1.Low 0 0 0 0 0 0 0)

def yO (p_0 : aM) (person_1 : Int) : Option (bC × Int) :=
    (wP p_0 person_1).bind fun r3 =>
    bif !decide (r3.2 = 0) then (some ((bC.mk 0 0 0 0 0 0 0 0 0), r3.2))
    else ((wG p_0 person_1).bind fun r5 =>
    some (r5, 0))

def aFc (out_100 : List bC) : Option ((List bC) × Int) :=
    some (out_100, 0)

def nY (t14_0 : List Int) (t15_0 : Int) (p_0 : aM) : Nat → Int → (List bC) → Option ((List bC) × Int)
  | 0, _, _ => none
  | k0 + 1, t16_0, out_0 =>
    bif decide (t16_0 < t15_0) then ((idx t14_0 t16_0).bind fun x5 =>
    (wG p_0 x5).bind fun r6 =>
    (app 72 out_0 ([r6])).bind fun x7 =>
    (nY t14_0 t15_0 p_0 k0) (w64 (t16_0 + 1)) x7)
    else (aFc out_0)

def mO (p_0 : aM) : Option ((List bC) × Int) :=
    (oE p_0).bind fun r2 =>
    bif !decide (r2 = 0) then (some (([] : List bC), r2))
    else ((pJ p_0).bind fun r4 =>
    nY r4 (r4.length : Int) p_0 BIG 0 ([] : List bC))

def aFd (o2_100 : bC) (sum_100 : bC) : Option (bC × Int) :=
    some (sum_100, 0)

def nZ (t19_0 : List bC) (t20_0 : Int) (o2_0 : bC) : Nat → Int → bC → Option (bC × Int)
  | 0, _, _ => none
  | k0 + 1, t21_0, sum_0 =>
    bif decide (t21_0 < t20_0) then ((idx t19_0 t21_0).bind fun x5 =>
    (nZ t19_0 t20_0 o2_0 k0) (w64 (t21_0 + 1)) (bC.mk sum_0.Person (w64 (sum_0.Gross + x5.Gross)) (w64 (sum_0.Tax + x5.Tax)) (w64 (sum_0.Daily + x5.Daily)) (w64 (sum_0.Fines + x5.Fines)) (w64 (sum_0.Debt + x5.Debt)) (w64 (sum_0.Units + x5.Units)) (w64 (sum_0.Used + x5.Used)) (w64 (sum_0.Rest + x5.Rest))))
    else (aFd o2_0 sum_0)

def wR (p_0 : aM) : Option (bC × Int) :=
    (mO p_0).bind fun r3 =>
    bif !decide (r3.2 = 0) then (some ((bC.mk 0 0 0 0 0 0 0 0 0), r3.2))
    else (nZ r3.1 (r3.1.length : Int) (bC.mk 0 0 0 0 0 0 0 0 0) BIG 0 (bC.mk (-1) 0 0 0 0 0 0 0 0))

def nV : Option Bool :=
    (oL).bind fun r1 =>
    (yP r1).bind fun r3 =>
    (yO r1 22).bind fun r4 =>
    (wR r1).bind fun r6 =>
    (bif decide (r3.2 = 0) then (some (decide (r4.2 = 0))) else (some false)).bind fun b8 =>
    (bif b8 then (some (decide (r6.2 = 0))) else (some false)).bind fun b9 =>
    (bif b9 then (some (decide (r3.1 = 1501))) else (some false)).bind fun b10 =>
    (bif b10 then (some (decide (r4.1 = (bC.mk 22 50 0 0 0 0 16 48 2)))) else (some false)).bind fun b11 =>
    (bif b11 then (some (decide (r6.1.Debt = 60))) else (some false)).bind fun b12 =>
    some b12

def oY (p_0 : aM) : Option aM :=
    (app 8 ([] : List Int) p_0.Tree.Slots).bind fun x4 =>
    (app 40 ([] : List aF) p_0.Slips).bind fun x5 =>
    (app 8 ([] : List Int) p_0.Prizes).bind fun x6 =>
    (app 24 ([] : List bE) p_0.Teams).bind fun x7 =>
    (app 16 ([] : List cA) p_0.Levies).bind fun x8 =>
    (app 24 ([] : List bT) p_0.Rates).bind fun x9 =>
    (app 32 ([] : List aG) p_0.Items).bind fun x10 =>
    some (aM.mk (aQ.mk p_0.Tree.Rounds x4) x5 x6 p_0.Daily x7 x8 x9 x10)

def mT (n_1 : Int) : Option ((List aF)) :=
    bif decide (n_1 < 0) then (none)
    else (bif decide (0 < (w64 (n_1 - (w64 (0 - 0))))) then ((chk (decide (0 ≤ 0))).bind fun u2 =>
    (chk (decide (0 < (w64 (n_1 - (w64 (0 - 0))))) && decide ((w64 (n_1 - (w64 (0 - 0)))) * ((40 : Nat) : Int) ≤ 140737488355328))).bind fun u3 =>
    (chk (decide (0 ≤ 0))).bind fun u5 =>
    some ([] : List aF))
    else (some ([] : List aF)))

def uZ (o24_102 : List aF) : Option ((List aF)) :=
    some o24_102

def gH (t25_2 : List (List aF)) (t26_2 : Int) : Nat → Int → (List aF) → Option ((List aF))
  | 0, _, _ => none
  | k2 + 1, t27_2, o24_2 =>
    bif decide (t27_2 < t26_2) then ((idx t25_2 t27_2).bind fun x4 =>
    (app 40 o24_2 x4).bind fun x5 =>
    (gH t25_2 t26_2 k2) (w64 (t27_2 + 1)) x5)
    else (uZ o24_2)

def qH (slices_100 : List (List aF)) (size_100 : Int) : Option ((List aF)) :=
    (mT size_100).bind fun r2 =>
    gH slices_100 (slices_100.length : Int) BIG 0 r2

def gG (slices_0 : List (List aF)) (t9_0 : List (List aF)) (t10_0 : Int) : Nat → Int → Int → Option ((List aF))
  | 0, _, _ => none
  | k0 + 1, size_0, t11_0 =>
    bif decide (t11_0 < t10_0) then ((idx t9_0 t11_0).bind fun x1 =>
    bif decide ((w64 (size_0 + (x1.length : Int))) < 0) then (none)
    else ((gG slices_0 t9_0 t10_0 k0) (w64 (size_0 + (x1.length : Int))) (w64 (t11_0 + 1))))
    else (qH slices_0 size_0)

def lJ (slices_0 : List (List aF)) : Option ((List aF)) :=
    gG slices_0 slices_0 (slices_0.length : Int) BIG 0 0

def mS (n_1 : Int) : Option ((List aG)) :=
    bif decide (n_1 < 0) then (none)
    else (bif decide (0 < (w64 (n_1 - (w64 (0 - 0))))) then ((chk (decide (0 ≤ 0))).bind fun u2 =>
    (chk (decide (0 < (w64 (n_1 - (w64 (0 - 0))))) && decide ((w64 (n_1 - (w64 (0 - 0)))) * ((32 : Nat) : Int) ≤ 140737488355328))).bind fun u3 =>
    (chk (decide (0 ≤ 0))).bind fun u5 =>
    some ([] : List aG))
    else (some ([] : List aG)))

def uY (o24_102 : List aG) : Option ((List aG)) :=
    some o24_102

def gF (t25_2 : List (List aG)) (t26_2 : Int) : Nat → Int → (List aG) → Option ((List aG))
  | 0, _, _ => none
  | k2 + 1, t27_2, o24_2 =>
    bif decide (t27_2 < t26_2) then ((idx t25_2 t27_2).bind fun x4 =>
    (app 32 o24_2 x4).bind fun x5 =>
    (gF t25_2 t26_2 k2) (w64 (t27_2 + 1)) x5)
    else (uY o24_2)

def qG (slices_100 : List (List aG)) (size_100 : Int) : Option ((List aG)) :=
    (mS size_100).bind fun r2 =>
    gF slices_100 (slices_100.length : Int) BIG 0 r2

def gE (slices_0 : List (List aG)) (t9_0 : List (List aG)) (t10_0 : Int) : Nat → Int → Int → Option ((List aG))
  | 0, _, _ => none
  | k0 + 1, size_0, t11_0 =>
    bif decide (t11_0 < t10_0) then ((idx t9_0 t11_0).bind fun x1 =>
    bif decide ((w64 (size_0 + (x1.length : Int))) < 0) then (none)
    else ((gE slices_0 t9_0 t10_0 k0) (w64 (size_0 + (x1.length : Int))) (w64 (t11_0 + 1))))
    else (qG slices_0 size_0)

def lI (slices_0 : List (List aG)) : Option ((List aG)) :=
    gE slices_0 slices_0 (slices_0.length : Int) BIG 0 0

def pF (s_0 : List bE) : Option ((List bE)) :=
    (app 24 ([] : List bE) s_0).bind fun x5 =>
    some x5

def pD (s_0 : List cA) : Option ((List cA)) :=
    (app 16 ([] : List cA) s_0).bind fun x5 =>
    some x5

def pE (s_0 : List bT) : Option ((List bT)) :=
    (app 24 ([] : List bT) s_0).bind fun x5 =>
    some x5

def wQ (p_0 : aM) (slips_1 : List aF) (items_2 : List aG) : Option (aM × Int) :=
    (oE p_0).bind fun r3 =>
    bif !decide (r3 = 0) then (some ((aM.mk (aQ.mk 0 ([] : List Int)) ([] : List aF) ([] : List Int) 0 ([] : List bE) ([] : List cA) ([] : List bT) ([] : List aG)), r3))
    else ((slices_Clone_int p_0.Tree.Slots).bind fun r5 =>
    (lJ ([p_0.Slips, slips_1])).bind fun r7 =>
    (lI ([p_0.Items, items_2])).bind fun r8 =>
    (slices_Clone_int p_0.Prizes).bind fun r9 =>
    (pF p_0.Teams).bind fun r11 =>
    (pD p_0.Levies).bind fun r13 =>
    (pE p_0.Rates).bind fun r15 =>
    (oE (aM.mk (aQ.mk p_0.Tree.Rounds r5) r7 r9 p_0.Daily r11 r13 r15 r8)).bind fun r17 =>
    bif !decide (r17 = 0) then (some ((aM.mk (aQ.mk 0 ([] : List Int)) ([] : List aF) ([] : List Int) 0 ([] : List bE) ([] : List cA) ([] : List bT) ([] : List aG)), r17))
    else ((oF r8).bind fun r18 =>
    some ((aM.mk (aQ.mk p_0.Tree.Rounds r5) r7 r9 p_0.Daily r11 r13 r15 r18.1), 0)))

def qA : Option Bool :=
    (nV).bind fun r60 =>
    some r60

def eC (a_10 : List bC) (b_10 : List bC) (c_10 : List bC) : Nat → Int → Option Bool
  | 0, _ => none
  | k10 + 1, i_10 =>
    bif decide (i_10 < (a_10.length : Int)) then ((idx a_10 i_10).bind fun x55 =>
    (idx b_10 i_10).bind fun x56 =>
    (bif !decide (x55 = x56) then (some true) else ((idx a_10 i_10).bind fun x57 =>
    (idx c_10 i_10).bind fun x58 =>
    some (!decide (x57 = x58)))).bind fun b59 =>
    bif b59 then (some false)
    else ((eC a_10 b_10 c_10 k10) (w64 (i_10 + 1))))
    else (qA)

def fO (late_108 : Int) (p_108 : aM) (o_108 : List aF) (o_108_2 : List aG) (o_108_3 : List bE) (o_108_4 : List cA) (o_108_5 : List bT) (o_108_6 : aQ) (o_108_7 : List Int) (o_108_8 : Int) : Option Bool :=
    (app 40 o_108 p_108.Slips).bind fun x38 =>
    (mO p_108).bind fun r40 =>
    (mO (aM.mk o_108_6 x38 o_108_7 o_108_8 o_108_3 o_108_4 o_108_5 o_108_2)).bind fun r41 =>
    (oY p_108).bind fun r42 =>
    (sub p_108.Items 0 (min late_108 (p_108.Items.length : Int))).bind fun x44 =>
    (sub p_108.Items (min late_108 (p_108.Items.length : Int)) (p_108.Items.length : Int)).bind fun x45 =>
    (wQ (aM.mk r42.Tree r42.Slips r42.Prizes r42.Daily r42.Teams r42.Levies r42.Rates x44) p_108.Slips x45).bind fun r46 =>
    (bif !decide (r40.2 = 0) then (some true) else (some (!decide (r41.2 = 0)))).bind fun b48 =>
    (bif b48 then (some true) else (some (!decide (r46.2 = 0)))).bind fun b49 =>
    (bif b49 then (some true) else ((kH r46.1).bind fun r50 =>
    some (!decide (r50 = 0)))).bind fun b51 =>
    bif b51 then (some false)
    else ((mO r46.1).bind fun r52 =>
    (bif !decide (r52.2 = 0) then (some true) else (some (!decide ((r40.1.length : Int) = (r41.1.length : Int))))).bind fun b53 =>
    (bif b53 then (some true) else (some (!decide ((r40.1.length : Int) = (r52.1.length : Int))))).bind fun b54 =>
    bif b54 then (some false)
    else (eC r40.1 r41.1 r52.1 BIG 0))

def fS (turn_8 : Int) (late_8 : Int) (p_8 : aM) (o_8 : List aF) (o_8_2 : List aG) (o_8_3 : List bE) (o_8_4 : List cA) : Nat → Int → (List bT) → aQ → (List Int) → Int → Option Bool
  | 0, _, _, _, _, _ => none
  | k8 + 1, i_8, o_8_5, o_8_6, o_8_7, o_8_8 =>
    bif decide (i_8 < (p_8.Rates.length : Int)) then ((chk (!decide ((p_8.Rates.length : Int) = 0))).bind fun u34 =>
    (idx p_8.Rates ((w64 (i_8 + turn_8)).tmod (p_8.Rates.length : Int))).bind fun x35 =>
    (app 24 o_8_5 ([x35])).bind fun x36 =>
    (fS turn_8 late_8 p_8 o_8 o_8_2 o_8_3 o_8_4 k8) (w64 (i_8 + 1)) x36 o_8_6 o_8_7 o_8_8)
    else (fO late_8 p_8 o_8 o_8_2 o_8_3 o_8_4 o_8_5 o_8_6 o_8_7 o_8_8)

def rC (turn_106 : Int) (late_106 : Int) (p_106 : aM) (o_106 : List aF) (o_106_2 : List aG) (o_106_3 : List bE) (o_106_4 : List cA) (o_106_5 : List bT) (o_106_6 : aQ) (o_106_7 : List Int) (o_106_8 : Int) : Option Bool :=
    fS turn_106 late_106 p_106 o_106 o_106_2 o_106_3 o_106_4 BIG 0 o_106_5 o_106_6 o_106_7 o_106_8

def fR (turn_6 : Int) (late_6 : Int) (p_6 : aM) (o_6 : List aF) (o_6_2 : List aG) (o_6_3 : List bE) (o_6_5 : List bT) : Nat → Int → (List cA) → aQ → (List Int) → Int → Option Bool
  | 0, _, _, _, _, _ => none
  | k6 + 1, i_6, o_6_4, o_6_6, o_6_7, o_6_8 =>
    bif decide (i_6 < (p_6.Levies.length : Int)) then ((chk (!decide ((p_6.Levies.length : Int) = 0))).bind fun u30 =>
    (idx p_6.Levies ((w64 (i_6 + turn_6)).tmod (p_6.Levies.length : Int))).bind fun x31 =>
    (app 16 o_6_4 ([x31])).bind fun x32 =>
    (fR turn_6 late_6 p_6 o_6 o_6_2 o_6_3 o_6_5 k6) (w64 (i_6 + 1)) x32 o_6_6 o_6_7 o_6_8)
    else (rC turn_6 late_6 p_6 o_6 o_6_2 o_6_3 o_6_4 o_6_5 o_6_6 o_6_7 o_6_8)

def rB (turn_104 : Int) (late_104 : Int) (p_104 : aM) (o_104 : List aF) (o_104_2 : List aG) (o_104_3 : List bE) (o_104_4 : List cA) (o_104_5 : List bT) (o_104_6 : aQ) (o_104_7 : List Int) (o_104_8 : Int) : Option Bool :=
    fR turn_104 late_104 p_104 o_104 o_104_2 o_104_3 o_104_5 BIG 0 o_104_4 o_104_6 o_104_7 o_104_8

def fQ (turn_4 : Int) (late_4 : Int) (p_4 : aM) (o_4 : List aF) (o_4_2 : List aG) (o_4_4 : List cA) (o_4_5 : List bT) : Nat → Int → (List bE) → aQ → (List Int) → Int → Option Bool
  | 0, _, _, _, _, _ => none
  | k4 + 1, i_4, o_4_3, o_4_6, o_4_7, o_4_8 =>
    bif decide (i_4 < (p_4.Teams.length : Int)) then ((chk (!decide ((p_4.Teams.length : Int) = 0))).bind fun u26 =>
    (idx p_4.Teams ((w64 (i_4 + turn_4)).tmod (p_4.Teams.length : Int))).bind fun x27 =>
    (app 24 o_4_3 ([x27])).bind fun x28 =>
    (fQ turn_4 late_4 p_4 o_4 o_4_2 o_4_4 o_4_5 k4) (w64 (i_4 + 1)) x28 o_4_6 o_4_7 o_4_8)
    else (rB turn_4 late_4 p_4 o_4 o_4_2 o_4_3 o_4_4 o_4_5 o_4_6 o_4_7 o_4_8)

def rA (turn_102 : Int) (late_102 : Int) (p_102 : aM) (o_102 : List aF) (o_102_2 : List aG) (o_102_3 : List bE) (o_102_4 : List cA) (o_102_5 : List bT) (o_102_6 : aQ) (o_102_7 : List Int) (o_102_8 : Int) : Option Bool :=
    fQ turn_102 late_102 p_102 o_102 o_102_2 o_102_4 o_102_5 BIG 0 o_102_3 o_102_6 o_102_7 o_102_8

def fP (turn_2 : Int) (late_2 : Int) (p_2 : aM) (o_2 : List aF) (o_2_3 : List bE) (o_2_4 : List cA) (o_2_5 : List bT) : Nat → Int → (List aG) → aQ → (List Int) → Int → Option Bool
  | 0, _, _, _, _, _ => none
  | k2 + 1, i_2, o_2_2, o_2_6, o_2_7, o_2_8 =>
    bif decide (i_2 < (p_2.Items.length : Int)) then ((chk (!decide ((p_2.Items.length : Int) = 0))).bind fun u21 =>
    (idx p_2.Items ((w64 (i_2 + turn_2)).tmod (p_2.Items.length : Int))).bind fun x22 =>
    (idx p_2.Items i_2).bind fun x23 =>
    (app 32 o_2_2 ([x22, x23])).bind fun x24 =>
    (fP turn_2 late_2 p_2 o_2 o_2_3 o_2_4 o_2_5 k2) (w64 (i_2 + 1)) x24 o_2_6 o_2_7 o_2_8)
    else (rA turn_2 late_2 p_2 o_2 o_2_2 o_2_3 o_2_4 o_2_5 o_2_6 o_2_7 o_2_8)

def qZ (turn_100 : Int) (late_100 : Int) (p_100 : aM) (o_100 : List aF) (o_100_2 : List aG) (o_100_3 : List bE) (o_100_4 : List cA) (o_100_5 : List bT) (o_100_6 : aQ) (o_100_7 : List Int) (o_100_8 : Int) : Option Bool :=
    fP turn_100 late_100 p_100 o_100 o_100_3 o_100_4 o_100_5 BIG 0 o_100_2 o_100_6 o_100_7 o_100_8

def gV (turn_0 : Int) (late_0 : Int) (p_0 : aM) (o_0_2 : List aG) (o_0_3 : List bE) (o_0_4 : List cA) (o_0_5 : List bT) : Nat → Int → (List aF) → aQ → (List Int) → Int → Option Bool
  | 0, _, _, _, _, _ => none
  | k0 + 1, i_0, o_0, o_0_6, o_0_7, o_0_8 =>
    bif decide (i_0 < (p_0.Slips.length : Int)) then ((chk (!decide ((p_0.Slips.length : Int) = 0))).bind fun u17 =>
    (idx p_0.Slips ((w64 (i_0 + turn_0)).tmod (p_0.Slips.length : Int))).bind fun x18 =>
    (app 40 o_0 ([x18])).bind fun x19 =>
    (gV turn_0 late_0 p_0 o_0_2 o_0_3 o_0_4 o_0_5 k0) (w64 (i_0 + 1)) x19 o_0_6 o_0_7 o_0_8)
    else (qZ turn_0 late_0 p_0 o_0 o_0_2 o_0_3 o_0_4 o_0_5 o_0_6 o_0_7 o_0_8)

def oV (p_0 : aM) (turn_1 : Int) (late_2 : Int) : Option Bool :=
    (nU p_0).bind fun r2 =>
    (bif !r2 then (some true) else (some (decide (turn_1 < 0)))).bind fun b3 =>
    (bif b3 then (some true) else (some (decide (100 < turn_1)))).bind fun b4 =>
    (bif b4 then (some true) else (some (decide (late_2 < 0)))).bind fun b5 =>
    (bif b5 then (some true) else (some (decide (100 < late_2)))).bind fun b6 =>
    (bif b6 then (some true) else (some (decide (15 < (p_0.Slips.length : Int))))).bind fun b7 =>
    (bif b7 then (some true) else (some (decide (18 < (p_0.Items.length : Int))))).bind fun b8 =>
    bif b8 then ((nV).bind fun r9 =>
    some r9)
    else ((oY p_0).bind fun r10 =>
    gV turn_1 late_2 p_0 ([] : List aG) ([] : List bE) ([] : List cA) ([] : List bT) BIG 0 ([] : List aF) r10.Tree r10.Prizes r10.Daily)

end Go.Am
