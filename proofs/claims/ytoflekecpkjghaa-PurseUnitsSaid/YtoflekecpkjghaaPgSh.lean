/- Shallow functions, printed by program. -/
import Derived.Test.YtoflekecpkjghaaAmFull
import Derived.Test.YtoflekecpkjghaaAmNd
import Derived.Test.YtoflekecpkjghaaAmSort
namespace Go.Am

def oQ (x : List Int) : List D := [.sl 1 (x.map aK)]

structure aU where
  Rounds : Int
  Slots : List Int
  deriving DecidableEq, Inhabited
def bD (x : aU) : List D := [.lit (.int .i64 x.Rounds), .sl 1 (x.Slots.map aK)]

structure aF where
  Kind : Int
  Round : Int
  Place : Int
  Player : Int
  Old : Int
  deriving DecidableEq, Inhabited
def aJ (x : aF) : List D := [.lit (.int .i64 x.Kind), .lit (.int .i64 x.Round), .lit (.int .i64 x.Place), .lit (.int .i64 x.Player), .lit (.int .i64 x.Old)]

def aMh (x : List aF) : List D := [.sl 5 (x.map aJ)]

structure bX where
  Player : Int
  One : Int
  Two : Int
  deriving DecidableEq, Inhabited
def bP (x : bX) : List D := [.lit (.int .i64 x.Player), .lit (.int .i64 x.One), .lit (.int .i64 x.Two)]

def aMi (x : List bX) : List D := [.sl 3 (x.map bP)]

structure fS where
  Person : Int
  Mille : Int
  deriving DecidableEq, Inhabited
def cY (x : fS) : List D := [.lit (.int .i64 x.Person), .lit (.int .i64 x.Mille)]

def aMf (x : List fS) : List D := [.sl 2 (x.map cY)]

structure eM where
  Person : Int
  Num : Int
  Den : Int
  deriving DecidableEq, Inhabited
def cV (x : eM) : List D := [.lit (.int .i64 x.Person), .lit (.int .i64 x.Num), .lit (.int .i64 x.Den)]

def aMg (x : List eM) : List D := [.sl 3 (x.map cV)]

structure aH where
  Id : Int
  Kind : Int
  Person : Int
  Amount : Int
  deriving DecidableEq, Inhabited
def aE (x : aH) : List D := [.lit (.int .i64 x.Id), .lit (.int .i64 x.Kind), .lit (.int .i64 x.Person), .lit (.int .i64 x.Amount)]

def aMe (x : List aH) : List D := [.sl 4 (x.map aE)]

structure aQ where
  Tree : aU
  Slips : List aF
  Prizes : List Int
  Daily : Int
  Teams : List bX
  Levies : List fS
  Rates : List eM
  Items : List aH
  deriving DecidableEq, Inhabited
def aS (x : aQ) : List D := [.lit (.int .i64 x.Tree.Rounds), .sl 1 (x.Tree.Slots.map aK), .sl 5 (x.Slips.map aJ), .sl 1 (x.Prizes.map aK), .lit (.int .i64 x.Daily), .sl 3 (x.Teams.map bP), .sl 2 (x.Levies.map cY), .sl 3 (x.Rates.map cV), .sl 4 (x.Items.map aE)]

structure aR where
  Slots : List Int
  Must : List (List Int)
  deriving DecidableEq, Inhabited
def cH (x : aR) : List D := [.sl 1 (x.Slots.map aK), .sl 1 (x.Must.map oQ)]

structure aG where
  round : Int
  place : Int
  deriving DecidableEq, Inhabited
def aO (x : aG) : List D := [.lit (.int .i64 x.round), .lit (.int .i64 x.place)]

structure bB where
  Tree : aU
  players : List Int
  won : List (aG × Int)
  deriving DecidableEq, Inhabited
def bL (x : bB) : List D := [.lit (.int .i64 x.Tree.Rounds), .sl 1 (x.Tree.Slots.map aK), .sl 1 (x.players.map aK), .mp false (x.won.map fun p : aG × Int => ((fun a : aG => Value.agg ((aO a).map bQ).toArray) p.1, aK p.2))]

structure cG where
  Low : Int
  High : Int
  deriving DecidableEq, Inhabited
def cB (x : cG) : List D := [.lit (.int .i64 x.Low), .lit (.int .i64 x.High)]

structure aY where
  Person : Int
  Gross : Int
  Tax : Int
  Daily : Int
  Fines : Int
  Debt : Int
  Units : Int
  Used : Int
  Rest : Int
  deriving DecidableEq, Inhabited
def bF (x : aY) : List D := [.lit (.int .i64 x.Person), .lit (.int .i64 x.Gross), .lit (.int .i64 x.Tax), .lit (.int .i64 x.Daily), .lit (.int .i64 x.Fines), .lit (.int .i64 x.Debt), .lit (.int .i64 x.Units), .lit (.int .i64 x.Used), .lit (.int .i64 x.Rest)]

def aLs (x : aU) : Prop := okI x.Rounds ∧ (okL okI) x.Slots

def aFs (x : aF) : Prop := okI x.Kind ∧ okI x.Round ∧ okI x.Place ∧ okI x.Player ∧ okI x.Old

def aFt (x : bX) : Prop := okI x.Player ∧ okI x.One ∧ okI x.Two

def aFq (x : fS) : Prop := okI x.Person ∧ okI x.Mille

def aFr (x : eM) : Prop := okI x.Person ∧ okI x.Num ∧ okI x.Den

def aFp (x : aH) : Prop := okI x.Id ∧ okI x.Kind ∧ okI x.Person ∧ okI x.Amount

def aJx (x : aQ) : Prop := aLs x.Tree ∧ (okL aFs) x.Slips ∧ (okL okI) x.Prizes ∧ okI x.Daily ∧ (okL aFt) x.Teams ∧ (okL aFq) x.Levies ∧ (okL aFr) x.Rates ∧ (okL aFp) x.Items

def mJ (p_0 : aQ) : Option Bool :=
    (bif decide (8 < (p_0.Tree.Slots.length : Int)) then (some true) else (some (decide (20 < (p_0.Slips.length : Int))))).bind fun b2 =>
    (bif b2 then (some true) else (some (decide (20 < (p_0.Prizes.length : Int))))).bind fun b3 =>
    (bif b3 then (some true) else (some (decide (40 < (p_0.Teams.length : Int))))).bind fun b4 =>
    (bif b4 then (some true) else (some (decide (40 < (p_0.Levies.length : Int))))).bind fun b5 =>
    (bif b5 then (some true) else (some (decide (40 < (p_0.Rates.length : Int))))).bind fun b6 =>
    (bif b6 then (some true) else (some (decide (60 < (p_0.Items.length : Int))))).bind fun b7 =>
    some b7

def eN (n_0 : Int) (low_1 : Int) (high_2 : Int) : Option Bool :=
    (bif decide (low_1 ≤ n_0) then (some (decide (n_0 ≤ high_2))) else (some false)).bind fun b1 =>
    some b1

def rQ (again0 : Int → Option Bool) (i_101 : Int) (t_101 : aU) : Option Bool :=
    again0 (w64 (i_101 + 1))

def rR (again0 : Int → Option Bool) (i_102 : Int) (t_102 : aU) : Option Bool :=
    rQ again0 i_102 t_102

def gP (again0 : Int → Option Bool) (i_2 : Int) (t_2 : aU) : Nat → Int → Option Bool
  | 0, _ => none
  | k2 + 1, k_2 =>
    bif decide (k_2 < i_2) then ((idx t_2.Slots k_2).bind fun x12 =>
    (idx t_2.Slots i_2).bind fun x13 =>
    (bif decide (x12 = x13) then ((idx t_2.Slots i_2).bind fun x14 =>
    some (!decide (x14 = (-1)))) else (some false)).bind fun b15 =>
    bif b15 then (some false)
    else ((gP again0 i_2 t_2 k2) (w64 (k_2 + 1))))
    else (rR again0 i_2 t_2)

def rP : Option Bool :=
    some true

def gO (t_0 : aU) : Nat → Int → Option Bool
  | 0, _ => none
  | k0 + 1, i_0 =>
    bif decide (i_0 < (t_0.Slots.length : Int)) then ((idx t_0.Slots i_0).bind fun x5 =>
    (eN x5 (-1) 999).bind fun r6 =>
    (bif !r6 then (some true) else ((bif decide ((i_0.tmod 2) = 1) then ((idx t_0.Slots i_0).bind fun x7 =>
    some (decide (x7 = (-1)))) else (some false)).bind fun b8 =>
    (bif b8 then ((idx t_0.Slots (w64 (i_0 - 1))).bind fun x9 =>
    some (decide (x9 = (-1)))) else (some false)).bind fun b10 =>
    some b10)).bind fun b11 =>
    bif b11 then (some false)
    else (gP (gO t_0 k0) i_0 t_0 BIG 0))
    else (rP)

def lQ (t_0 : aU) : Option Bool :=
    (eN t_0.Rounds 1 5).bind fun r2 =>
    (bif !r2 then (some true) else ((chk (decide (0 ≤ (IntKind.u64.wrap t_0.Rounds)))).bind fun u3 =>
    some (!decide ((t_0.Slots.length : Int) = (w64 (1 * 2 ^ (min (IntKind.u64.wrap t_0.Rounds).toNat 64))))))).bind fun b4 =>
    bif b4 then (some false)
    else (gO t_0 BIG 0)

def lR (t_0 : aU) (round_1 : Int) : Option Int :=
    (chk (decide (0 ≤ (IntKind.u64.wrap (w64 ((w64 (t_0.Rounds - 1)) - round_1)))))).bind fun u2 =>
    some (w64 (1 * 2 ^ (min (IntKind.u64.wrap (w64 ((w64 (t_0.Rounds - 1)) - round_1))).toNat 64)))

def mZ (t_0 : aU) (round_1 : Int) (place_2 : Int) : Option Bool :=
    (eN round_1 0 (w64 (t_0.Rounds - 1))).bind fun r2 =>
    (bif r2 then ((lR t_0 round_1).bind fun r3 =>
    (eN place_2 0 (w64 (r3 - 1))).bind fun r4 =>
    some r4) else (some false)).bind fun b5 =>
    some b5

def nY (t_0 : aU) (x_1 : aF) : Option Bool :=
    (eN x_1.Player 0 999).bind fun r3 =>
    bif !r3 then (some false)
    else (bif decide (x_1.Kind = 5) then ((bif decide (x_1.Round = 0) then ((eN x_1.Place 0 (w64 ((t_0.Slots.length : Int) - 1))).bind fun r4 =>
    some r4) else (some false)).bind fun b5 =>
    (bif b5 then ((eN x_1.Old 0 999).bind fun r6 =>
    some r6) else (some false)).bind fun b7 =>
    some b7)
    else ((eN x_1.Kind 1 4).bind fun r8 =>
    (bif !r8 then (some true) else ((mZ t_0 x_1.Round x_1.Place).bind fun r9 =>
    some (!r9))).bind fun b10 =>
    (bif b10 then (some true) else (some (!decide (x_1.Old = 0)))).bind fun b11 =>
    bif b11 then (some false)
    else ((bif decide (0 < x_1.Round) then (some true) else ((idx t_0.Slots (w64 (2 * x_1.Place))).bind fun x12 =>
    (bif !decide (x12 = (-1)) then ((idx t_0.Slots (w64 ((w64 (2 * x_1.Place)) + 1))).bind fun x13 =>
    some (!decide (x13 = (-1)))) else (some false)).bind fun b14 =>
    some b14)).bind fun b15 =>
    some b15)))

def kZ (again0 : Int → (List aF) → Option ((List aF))) (l_101 : List aF) (i_101 : Int) (out_101 : List aF) : Option ((List aF)) :=
    again0 (w64 (i_101 + 1)) out_101

def nC (again0 : Int → (List aF) → Option ((List aF))) (l_102 : List aF) (i_102 : Int) (twin_102 : Bool) (out_102 : List aF) : Option ((List aF)) :=
    bif !twin_102 then ((idx l_102 i_102).bind fun x5 =>
    (app 40 out_102 ([x5])).bind fun x6 =>
    kZ again0 l_102 i_102 x6)
    else (kZ again0 l_102 i_102 out_102)

def iJ (again0 : Int → (List aF) → Option ((List aF))) (l_2 : List aF) (i_2 : Int) (out_2 : List aF) : Nat → Bool → Int → Option ((List aF))
  | 0, _, _ => none
  | k2 + 1, twin_2, k_2 =>
    bif decide (k_2 < (out_2.length : Int)) then ((bif twin_2 then (some true) else ((idx out_2 k_2).bind fun x2 =>
    (idx l_2 i_2).bind fun x3 =>
    some (decide (x2 = x3)))).bind fun b4 =>
    (iJ again0 l_2 i_2 out_2 k2) b4 (w64 (k_2 + 1)))
    else (nC again0 l_2 i_2 twin_2 out_2)

def tC (out_100 : List aF) : Option ((List aF)) :=
    some out_100

def eQ (l_0 : List aF) : Nat → Int → (List aF) → Option ((List aF))
  | 0, _, _ => none
  | k0 + 1, i_0, out_0 =>
    bif decide (i_0 < (l_0.length : Int)) then (iJ (eQ l_0 k0) l_0 i_0 out_0 BIG false 0)
    else (tC out_0)

def nM (l_0 : List aF) : Option ((List aF)) :=
    eQ l_0 BIG 0 ([] : List aF)

def vB : Option Bool :=
    some false

def kJ (l_0 : List Int) (n_0 : Int) : Nat → Int → Option Bool
  | 0, _ => none
  | k0 + 1, i_0 =>
    bif decide (i_0 < (l_0.length : Int)) then ((idx l_0 i_0).bind fun x1 =>
    bif decide (x1 = n_0) then (some true)
    else ((kJ l_0 n_0 k0) (w64 (i_0 + 1))))
    else (vB)

def sA (l_0 : List Int) (n_1 : Int) : Option Bool :=
    kJ l_0 n_1 BIG 0

def jD (again0 : Int → Int → (List Int) → (List Int) → Option ((List Int) × Bool)) (again2 : Int → Int → Bool → (List Int) → Option ((List Int) × Bool)) (allv_103 : List aF) (used_103 : Int) (i_103 : Int) (now_103 : Int) (again_103 : Bool) (t_103 : aU) (out_103 : List Int) (o18_103 : List Int) : Option ((List Int) × Bool) :=
    again2 used_103 now_103 again_103 o18_103

def kV (again0 : Int → Int → (List Int) → (List Int) → Option ((List Int) × Bool)) (again2 : Int → Int → Bool → (List Int) → Option ((List Int) × Bool)) (allv_104 : List aF) (used_104 : Int) (i_104 : Int) (now_104 : Int) (again_104 : Bool) (t_104 : aU) (out_104 : List Int) (nextv_104 : List Int) (o18_104 : List Int) : Option ((List Int) × Bool) :=
    (bif decide (1 < (nextv_104.length : Int)) then (some true) else ((bif decide ((nextv_104.length : Int) = 1) then ((idx nextv_104 0).bind fun x17 =>
    (sA o18_104 x17).bind fun r18 =>
    some r18) else (some false)).bind fun b19 =>
    some b19)).bind fun b20 =>
    bif b20 then (some (([] : List Int), false))
    else (bif decide ((nextv_104.length : Int) = 1) then ((idx nextv_104 0).bind fun x21 =>
    (app 8 o18_104 ([x21])).bind fun x22 =>
    jD again0 again2 allv_104 (w64 (used_104 + 1)) i_104 x21 true t_104 out_104 x22)
    else (jD again0 again2 allv_104 used_104 i_104 now_104 again_104 t_104 out_104 o18_104))

def fD (again0 : Int → Int → (List Int) → (List Int) → Option ((List Int) × Bool)) (again2 : Int → Int → Bool → (List Int) → Option ((List Int) × Bool)) (allv_4 : List aF) (used_4 : Int) (i_4 : Int) (now_4 : Int) (again_4 : Bool) (t_4 : aU) (out_4 : List Int) (o18_4 : List Int) : Nat → Int → (List Int) → Option ((List Int) × Bool)
  | 0, _, _ => none
  | k4 + 1, k_4, nextv_4 =>
    bif decide (k_4 < (allv_4.length : Int)) then ((idx allv_4 k_4).bind fun x9 =>
    (bif decide (x9.Kind = 5) then ((idx allv_4 k_4).bind fun x10 =>
    some (decide (x10.Place = i_4))) else (some false)).bind fun b11 =>
    (bif b11 then ((idx allv_4 k_4).bind fun x12 =>
    some (decide (x12.Old = now_4))) else (some false)).bind fun b13 =>
    bif b13 then ((idx allv_4 k_4).bind fun x14 =>
    (app 8 nextv_4 ([x14.Player])).bind fun x15 =>
    (fD again0 again2 allv_4 used_4 i_4 now_4 again_4 t_4 out_4 o18_4 k4) (w64 (k_4 + 1)) x15)
    else ((fD again0 again2 allv_4 used_4 i_4 now_4 again_4 t_4 out_4 o18_4 k4) (w64 (k_4 + 1)) nextv_4))
    else (kV again0 again2 allv_4 used_4 i_4 now_4 again_4 t_4 out_4 nextv_4 o18_4)

def qT (again0 : Int → Int → (List Int) → (List Int) → Option ((List Int) × Bool)) (allv_101 : List aF) (used_101 : Int) (i_101 : Int) (t_101 : aU) (out_101 : List Int) (o18_101 : List Int) : Option ((List Int) × Bool) :=
    again0 used_101 (w64 (i_101 + 1)) out_101 o18_101

def nL (again0 : Int → Int → (List Int) → (List Int) → Option ((List Int) × Bool)) (allv_102 : List aF) (used_102 : Int) (i_102 : Int) (now_102 : Int) (t_102 : aU) (out_102 : List Int) (o18_102 : List Int) : Option ((List Int) × Bool) :=
    (app 8 out_102 ([now_102])).bind fun x24 =>
    qT again0 allv_102 used_102 i_102 t_102 x24 o18_102

def gE (again0 : Int → Int → (List Int) → (List Int) → Option ((List Int) × Bool)) (allv_2 : List aF) (i_2 : Int) (t_2 : aU) (out_2 : List Int) : Nat → Int → Int → Bool → (List Int) → Option ((List Int) × Bool)
  | 0, _, _, _, _ => none
  | k2 + 1, used_2, now_2, again_2, o18_2 =>
    bif again_2 then (fD again0 (gE again0 allv_2 i_2 t_2 out_2 k2) allv_2 used_2 i_2 now_2 false t_2 out_2 o18_2 BIG 0 ([] : List Int))
    else (nL again0 allv_2 used_2 i_2 now_2 t_2 out_2 o18_2)

def qU (used_106 : Int) (out_106 : List Int) : Option ((List Int) × Bool) :=
    some (out_106, decide (used_106 = 0))

def fE (allv_6 : List aF) (out_6 : List Int) : Nat → Int → Int → Option ((List Int) × Bool)
  | 0, _, _ => none
  | k6 + 1, used_6, k_6 =>
    bif decide (k_6 < (allv_6.length : Int)) then ((idx allv_6 k_6).bind fun x26 =>
    bif decide (x26.Kind = 5) then ((fE allv_6 out_6 k6) (w64 (used_6 - 1)) (w64 (k_6 + 1)))
    else ((fE allv_6 out_6 k6) used_6 (w64 (k_6 + 1))))
    else (qU used_6 out_6)

def qS (allv_100 : List aF) (used_100 : Int) (out_100 : List Int) : Option ((List Int) × Bool) :=
    fE allv_100 out_100 BIG used_100 0

def eH (allv_0 : List aF) (t_0 : aU) : Nat → Int → Int → (List Int) → (List Int) → Option ((List Int) × Bool)
  | 0, _, _, _, _ => none
  | k0 + 1, used_0, i_0, out_0, o18_0 =>
    bif decide (i_0 < (t_0.Slots.length : Int)) then ((idx t_0.Slots i_0).bind fun x7 =>
    gE (eH allv_0 t_0 k0) allv_0 i_0 t_0 out_0 BIG used_0 x7 true o18_0)
    else (qS allv_0 used_0 out_0)

def nA (t_0 : aU) (l_1 : List aF) : Option ((List Int) × Bool) :=
    (nM l_1).bind fun r2 =>
    (app 8 ([] : List Int) t_0.Slots).bind fun x4 =>
    eH r2 t_0 BIG 0 0 ([] : List Int) x4

def sZ (again0 : Int → (List (List Int)) → (List Int) → Option (aR × Bool)) (l_101 : List aF) (slots_101 : List Int) (r_101 : Int) (t_101 : aU) (o4_101 : aR) (d_101 : List (List Int)) (d_101_2 : List Int) : Option (aR × Bool) :=
    again0 (w64 (r_101 + 1)) d_101 d_101_2

def kX (again0 : Int → (List (List Int)) → (List Int) → Option (aR × Bool)) (l_102 : List aF) (slots_102 : List Int) (r_102 : Int) (t_102 : aU) (o4_102 : aR) (d_102 : List (List Int)) (d_102_2 : List Int) (row_102 : List Int) : Option (aR × Bool) :=
    (app 24 d_102 [row_102]).bind fun x24 =>
    sZ again0 l_102 slots_102 r_102 t_102 o4_102 x24 d_102_2

def eP (again0 : Int → (List (List Int)) → (List Int) → Option (aR × Bool)) (l_2 : List aF) (slots_2 : List Int) (r_2 : Int) (t_2 : aU) (o4_2 : aR) (d_2 : List (List Int)) (d_2_2 : List Int) : Nat → Int → (List Int) → Option (aR × Bool)
  | 0, _, _ => none
  | k2 + 1, p_2, row_2 =>
    (lR t_2 r_2).bind fun r6 =>
    bif decide (p_2 < r6) then ((bif decide (r_2 = 0) then ((idx slots_2 (w64 (2 * p_2))).bind fun x7 =>
    some (decide (x7 = (-1)))) else (some false)).bind fun b8 =>
    bif b8 then ((idx slots_2 (w64 ((w64 (2 * p_2)) + 1))).bind fun x9 =>
    (bif decide (r_2 = 0) then ((idx slots_2 (w64 ((w64 (2 * p_2)) + 1))).bind fun x10 =>
    some (decide (x10 = (-1)))) else (some false)).bind fun b11 =>
    bif b11 then ((idx slots_2 (w64 (2 * p_2))).bind fun x12 =>
    (app 8 row_2 ([x12])).bind fun x13 =>
    (eP again0 l_2 slots_2 r_2 t_2 o4_2 d_2 d_2_2 k2) (w64 (p_2 + 1)) x13)
    else ((app 8 row_2 ([x9])).bind fun x15 =>
    (eP again0 l_2 slots_2 r_2 t_2 o4_2 d_2 d_2_2 k2) (w64 (p_2 + 1)) x15))
    else ((bif decide (r_2 = 0) then ((idx slots_2 (w64 ((w64 (2 * p_2)) + 1))).bind fun x17 =>
    some (decide (x17 = (-1)))) else (some false)).bind fun b18 =>
    bif b18 then ((idx slots_2 (w64 (2 * p_2))).bind fun x19 =>
    (app 8 row_2 ([x19])).bind fun x20 =>
    (eP again0 l_2 slots_2 r_2 t_2 o4_2 d_2 d_2_2 k2) (w64 (p_2 + 1)) x20)
    else ((app 8 row_2 ([(-2)])).bind fun x22 =>
    (eP again0 l_2 slots_2 r_2 t_2 o4_2 d_2 d_2_2 k2) (w64 (p_2 + 1)) x22)))
    else (kX again0 l_2 slots_2 r_2 t_2 o4_2 d_2 d_2_2 row_2)

def kY (again4 : Int → aR → (List (List Int)) → Option (aR × Bool)) (slots_105 : List Int) (allv_105 : List aF) (i_105 : Int) (o4_105 : aR) (d_105 : List (List Int)) (d_105_2 : List Int) : Option (aR × Bool) :=
    again4 (w64 (i_105 + 1)) o4_105 d_105

def sM (again4 : Int → aR → (List (List Int)) → Option (aR × Bool)) (slots_110 : List Int) (allv_110 : List aF) (i_110 : Int) (o4_110 : aR) (d_110 : List (List Int)) (d_110_2 : List Int) : Option (aR × Bool) :=
    kY again4 slots_110 allv_110 i_110 o4_110 d_110 d_110_2

def gZ (again4 : Int → aR → (List (List Int)) → Option (aR × Bool)) (slots_10 : List Int) (allv_10 : List aF) (i_10 : Int) (atv_10 : Int) (d_10_2 : List Int) (x_10 : aF) : Nat → Int → aR → (List (List Int)) → Option (aR × Bool)
  | 0, _, _, _ => none
  | k10 + 1, r_10, o4_10, d_10 =>
    bif decide (r_10 ≤ x_10.Round) then ((chk (decide (0 ≤ (IntKind.u64.wrap (w64 (r_10 + 1)))))).bind fun u36 =>
    (idx d_10 r_10).bind fun x37 =>
    (idx x37 (atv_10.fdiv (2 ^ (min (IntKind.u64.wrap (w64 (r_10 + 1))).toNat 64)))).bind fun x38 =>
    (bif !decide (x38 = (-2)) then ((idx d_10 r_10).bind fun x39 =>
    (idx x39 (atv_10.fdiv (2 ^ (min (IntKind.u64.wrap (w64 (r_10 + 1))).toNat 64)))).bind fun x40 =>
    some (!decide (x40 = x_10.Player))) else (some false)).bind fun b41 =>
    bif b41 then (some ((aR.mk ([] : List Int) ([] : List (List Int))), false))
    else ((idx d_10 r_10).bind fun x42 =>
    (idx x42 (atv_10.fdiv (2 ^ (min (IntKind.u64.wrap (w64 (r_10 + 1))).toNat 64)))).bind fun x43 =>
    (gZ again4 slots_10 allv_10 i_10 atv_10 d_10_2 x_10 k10) (w64 (r_10 + 1)) o4_10 (d_10.set r_10.toNat (x42.set (atv_10.fdiv (2 ^ (min (IntKind.u64.wrap (w64 (r_10 + 1))).toNat 64))).toNat x_10.Player))))
    else (sM again4 slots_10 allv_10 i_10 o4_10 d_10 d_10_2)

def iH (again4 : Int → aR → (List (List Int)) → Option (aR × Bool)) (slots_108 : List Int) (allv_108 : List aF) (i_108 : Int) (atv_108 : Int) (o4_108 : aR) (d_108 : List (List Int)) (d_108_2 : List Int) (x_108 : aF) : Option (aR × Bool) :=
    (bif decide (atv_108 < 0) then (some true) else ((chk (decide (0 ≤ (IntKind.u64.wrap (w64 (x_108.Round + 1)))))).bind fun u34 =>
    some (!decide ((atv_108.fdiv (2 ^ (min (IntKind.u64.wrap (w64 (x_108.Round + 1))).toNat 64))) = x_108.Place)))).bind fun b35 =>
    bif b35 then (some ((aR.mk ([] : List Int) ([] : List (List Int))), false))
    else (gZ again4 slots_108 allv_108 i_108 atv_108 d_108_2 x_108 BIG 0 o4_108 d_108)

def eI (again4 : Int → aR → (List (List Int)) → Option (aR × Bool)) (slots_8 : List Int) (allv_8 : List aF) (i_8 : Int) (o4_8 : aR) (d_8 : List (List Int)) (d_8_2 : List Int) (x_8 : aF) : Nat → Int → Int → Option (aR × Bool)
  | 0, _, _ => none
  | k8 + 1, atv_8, s_8 =>
    bif decide (s_8 < (slots_8.length : Int)) then ((idx slots_8 s_8).bind fun x33 =>
    bif decide (x33 = x_8.Player) then ((eI again4 slots_8 allv_8 i_8 o4_8 d_8 d_8_2 x_8 k8) s_8 (w64 (s_8 + 1)))
    else ((eI again4 slots_8 allv_8 i_8 o4_8 d_8 d_8_2 x_8 k8) atv_8 (w64 (s_8 + 1))))
    else (iH again4 slots_8 allv_8 i_8 atv_8 o4_8 d_8 d_8_2 x_8)

def pK (again4 : Int → aR → (List (List Int)) → Option (aR × Bool)) (slots_106 : List Int) (allv_106 : List aF) (i_106 : Int) (o4_106 : aR) (d_106 : List (List Int)) (d_106_2 : List Int) (x_106 : aF) : Option (aR × Bool) :=
    eI again4 slots_106 allv_106 i_106 o4_106 d_106 d_106_2 x_106 BIG (-1) 0

def iI (again4 : Int → aR → (List (List Int)) → Option (aR × Bool)) (slots_6 : List Int) (allv_6 : List aF) (i_6 : Int) (d_6 : List (List Int)) (d_6_2 : List Int) (x_6 : aF) : Nat → Int → aR → Option (aR × Bool)
  | 0, _, _ => none
  | k6 + 1, k_6, o4_6 =>
    bif decide (k_6 < i_6) then ((idx allv_6 k_6).bind fun x29 =>
    (bif !decide (x29.Kind = 5) then (some (decide (x29.Round = x_6.Round))) else (some false)).bind fun b31 =>
    (bif b31 then (some (decide (x29.Place = x_6.Place))) else (some false)).bind fun b32 =>
    bif b32 then (some ((aR.mk ([] : List Int) ([] : List (List Int))), false))
    else ((iI again4 slots_6 allv_6 i_6 d_6 d_6_2 x_6 k6) (w64 (k_6 + 1)) o4_6))
    else (pK again4 slots_6 allv_6 i_6 o4_6 d_6 d_6_2 x_6)

def tA (o4_104 : aR) (d_104 : List (List Int)) (d_104_2 : List Int) : Option (aR × Bool) :=
    some ((aR.mk d_104_2 d_104), true)

def dH (slots_4 : List Int) (allv_4 : List aF) (d_4_2 : List Int) : Nat → Int → aR → (List (List Int)) → Option (aR × Bool)
  | 0, _, _, _ => none
  | k4 + 1, i_4, o4_4, d_4 =>
    bif decide (i_4 < (allv_4.length : Int)) then ((idx allv_4 i_4).bind fun x27 =>
    bif decide (x27.Kind = 5) then (kY (dH slots_4 allv_4 d_4_2 k4) slots_4 allv_4 i_4 o4_4 d_4 d_4_2)
    else (iI (dH slots_4 allv_4 d_4_2 k4) slots_4 allv_4 i_4 d_4 d_4_2 x27 BIG 0 o4_4))
    else (tA o4_4 d_4 d_4_2)

def kW (l_100 : List aF) (slots_100 : List Int) (o4_100 : aR) (d_100 : List (List Int)) (d_100_2 : List Int) : Option (aR × Bool) :=
    (nM l_100).bind fun r26 =>
    dH slots_100 r26 d_100_2 BIG 0 o4_100 d_100

def gQ (l_0 : List aF) (slots_0 : List Int) (t_0 : aU) (o4_0 : aR) : Nat → Int → (List (List Int)) → (List Int) → Option (aR × Bool)
  | 0, _, _, _ => none
  | k0 + 1, r_0, d_0, d_0_2 =>
    bif decide (r_0 < t_0.Rounds) then (eP (gQ l_0 slots_0 t_0 o4_0 k0) l_0 slots_0 r_0 t_0 o4_0 d_0 d_0_2 BIG 0 ([] : List Int))
    else (kW l_0 slots_0 o4_0 d_0 d_0_2)

def fF (t_0 : aU) (l_1 : List aF) : Option (aR × Bool) :=
    (nA t_0 l_1).bind fun r3 =>
    bif !r3.2 then (some ((aR.mk ([] : List Int) ([] : List (List Int))), false))
    else (gQ l_1 r3.1 t_0 (aR.mk ([] : List Int) ([] : List (List Int))) BIG 0 ([] : List (List Int)) r3.1)

def jV (l_100 : List aF) (t_100 : aU) : Option Int :=
    (fF t_100 l_100).bind fun r5 =>
    bif !r5.2 then (some 72)
    else (some 0)

def gY (l_0 : List aF) (t_0 : aU) : Nat → Int → Option Int
  | 0, _ => none
  | k0 + 1, i_0 =>
    bif decide (i_0 < (l_0.length : Int)) then ((idx l_0 i_0).bind fun x3 =>
    (nY t_0 x3).bind fun r4 =>
    bif !r4 then (some 71)
    else ((gY l_0 t_0 k0) (w64 (i_0 + 1))))
    else (jV l_0 t_0)

def fI (t_0 : aU) (l_1 : List aF) : Option Int :=
    (lQ t_0).bind fun r2 =>
    bif !r2 then (some 70)
    else (bif decide (60 < (l_1.length : Int)) then (some 71)
    else (gY l_1 t_0 BIG 0))

def dR (n_0 : Int) (low_1 : Int) (high_2 : Int) : Option Bool :=
    (bif decide (low_1 ≤ n_0) then (some (decide (n_0 ≤ high_2))) else (some false)).bind fun b1 =>
    some b1

def vU : Option Bool :=
    some false

def iD (player_0 : Int) (p_0 : aQ) : Nat → Int → Option Bool
  | 0, _ => none
  | k0 + 1, i_0 =>
    bif decide (i_0 < (p_0.Teams.length : Int)) then ((idx p_0.Teams i_0).bind fun x2 =>
    bif decide (x2.Player = player_0) then (some true)
    else ((iD player_0 p_0 k0) (w64 (i_0 + 1))))
    else (vU)

def lB (p_0 : aQ) (player_1 : Int) : Option Bool :=
    iD player_1 p_0 BIG 0

def qE (again0 : Int → Option Bool) (i_101 : Int) (p_101 : aQ) : Option Bool :=
    again0 (w64 (i_101 + 1))

def qF (again0 : Int → Option Bool) (i_102 : Int) (p_102 : aQ) : Option Bool :=
    qE again0 i_102 p_102

def fR (again0 : Int → Option Bool) (i_2 : Int) (p_2 : aQ) (t_2 : bX) : Nat → Int → Option Bool
  | 0, _ => none
  | k2 + 1, k_2 =>
    bif decide (k_2 < i_2) then ((idx p_2.Teams k_2).bind fun x10 =>
    (bif decide (x10.Player = t_2.Player) then (some true) else (some (decide (x10.One = t_2.One)))).bind fun b12 =>
    (bif b12 then (some true) else (some (decide (x10.Two = t_2.One)))).bind fun b13 =>
    (bif b13 then (some true) else ((bif decide (0 ≤ t_2.Two) then ((bif decide (x10.One = t_2.Two) then (some true) else (some (decide (x10.Two = t_2.Two)))).bind fun b14 =>
    some b14) else (some false)).bind fun b15 =>
    some b15)).bind fun b16 =>
    bif b16 then (some false)
    else ((fR again0 i_2 p_2 t_2 k2) (w64 (k_2 + 1))))
    else (qF again0 i_2 p_2)

def mT (p_106 : aQ) : Option Bool :=
    some (decide ((p_106.Teams.length : Int) ≤ 64))

def gT (p_6 : aQ) : Nat → Int → Option Bool
  | 0, _ => none
  | k6 + 1, i_6 =>
    bif decide (i_6 < (p_6.Slips.length : Int)) then ((idx p_6.Slips i_6).bind fun x21 =>
    (bif decide (x21.Kind = 5) then ((idx p_6.Slips i_6).bind fun x22 =>
    (lB p_6 x22.Player).bind fun r23 =>
    some (!r23)) else (some false)).bind fun b24 =>
    bif b24 then (some false)
    else ((gT p_6 k6) (w64 (i_6 + 1))))
    else (mT p_6)

def kA (p_104 : aQ) : Option Bool :=
    gT p_104 BIG 0

def gS (p_4 : aQ) : Nat → Int → Option Bool
  | 0, _ => none
  | k4 + 1, i_4 =>
    bif decide (i_4 < (p_4.Tree.Slots.length : Int)) then ((idx p_4.Tree.Slots i_4).bind fun x17 =>
    (bif !decide (x17 = (-1)) then ((idx p_4.Tree.Slots i_4).bind fun x18 =>
    (lB p_4 x18).bind fun r19 =>
    some (!r19)) else (some false)).bind fun b20 =>
    bif b20 then (some false)
    else ((gS p_4 k4) (w64 (i_4 + 1))))
    else (kA p_4)

def jZ (p_100 : aQ) : Option Bool :=
    gS p_100 BIG 0

def fQ (p_0 : aQ) : Nat → Int → Option Bool
  | 0, _ => none
  | k0 + 1, i_0 =>
    bif decide (i_0 < (p_0.Teams.length : Int)) then ((idx p_0.Teams i_0).bind fun x2 =>
    (dR x2.Player 0 999).bind fun r4 =>
    (bif !r4 then (some true) else ((dR x2.One 0 999).bind fun r5 =>
    some (!r5))).bind fun b6 =>
    (bif b6 then (some true) else ((dR x2.Two (-1) 999).bind fun r7 =>
    some (!r7))).bind fun b8 =>
    (bif b8 then (some true) else (some (decide (x2.One = x2.Two)))).bind fun b9 =>
    bif b9 then (some false)
    else (fR (fQ p_0 k0) i_0 p_0 x2 BIG 0))
    else (jZ p_0)

def jW (p_0 : aQ) : Option Bool :=
    fQ p_0 BIG 0

def xX (t_100 : bX) : Option (bX × Bool × Bool) :=
    some ((bX.mk 0 0 0), false, false)

def jG (person_0 : Int) (p_0 : aQ) : Nat → Int → bX → Option (bX × Bool × Bool)
  | 0, _, _ => none
  | k0 + 1, i_0, t_0 =>
    bif decide (i_0 < (p_0.Teams.length : Int)) then ((idx p_0.Teams i_0).bind fun x3 =>
    (bif decide (x3.One = person_0) then (some true) else ((idx p_0.Teams i_0).bind fun x4 =>
    (bif decide (x4.Two = person_0) then (some (decide (0 ≤ person_0))) else (some false)).bind fun b5 =>
    some b5)).bind fun b6 =>
    bif b6 then ((idx p_0.Teams i_0).bind fun x7 =>
    (idx p_0.Teams i_0).bind fun x8 =>
    some (x7, decide (x8.Two = person_0), true))
    else ((jG person_0 p_0 k0) (w64 (i_0 + 1)) t_0))
    else (xX t_0)

def pL (p_0 : aQ) (person_1 : Int) : Option (bX × Bool × Bool) :=
    jG person_1 p_0 BIG 0 (bX.mk 0 0 0)

def hY (p_0 : aQ) (person_1 : Int) : Option Bool :=
    (pL p_0 person_1).bind fun r2 =>
    (bif r2.2.2 then (some (decide (0 ≤ person_1))) else (some false)).bind fun b4 =>
    some b4

def pZ (again0 : Int → Option Bool) (i_101 : Int) (p_101 : aQ) : Option Bool :=
    again0 (w64 (i_101 + 1))

def qA (again0 : Int → Option Bool) (i_102 : Int) (p_102 : aQ) : Option Bool :=
    pZ again0 i_102 p_102

def fO (again0 : Int → Option Bool) (i_2 : Int) (p_2 : aQ) : Nat → Int → Option Bool
  | 0, _ => none
  | k2 + 1, k_2 =>
    bif decide (k_2 < i_2) then ((idx p_2.Levies k_2).bind fun x7 =>
    (idx p_2.Levies i_2).bind fun x8 =>
    bif decide (x7.Person = x8.Person) then (some false)
    else ((fO again0 i_2 p_2 k2) (w64 (k_2 + 1))))
    else (qA again0 i_2 p_2)

def qC (again4 : Int → Option Bool) (i_105 : Int) (p_105 : aQ) : Option Bool :=
    again4 (w64 (i_105 + 1))

def qD (again4 : Int → Option Bool) (i_106 : Int) (p_106 : aQ) : Option Bool :=
    qC again4 i_106 p_106

def fP (again4 : Int → Option Bool) (i_6 : Int) (p_6 : aQ) (r_6 : eM) : Nat → Int → Option Bool
  | 0, _ => none
  | k6 + 1, k_6 =>
    bif decide (k_6 < i_6) then ((idx p_6.Rates k_6).bind fun x16 =>
    bif decide (x16.Person = r_6.Person) then (some false)
    else ((fP again4 i_6 p_6 r_6 k6) (w64 (k_6 + 1))))
    else (qD again4 i_6 p_6)

def qB : Option Bool :=
    some true

def dL (p_4 : aQ) : Nat → Int → Option Bool
  | 0, _ => none
  | k4 + 1, i_4 =>
    bif decide (i_4 < (p_4.Rates.length : Int)) then ((idx p_4.Rates i_4).bind fun x9 =>
    (hY p_4 x9.Person).bind fun r11 =>
    (bif !r11 then (some true) else ((dR x9.Num 1 10000).bind fun r12 =>
    some (!r12))).bind fun b13 =>
    (bif b13 then (some true) else ((dR x9.Den 1 10000).bind fun r14 =>
    some (!r14))).bind fun b15 =>
    bif b15 then (some false)
    else (fP (dL p_4 k4) i_4 p_4 x9 BIG 0))
    else (qB)

def jY (p_100 : aQ) : Option Bool :=
    dL p_100 BIG 0

def dK (p_0 : aQ) : Nat → Int → Option Bool
  | 0, _ => none
  | k0 + 1, i_0 =>
    bif decide (i_0 < (p_0.Levies.length : Int)) then ((idx p_0.Levies i_0).bind fun x2 =>
    (hY p_0 x2.Person).bind fun r3 =>
    (bif !r3 then (some true) else ((idx p_0.Levies i_0).bind fun x4 =>
    (dR x4.Mille 0 500).bind fun r5 =>
    some (!r5))).bind fun b6 =>
    bif b6 then (some false)
    else (fO (dK p_0 k0) i_0 p_0 BIG 0))
    else (jY p_0)

def mE (p_0 : aQ) : Option Bool :=
    dK p_0 BIG 0

def pX (again0 : Int → Option Bool) (i_101 : Int) (p_101 : aQ) : Option Bool :=
    again0 (w64 (i_101 + 1))

def pY (again0 : Int → Option Bool) (i_102 : Int) (p_102 : aQ) : Option Bool :=
    pX again0 i_102 p_102

def fN (again0 : Int → Option Bool) (i_2 : Int) (p_2 : aQ) (x_2 : aH) : Nat → Int → Option Bool
  | 0, _ => none
  | k2 + 1, k_2 =>
    bif decide (k_2 < i_2) then ((idx p_2.Items k_2).bind fun x13 =>
    (bif decide (x13.Id = x_2.Id) then ((idx p_2.Items k_2).bind fun x14 =>
    some (!decide (x14 = x_2))) else (some false)).bind fun b15 =>
    bif b15 then (some false)
    else ((fN again0 i_2 p_2 x_2 k2) (w64 (k_2 + 1))))
    else (pY again0 i_2 p_2)

def mS (p_100 : aQ) : Option Bool :=
    some (decide ((p_100.Items.length : Int) ≤ 40))

def dJ (p_0 : aQ) : Nat → Int → Option Bool
  | 0, _ => none
  | k0 + 1, i_0 =>
    bif decide (i_0 < (p_0.Items.length : Int)) then ((idx p_0.Items i_0).bind fun x2 =>
    (dR x2.Id 0 99).bind fun r4 =>
    (bif !r4 then (some true) else ((hY p_0 x2.Person).bind fun r5 =>
    some (!r5))).bind fun b6 =>
    (bif b6 then (some true) else ((bif decide (x2.Kind = 1) then ((dR x2.Amount 0 10000000).bind fun r7 =>
    some r7) else (some false)).bind fun b8 =>
    (bif b8 then (some true) else ((bif decide (x2.Kind = 2) then ((dR x2.Amount 0 30).bind fun r9 =>
    some r9) else (some false)).bind fun b10 =>
    some b10)).bind fun b11 =>
    some (!b11))).bind fun b12 =>
    bif b12 then (some false)
    else (fN (dJ p_0 k0) i_0 p_0 x2 BIG 0))
    else (mS p_0)

def mD (p_0 : aQ) : Option Bool :=
    dJ p_0 BIG 0

def pE (p_100 : aQ) : Option Int :=
    (bif !decide ((p_100.Prizes.length : Int) = (w64 (p_100.Tree.Rounds + 1))) then (some true) else ((dR p_100.Daily 0 100000).bind fun r9 =>
    some (!r9))).bind fun b10 =>
    bif b10 then (some 100)
    else ((jW p_100).bind fun r11 =>
    (bif !r11 then (some true) else ((mE p_100).bind fun r12 =>
    some (!r12))).bind fun b13 =>
    bif b13 then (some 101)
    else ((mD p_100).bind fun r14 =>
    bif !r14 then (some 102)
    else (some 0)))

def hJ (p_0 : aQ) : Nat → Int → Option Int
  | 0, _ => none
  | k0 + 1, i_0 =>
    bif decide (i_0 < (p_0.Prizes.length : Int)) then ((idx p_0.Prizes i_0).bind fun x3 =>
    (dR x3 0 10000000).bind fun r4 =>
    (bif !r4 then (some true) else ((bif decide (0 < i_0) then ((idx p_0.Prizes i_0).bind fun x5 =>
    (idx p_0.Prizes (w64 (i_0 - 1))).bind fun x6 =>
    some (decide (x5 < x6))) else (some false)).bind fun b7 =>
    some b7)).bind fun b8 =>
    bif b8 then (some 100)
    else ((hJ p_0 k0) (w64 (i_0 + 1))))
    else (pE p_0)

def oW (p_0 : aQ) : Option Int :=
    (fI p_0.Tree p_0.Slips).bind fun r2 =>
    bif !decide (r2 = 0) then (some r2)
    else (hJ p_0 BIG 0)

def mK (p_0 : aQ) : Option Bool :=
    (mJ p_0).bind fun r2 =>
    (bif !r2 then ((oW p_0).bind fun r3 =>
    some (decide (r3 = 0))) else (some false)).bind fun b4 =>
    some b4

def mY : Option aQ :=
    some (aQ.mk (aU.mk 2 ([1, 2, 3, 4])) ([(aF.mk 1 0 0 1 0)]) ([100, 300, 1001]) 40 ([(bX.mk 1 11 12), (bX.mk 2 21 22), (bX.mk 3 31 (-1)), (bX.mk 4 41 (-1))]) ([(fS.mk 11 250)]) ([(eM.mk 21 3 2), (eM.mk 22 1 3)]) ([(aH.mk 1 1 21 30), (aH.mk 2 2 11 2), (aH.mk 3 1 31 160)]))

def fT (n_0 : Int) (low_1 : Int) (high_2 : Int) : Option Bool :=
    (bif decide (low_1 ≤ n_0) then (some (decide (n_0 ≤ high_2))) else (some false)).bind fun b1 =>
    some b1

def uG : Option Bool :=
    some true

def iS (t21_0 : List Int) (t22_0 : Int) (t_0 : aU) : Nat → Int → (List (Int × Int)) → Option Bool
  | 0, _, _ => none
  | k0 + 1, t23_0, o19_0 =>
    bif decide (t23_0 < t22_0) then ((idx t21_0 t23_0).bind fun x6 =>
    bif decide (x6 = (-1)) then ((idx t_0.Slots (aNc t23_0 1)).bind fun x7 =>
    bif decide (x7 = (-1)) then (some false)
    else ((iS t21_0 t22_0 t_0 k0) (w64 (t23_0 + 1)) o19_0))
    else ((bif decide (1 < (cU x6 0 (gL x6 (w64 ((cU x6 0 o19_0) + 1)) o19_0))) then (some true) else ((fT x6 0 999).bind fun r8 =>
    some (!r8))).bind fun b9 =>
    bif b9 then (some false)
    else ((iS t21_0 t22_0 t_0 k0) (w64 (t23_0 + 1)) (gL x6 (w64 ((cU x6 0 o19_0) + 1)) o19_0))))
    else (uG)

def oO (t_0 : aU) : Option Bool :=
    (fT t_0.Rounds 1 5).bind fun r2 =>
    (bif !r2 then (some true) else ((chk (decide (0 ≤ t_0.Rounds))).bind fun u3 =>
    some (!decide ((t_0.Slots.length : Int) = (w64 (1 * 2 ^ (min t_0.Rounds.toNat 64))))))).bind fun b4 =>
    bif b4 then (some false)
    else (iS t_0.Slots (t_0.Slots.length : Int) t_0 BIG 0 ([] : List (Int × Int)))

def mQ : Option Int :=
    some (-1)

def eY (s_0 : List aF) (f_0 : aF → Option Bool) (t7_0 : Int) : Nat → Int → Option Int
  | 0, _ => none
  | k0 + 1, t8_0 =>
    bif decide (t8_0 < t7_0) then ((idx s_0 t8_0).bind fun x1 =>
    (f_0 x1).bind fun r2 =>
    bif r2 then (some t8_0)
    else ((eY s_0 f_0 t7_0 k0) (w64 (t8_0 + 1))))
    else (mQ)

def jB (s_0 : List aF) (f_1 : aF → Option Bool) : Option Int :=
    eY s_0 f_1 (s_0.length : Int) BIG 0

def iE (s_0 : List aF) (f_1 : aF → Option Bool) : Option Bool :=
    (jB s_0 f_1).bind fun r1 =>
    some (decide (0 ≤ r1))

def oV (m_0 : aG) (t_1 : aU) : Option Bool :=
    (fT m_0.round 0 (w64 (t_1.Rounds - 1))).bind fun r3 =>
    (bif r3 then ((chk (decide (0 ≤ (w64 (m_0.round + 1))))).bind fun u4 =>
    (fT m_0.place 0 (w64 (((t_1.Slots.length : Int).fdiv (2 ^ (min (w64 (m_0.round + 1)).toNat 64))) - 1))).bind fun r5 =>
    some r5) else (some false)).bind fun b6 =>
    some b6

def sR : Option Int :=
    some (-1)

def iY (s_0 : List Int) (v_0 : Int) (t7_0 : Int) : Nat → Int → Option Int
  | 0, _ => none
  | k0 + 1, t8_0 =>
    bif decide (t8_0 < t7_0) then ((idx s_0 t8_0).bind fun x1 =>
    bif decide (v_0 = x1) then (some t8_0)
    else ((iY s_0 v_0 t7_0 k0) (w64 (t8_0 + 1))))
    else (sR)

def gU (s_0 : List Int) (v_1 : Int) : Option Int :=
    iY s_0 v_1 (s_0.length : Int) BIG 0

def dE (s_0 : List Int) (v_1 : Int) : Option Bool :=
    (gU s_0 v_1).bind fun r1 =>
    some (decide (0 ≤ r1))

def qQ (t_0 : aU) (s_1 : aF) : Option Bool :=
    (fT s_1.Player 0 999).bind fun r3 =>
    bif !r3 then (some false)
    else (bif decide (s_1.Kind = 5) then ((bif decide (s_1.Round = 0) then ((fT s_1.Place 0 (w64 ((t_0.Slots.length : Int) - 1))).bind fun r4 =>
    some r4) else (some false)).bind fun b5 =>
    (bif b5 then ((fT s_1.Old 0 999).bind fun r6 =>
    some r6) else (some false)).bind fun b7 =>
    some b7)
    else ((fT s_1.Kind 1 4).bind fun r9 =>
    (bif !r9 then (some true) else (some (!decide (s_1.Old = 0)))).bind fun b10 =>
    (bif b10 then (some true) else ((oV (aG.mk s_1.Round s_1.Place) t_0).bind fun r11 =>
    some (!r11))).bind fun b12 =>
    bif b12 then (some false)
    else ((bif decide (0 < s_1.Round) then (some true) else ((sub t_0.Slots (w64 (2 * s_1.Place)) (w64 ((w64 (2 * s_1.Place)) + 2))).bind fun x13 =>
    (dE x13 (-1)).bind fun r14 =>
    some (!r14))).bind fun b15 =>
    some b15)))

def oP (s_0 : aF) (c_1 : aU) : Option Bool :=
    (qQ c_1 s_0).bind fun r2 =>
    some (!r2)

def slices_Clone_int (s_0 : List Int) : Option ((List Int)) :=
    (app 8 ([] : List Int) s_0).bind fun x5 =>
    some x5

def oF (againQ : (aF × Bool) → Prop) (d_100 : List Int) (d_100_2 : aU) (lucky_100 : List (aF × Int)) (o6_100 : aF) : Prop :=
    againQ ((aF.mk 0 0 0 0 0), false)

def iN (againQ : (aF × Bool) → Prop) (slot_0 : Int) (d_0 : List Int) (d_0_2 : aU) (lucky_0 : List (aF × Int)) : Nat → aF → (List (aF × Int)) → Prop
  | 0, _, _ => False
  | k0 + 1, o6_0, left_0 =>
    aNx left_0 (oF againQ d_0 d_0_2 lucky_0 o6_0)
    (fun p5 left6 =>
    nb (bif decide (p5.1.Place = slot_0) then ((idx d_0 slot_0).bind fun x8 =>
    some (decide (p5.1.Old = x8))) else (some false)) fun b9 =>
    bif b9 then (againQ (p5.1, true))
    else ((iN againQ slot_0 d_0 d_0_2 lucky_0 k0) o6_0 left6))

def iR (d_0_Tree : aU) (d_0_players : List Int) (lucky_1 : List (aF × Int)) (slot_2 : Int) (Q : (aF × Bool) → Prop) : Prop :=
    aCb lucky_1 fun left3 =>
    iN Q slot_2 d_0_players d_0_Tree lucky_1 BIG (aF.mk 0 0 0 0 0) left3

def lY (againQ : (Bool × (List Int) × (List (aF × Int))) → Prop) (again0 : Int → (List Int) → (List (aF × Int)) → (List Int) → Prop) (t19_101 : Int) (t20_101 : Int) (d_101 : List Int) (d_101_2 : aU) (lucky_101 : List (aF × Int)) (o14_101 : List Int) : Prop :=
    again0 (w64 (t20_101 + 1)) d_101 lucky_101 o14_101

def lZ (againQ : (Bool × (List Int) × (List (aF × Int))) → Prop) (again0 : Int → (List Int) → (List (aF × Int)) → (List Int) → Prop) (t19_102 : Int) (t20_102 : Int) (d_102 : List Int) (d_102_2 : aU) (lucky_102 : List (aF × Int)) (o14_102 : List Int) : Prop :=
    lY againQ again0 t19_102 t20_102 d_102 d_102_2 lucky_102 o14_102

def eG (againQ : (Bool × (List Int) × (List (aF × Int))) → Prop) (again0 : Int → (List Int) → (List (aF × Int)) → (List Int) → Prop) (i_2 : Int) (t19_2 : Int) (t20_2 : Int) (d_2_2 : aU) : Nat → Bool → (List Int) → (List (aF × Int)) → aF → (List Int) → Prop
  | 0, _, _, _, _, _ => False
  | k2 + 1, isv_2, d_2, lucky_2, s_2, o14_2 =>
    bif isv_2 then (nb (dE o14_2 s_2.Player) fun r5 =>
    bif r5 then (againQ (false, d_2, lucky_2))
    else (nb (idx d_2 i_2) fun x6 =>
    nb (app 8 o14_2 ([s_2.Player])) fun x7 =>
    iR d_2_2 (d_2.set i_2.toNat s_2.Player) (qK s_2 lucky_2) i_2 fun r10 =>
    (eG againQ again0 i_2 t19_2 t20_2 d_2_2 k2) r10.2 (d_2.set i_2.toNat s_2.Player) (qK s_2 lucky_2) r10.1 x7))
    else (lZ againQ again0 t19_2 t20_2 d_2 d_2_2 lucky_2 o14_2)

def lX (againQ : (Bool × (List Int) × (List (aF × Int))) → Prop) (d_100 : List Int) (d_100_2 : aU) (lucky_100 : List (aF × Int)) : Prop :=
    againQ (decide ((lucky_100.length : Int) = 0), d_100, lucky_100)

def cW (againQ : (Bool × (List Int) × (List (aF × Int))) → Prop) (t19_0 : Int) (d_0_2 : aU) : Nat → Int → (List Int) → (List (aF × Int)) → (List Int) → Prop
  | 0, _, _, _, _ => False
  | k0 + 1, t20_0, d_0, lucky_0, o14_0 =>
    bif decide (t20_0 < t19_0) then (iR d_0_2 d_0 lucky_0 t20_0 fun r3 =>
    eG againQ (cW againQ t19_0 d_0_2 k0) t20_0 t19_0 t20_0 d_0_2 BIG r3.2 d_0 lucky_0 r3.1 o14_0)
    else (lX againQ d_0 d_0_2 lucky_0)

def lJ (d_0_Tree : aU) (d_0_players : List Int) (lucky_1 : List (aF × Int)) (Q : (Bool × (List Int) × (List (aF × Int))) → Prop) : Prop :=
    nb (slices_Clone_int d_0_Tree.Slots) fun r1 =>
    cW Q (d_0_players.length : Int) d_0_Tree BIG 0 d_0_players lucky_1 r1

def oG (round_0 : Int) (slot_1 : Int) : Option aG :=
    (chk (decide (0 ≤ (w64 (round_0 + 1))))).bind fun u2 =>
    some (aG.mk round_0 (slot_1.fdiv (2 ^ (min (w64 (round_0 + 1)).toNat 64))))

def rN (d_100 : List Int) (d_100_2 : List (aG × Int)) (d_100_3 : aU) : Option (Bool × (List (aG × Int))) :=
    some (true, d_100_2)

def iO (slot_0 : Int) (t12_0 : Int) (d_0 : List Int) (d_0_3 : aU) : Nat → Int → (List (aG × Int)) → Option (Bool × (List (aG × Int)))
  | 0, _, _ => none
  | k0 + 1, t13_0, d_0_2 =>
    bif decide (t13_0 < t12_0) then ((oG t13_0 slot_0).bind fun r1 =>
    (bif dS r1 d_0_2 then ((idx d_0 slot_0).bind fun x3 =>
    some (!decide ((cU r1 0 d_0_2) = x3))) else (some false)).bind fun b4 =>
    bif b4 then (some (false, d_0_2))
    else ((idx d_0 slot_0).bind fun x5 =>
    (iO slot_0 t12_0 d_0 d_0_3 k0) (w64 (t13_0 + 1)) (gL r1 x5 d_0_2)))
    else (rN d_0 d_0_2 d_0_3)

def lP (d_0_Tree : aU) (d_0_players : List Int) (d_0_won : List (aG × Int)) (slot_1 : Int) (round_2 : Int) : Option (Bool × (List (aG × Int))) :=
    iO slot_1 (w64 (round_2 + 1)) d_0_players d_0_Tree BIG 0 d_0_won

def vA (againQ : ((Option bB) × Bool) → Prop) (o22_104 : List Int) (o23_104 : List (aG × Int)) (o25_104 : aU) : Prop :=
    againQ ((some (bB.mk o25_104 o22_104 o23_104)), true)

def kI (againQ : ((Option bB) × Bool) → Prop) (o22_4 : List Int) (o25_4 : aU) (o27_4 : List (aG × aF)) : Nat → (List (aG × Int)) → (List (aG × aF)) → Prop
  | 0, _, _ => False
  | k4 + 1, o23_4, left_4 =>
    aNx left_4 (vA againQ o22_4 o23_4 o25_4)
    (fun p23 left24 =>
    nb (gU o22_4 p23.2.Player) fun r27 =>
    nb (bif decide (r27 < 0) then (some true) else ((oG p23.1.round r27).bind fun r28 =>
    some (!decide (r28 = p23.1)))) fun b29 =>
    bif b29 then (againQ ((none : Option bB), false))
    else (nb (lP o25_4 o22_4 o23_4 r27 p23.1.round) fun r31 =>
    bif !r31.1 then (againQ ((none : Option bB), false))
    else ((kI againQ o22_4 o25_4 o27_4 k4) r31.2 left24)))

def rM (againQ : ((Option bB) × Bool) → Prop) (o22_102 : List Int) (o23_102 : List (aG × Int)) (o25_102 : aU) (o27_102 : List (aG × aF)) : Prop :=
    aCb o27_102 fun left21 =>
    kI againQ o22_102 o25_102 o27_102 BIG o23_102 left21

def iM (againQ : ((Option bB) × Bool) → Prop) (t72_2 : Int) (o22_2 : List Int) (o25_2 : aU) (o27_2 : List (aG × aF)) : Nat → Int → (List (aG × Int)) → Prop
  | 0, _, _ => False
  | k2 + 1, t73_2, o23_2 =>
    bif decide (t73_2 < t72_2) then (nb (idx o22_2 t73_2) fun x16 =>
    bif decide (x16 = (-1)) then (nb (lP o25_2 o22_2 o23_2 (aNc t73_2 1) 0) fun r17 =>
    (iM againQ t72_2 o22_2 o25_2 o27_2 k2) (w64 (t73_2 + 1)) r17.2)
    else ((iM againQ t72_2 o22_2 o25_2 o27_2 k2) (w64 (t73_2 + 1)) o23_2))
    else (rM againQ o22_2 o23_2 o25_2 o27_2)

def rL (againQ : ((Option bB) × Bool) → Prop) (o22_100 : List Int) (o23_100 : List (aG × Int)) (o25_100 : aU) (o26_100 : List (aF × Int)) (o27_100 : List (aG × aF)) : Prop :=
    lJ o25_100 o22_100 o26_100 fun r13 =>
    bif !r13.1 then (againQ ((none : Option bB), false))
    else (iM againQ (r13.2.1.length : Int) r13.2.1 o25_100 o27_100 BIG 0 o23_100)

def iL (againQ : ((Option bB) × Bool) → Prop) (t28_0 : List aF) (t29_0 : Int) (o22_0 : List Int) (o23_0 : List (aG × Int)) (o25_0 : aU) : Nat → Int → (List (aF × Int)) → (List (aG × aF)) → Prop
  | 0, _, _, _ => False
  | k0 + 1, t30_0, o26_0, o27_0 =>
    bif decide (t30_0 < t29_0) then (nb (idx t28_0 t30_0) fun x8 =>
    bif decide (x8.Kind = 5) then ((iL againQ t28_0 t29_0 o22_0 o23_0 o25_0 k0) (w64 (t30_0 + 1)) (gL x8 (w64 ((cU x8 0 o26_0) + 1)) o26_0) o27_0)
    else (nb (bif dS (aG.mk x8.Round x8.Place) o27_0 then (some (!decide ((cU (aG.mk x8.Round x8.Place) (aF.mk 0 0 0 0 0) o27_0) = x8))) else (some false)) fun b12 =>
    bif b12 then (againQ ((none : Option bB), false))
    else ((iL againQ t28_0 t29_0 o22_0 o23_0 o25_0 k0) (w64 (t30_0 + 1)) o26_0 (gL (aG.mk x8.Round x8.Place) x8 o27_0))))
    else (rL againQ o22_0 o23_0 o25_0 o26_0 o27_0)

def rY (t_0 : aU) (l_1 : List aF) (Q : ((Option bB) × Bool) → Prop) : Prop :=
    nb (slices_Clone_int t_0.Slots) fun r2 =>
    iL Q l_1 (l_1.length : Int) r2 ([] : List (aG × Int)) t_0 BIG 0 ([] : List (aF × Int)) ([] : List (aG × aF))

def mX (t_0 : aU) (l_1 : List aF) (Q : ((Option bB) × Int) → Prop) : Prop :=
    nb (oO t_0) fun r2 =>
    bif !r2 then (Q ((none : Option bB), 70))
    else (nb (bif decide (60 < (l_1.length : Int)) then (some true) else ((iE l_1 (fun y3 => oP y3 t_0)).bind fun r4 =>
    some r4)) fun b5 =>
    bif b5 then (Q ((none : Option bB), 71))
    else (rY t_0 l_1 fun r6 =>
    bif !r6.2 then (Q ((none : Option bB), 72))
    else (Q (r6.1, 0))))

def rX (t_0 : aU) (l_1 : List aF) (Q : Int → Prop) : Prop :=
    mX t_0 l_1 fun r2 =>
    Q r2.2

def rZ (x_0 : Int) : Option Bool :=
    some (!decide (x_0 = x_0))

def sX (x_0 : Int) (y_1 : Int) : Option Bool :=
    (rZ x_0).bind fun r1 =>
    (bif r1 then ((rZ y_1).bind fun r2 =>
    some (!r2)) else (some false)).bind fun b3 =>
    (bif b3 then (some true) else (some (decide (x_0 < y_1)))).bind fun b4 =>
    some b4

def uS : Option Bool :=
    some true

def gV (x_0 : List Int) : Nat → Int → Option Bool
  | 0, _ => none
  | k0 + 1, i_0 =>
    bif decide (0 < i_0) then ((idx x_0 i_0).bind fun x1 =>
    (idx x_0 (w64 (i_0 - 1))).bind fun x2 =>
    (sX x1 x2).bind fun r3 =>
    bif r3 then (some false)
    else ((gV x_0 k0) (w64 (i_0 - 1))))
    else (uS)

def mF (x_0 : List Int) : Option Bool :=
    gV x_0 BIG (w64 ((x_0.length : Int) - 1))

def gB (n_0 : Int) (low_1 : Int) (high_2 : Int) : Option Bool :=
    (bif decide (low_1 ≤ n_0) then (some (decide (n_0 ≤ high_2))) else (some false)).bind fun b1 =>
    some b1

def sF (p_0 : aQ) : Option Bool :=
    (bif !decide ((p_0.Prizes.length : Int) = (w64 (p_0.Tree.Rounds + 1))) then (some true) else ((mF p_0.Prizes).bind fun r2 =>
    some (!r2))).bind fun b3 =>
    (bif b3 then (some true) else ((gB p_0.Daily 0 100000).bind fun r4 =>
    some (!r4))).bind fun b5 =>
    bif b5 then (some false)
    else ((idx p_0.Prizes 0).bind fun x6 =>
    (bif decide (0 ≤ x6) then ((idx p_0.Prizes (w64 ((p_0.Prizes.length : Int) - 1))).bind fun x7 =>
    some (decide (x7 ≤ 10000000))) else (some false)).bind fun b8 =>
    some b8)

def slices_Sort_int (x : List Int) : Option (List Int) := if x.length < 4611686018427387904 then some (eO x) else none

def rV (out_100 : List Int) : Option ((List Int)) :=
    (slices_Sort_int out_100).bind fun r9 =>
    some r9

def jI (t7_0 : List bX) (t8_0 : Int) : Nat → Int → (List Int) → Option ((List Int))
  | 0, _, _ => none
  | k0 + 1, t9_0, out_0 =>
    bif decide (t9_0 < t8_0) then ((idx t7_0 t9_0).bind fun x3 =>
    (app 8 out_0 ([x3.One])).bind fun x5 =>
    bif !decide (x3.Two = (-1)) then ((app 8 x5 ([x3.Two])).bind fun x7 =>
    (jI t7_0 t8_0 k0) (w64 (t9_0 + 1)) x7)
    else ((jI t7_0 t8_0 k0) (w64 (t9_0 + 1)) x5))
    else (rV out_0)

def nT (p_0 : aQ) : Option ((List Int)) :=
    jI p_0.Teams (p_0.Teams.length : Int) BIG 0 ([] : List Int)

def rE (again0 : Int → (List Int) → Option ((List Int))) (k_102 : Int) (s_102 : List Int) : Option ((List Int)) :=
    (chk (decide (0 ≤ k_102) && decide (k_102 ≤ (s_102.length : Int)))).bind fun u9 =>
    (chk (decide (k_102.toNat ≤ s_102.length))).bind fun u10 =>
    (chk (decide (0 ≤ k_102))).bind fun u11 =>
    some (s_102.take k_102.toNat)

def gI (again0 : Int → (List Int) → Option ((List Int))) (s2_2 : Int) : Nat → Int → Int → (List Int) → Option ((List Int))
  | 0, _, _, _ => none
  | k2 + 1, k_2, k2_2, s_2 =>
    bif decide (k2_2 < ((s_2.drop s2_2.toNat).length : Int)) then ((idx (s_2.drop s2_2.toNat) k2_2).bind fun x5 =>
    (idx (s_2.drop s2_2.toNat) (w64 (k2_2 - 1))).bind fun x6 =>
    bif !decide (x5 = x6) then ((idx (s_2.drop s2_2.toNat) k2_2).bind fun x7 =>
    (idx s_2 k_2).bind fun x8 =>
    (gI again0 s2_2 k2) (w64 (k_2 + 1)) (w64 (k2_2 + 1)) (s_2.set k_2.toNat x7))
    else ((gI again0 s2_2 k2) k_2 (w64 (k2_2 + 1)) s_2))
    else (rE again0 k_2 s_2)

def rD (again0 : Int → (List Int) → Option ((List Int))) (k_101 : Int) (s_101 : List Int) : Option ((List Int)) :=
    again0 (w64 (k_101 + 1)) s_101

def rC (s_100 : List Int) : Option ((List Int)) :=
    some s_100

def eT : Nat → Int → (List Int) → Option ((List Int))
  | 0, _, _ => none
  | k0 + 1, k_0, s_0 =>
    bif decide (k_0 < (s_0.length : Int)) then ((idx s_0 k_0).bind fun x2 =>
    (idx s_0 (w64 (k_0 - 1))).bind fun x3 =>
    bif decide (x2 = x3) then ((chk (decide (0 ≤ k_0) && decide (k_0 ≤ (s_0.length : Int)))).bind fun u4 =>
    gI (eT k0) k_0 BIG k_0 1 s_0)
    else (rD (eT k0) k_0 s_0))
    else (rC s_0)

def slices_Compact_int (s_0 : List Int) : Option ((List Int)) :=
    bif decide ((s_0.length : Int) < 2) then (some s_0)
    else (eT BIG 1 s_0)

def nP (l_0 : List Int) : Option Bool :=
    (slices_Clone_int l_0).bind fun r1 =>
    (slices_Compact_int r1).bind fun r3 =>
    some (decide ((r3.length : Int) = (l_0.length : Int)))

def tO : Option Bool :=
    some true

def fZ (people_0 : List Int) (ofv_0 : fS → Option (Int × Bool)) (t12_0 : List fS) (t13_0 : Int) : Nat → Int → (List Int) → Option Bool
  | 0, _, _ => none
  | k0 + 1, t14_0, done_0 =>
    bif decide (t14_0 < t13_0) then ((idx t12_0 t14_0).bind fun x2 =>
    (ofv_0 x2).bind fun r4 =>
    (bif !r4.2 then (some true) else ((dE people_0 r4.1).bind fun r5 =>
    some (!r5))).bind fun b6 =>
    (bif b6 then (some true) else ((dE done_0 r4.1).bind fun r7 =>
    some r7)).bind fun b8 =>
    bif b8 then (some false)
    else ((app 8 done_0 ([r4.1])).bind fun x9 =>
    (fZ people_0 ofv_0 t12_0 t13_0 k0) (w64 (t14_0 + 1)) x9))
    else (tO)

def lC (people_0 : List Int) (l_1 : List fS) (of_2 : fS → Option (Int × Bool)) : Option Bool :=
    fZ people_0 of_2 l_1 (l_1.length : Int) BIG 0 ([] : List Int)

def kN (l_0 : fS) : Option (Int × Bool) :=
    (gB l_0.Mille 0 500).bind fun r2 =>
    some (l_0.Person, r2)

def tP : Option Bool :=
    some true

def gA (people_0 : List Int) (ofv_0 : eM → Option (Int × Bool)) (t12_0 : List eM) (t13_0 : Int) : Nat → Int → (List Int) → Option Bool
  | 0, _, _ => none
  | k0 + 1, t14_0, done_0 =>
    bif decide (t14_0 < t13_0) then ((idx t12_0 t14_0).bind fun x2 =>
    (ofv_0 x2).bind fun r4 =>
    (bif !r4.2 then (some true) else ((dE people_0 r4.1).bind fun r5 =>
    some (!r5))).bind fun b6 =>
    (bif b6 then (some true) else ((dE done_0 r4.1).bind fun r7 =>
    some r7)).bind fun b8 =>
    bif b8 then (some false)
    else ((app 8 done_0 ([r4.1])).bind fun x9 =>
    (gA people_0 ofv_0 t12_0 t13_0 k0) (w64 (t14_0 + 1)) x9))
    else (tP)

def lD (people_0 : List Int) (l_1 : List eM) (of_2 : eM → Option (Int × Bool)) : Option Bool :=
    gA people_0 of_2 l_1 (l_1.length : Int) BIG 0 ([] : List Int)

def kO (r_0 : eM) : Option (Int × Bool) :=
    (gB r_0.Num 1 10000).bind fun r2 =>
    (bif r2 then ((gB r_0.Den 1 10000).bind fun r3 =>
    some r3) else (some false)).bind fun b4 =>
    some (r_0.Person, b4)

def oC (people_104 : List Int) (p_104 : aQ) : Option Bool :=
    (lC people_104 p_104.Levies (fun y24 => kN y24)).bind fun r25 =>
    (bif r25 then ((lD people_104 p_104.Rates (fun y26 => kO y26)).bind fun r27 =>
    some r27) else (some false)).bind fun b28 =>
    some b28

def jQ (people_4 : List Int) (t76_4 : List aF) (t77_4 : Int) (p_4 : aQ) (players_4 : List Int) : Nat → Int → Option Bool
  | 0, _ => none
  | k4 + 1, t78_4 =>
    bif decide (t78_4 < t77_4) then ((idx t76_4 t78_4).bind fun x20 =>
    (bif decide (x20.Kind = 5) then ((dE players_4 x20.Player).bind fun r22 =>
    some (!r22)) else (some false)).bind fun b23 =>
    bif b23 then (some false)
    else ((jQ people_4 t76_4 t77_4 p_4 players_4 k4) (w64 (t78_4 + 1))))
    else (oC people_4 p_4)

def oB (people_102 : List Int) (p_102 : aQ) (players_102 : List Int) : Option Bool :=
    jQ people_102 p_102.Slips (p_102.Slips.length : Int) p_102 players_102 BIG 0

def iU (people_2 : List Int) (t60_2 : List Int) (t61_2 : Int) (p_2 : aQ) (players_2 : List Int) : Nat → Int → Option Bool
  | 0, _ => none
  | k2 + 1, t62_2 =>
    bif decide (t62_2 < t61_2) then ((idx t60_2 t62_2).bind fun x17 =>
    (bif !decide (x17 = (-1)) then ((dE players_2 x17).bind fun r18 =>
    some (!r18)) else (some false)).bind fun b19 =>
    bif b19 then (some false)
    else ((iU people_2 t60_2 t61_2 p_2 players_2 k2) (w64 (t62_2 + 1))))
    else (oB people_2 p_2 players_2)

def oA (p_100 : aQ) (players_100 : List Int) : Option Bool :=
    (slices_Sort_int players_100).bind fun r12 =>
    (nT p_100).bind fun r13 =>
    (nP r12).bind fun r14 =>
    (bif !r14 then (some true) else ((nP r13).bind fun r15 =>
    some (!r15))).bind fun b16 =>
    bif b16 then (some false)
    else (iU r13 p_100.Tree.Slots (p_100.Tree.Slots.length : Int) p_100 r12 BIG 0)

def jP (t18_0 : List bX) (t19_0 : Int) (p_0 : aQ) : Nat → Int → (List Int) → Option Bool
  | 0, _, _ => none
  | k0 + 1, t20_0, players_0 =>
    bif decide (t20_0 < t19_0) then ((idx t18_0 t20_0).bind fun x3 =>
    (gB x3.Player 0 999).bind fun r5 =>
    (bif !r5 then (some true) else ((gB x3.One 0 999).bind fun r6 =>
    some (!r6))).bind fun b7 =>
    (bif b7 then (some true) else ((gB x3.Two (-1) 999).bind fun r8 =>
    some (!r8))).bind fun b9 =>
    bif b9 then (some false)
    else ((app 8 players_0 ([x3.Player])).bind fun x10 =>
    (jP t18_0 t19_0 p_0 k0) (w64 (t20_0 + 1)) x10))
    else (oA p_0 players_0)

def qZ (p_0 : aQ) : Option Bool :=
    bif decide (64 < (p_0.Teams.length : Int)) then (some false)
    else (jP p_0.Teams (p_0.Teams.length : Int) p_0 BIG 0 ([] : List Int))

def lE (s_0 : List aH) : Option ((List aH)) :=
    (app 32 ([] : List aH) s_0).bind fun x5 =>
    some x5

def fW (again0 : Int → (List aH) → Option ((List aH))) (a_101 : Int) (b_101 : Int) (cmp_101 : aH → aH → Option Int) (i_101 : Int) (data_101 : List aH) : Option ((List aH)) :=
    again0 (w64 (i_101 + 1)) data_101

def fX (again0 : Int → (List aH) → Option ((List aH))) (a_102 : Int) (b_102 : Int) (cmp_102 : aH → aH → Option Int) (i_102 : Int) (data_102 : List aH) : Option ((List aH)) :=
    fW again0 a_102 b_102 cmp_102 i_102 data_102

def cS (again0 : Int → (List aH) → Option ((List aH))) (a_2 : Int) (b_2 : Int) (cmp_2 : aH → aH → Option Int) (i_2 : Int) : Nat → Int → (List aH) → Option ((List aH))
  | 0, _, _ => none
  | k2 + 1, j_2, data_2 =>
    (bif decide (a_2 < j_2) then ((idx data_2 j_2).bind fun x1 =>
    (idx data_2 (w64 (j_2 - 1))).bind fun x2 =>
    (cmp_2 x1 x2).bind fun r3 =>
    some (decide (r3 < 0))) else (some false)).bind fun b4 =>
    bif b4 then ((idx data_2 (w64 (j_2 - 1))).bind fun x5 =>
    (idx data_2 j_2).bind fun x6 =>
    (idx data_2 j_2).bind fun x7 =>
    (idx (data_2.set j_2.toNat x5) (w64 (j_2 - 1))).bind fun x8 =>
    (cS again0 a_2 b_2 cmp_2 i_2 k2) (w64 (j_2 - 1)) ((data_2.set j_2.toNat x5).set (w64 (j_2 - 1)).toNat x6))
    else (fX again0 a_2 b_2 cmp_2 i_2 data_2)

def fV (data_100 : List aH) : Option ((List aH)) :=
    some data_100

def cF (a_0 : Int) (b_0 : Int) (cmp_0 : aH → aH → Option Int) : Nat → Int → (List aH) → Option ((List aH))
  | 0, _, _ => none
  | k0 + 1, i_0, data_0 =>
    bif decide (i_0 < b_0) then (cS (cF a_0 b_0 cmp_0 k0) a_0 b_0 cmp_0 i_0 BIG i_0 data_0)
    else (fV data_0)

def dI (data_0 : List aH) (a_1 : Int) (b_2 : Int) (cmp_3 : aH → aH → Option Int) : Option ((List aH)) :=
    cF a_1 b_2 cmp_3 BIG (w64 (a_1 + 1)) data_0

def jM (data_100 : List aH) : Option ((List aH)) :=
    some data_100

def dQ (a_0 : Int) (b_0 : Int) (n_0 : Int) : Nat → Int → (List aH) → Option ((List aH))
  | 0, _, _ => none
  | k0 + 1, i_0, data_0 =>
    bif decide (i_0 < n_0) then ((idx data_0 (w64 (b_0 + i_0))).bind fun x1 =>
    (idx data_0 (w64 (a_0 + i_0))).bind fun x2 =>
    (idx data_0 (w64 (a_0 + i_0))).bind fun x3 =>
    (idx (data_0.set (w64 (a_0 + i_0)).toNat x1) (w64 (b_0 + i_0))).bind fun x4 =>
    (dQ a_0 b_0 n_0 k0) (w64 (i_0 + 1)) ((data_0.set (w64 (a_0 + i_0)).toNat x1).set (w64 (b_0 + i_0)).toNat x2))
    else (jM data_0)

def eF (data_0 : List aH) (a_1 : Int) (b_2 : Int) (n_3 : Int) (cmp_4 : aH → aH → Option Int) : Option ((List aH)) :=
    dQ a_1 b_2 n_3 BIG 0 data_0

def kP (m_100 : Int) (cmp_100 : aH → aH → Option Int) (i_100 : Int) (data_100 : List aH) : Option ((List aH)) :=
    (eF data_100 (w64 (m_100 - i_100)) m_100 i_100 cmp_100).bind fun r3 =>
    some r3

def cZ (m_0 : Int) (cmp_0 : aH → aH → Option Int) : Nat → Int → Int → (List aH) → Option ((List aH))
  | 0, _, _, _ => none
  | k0 + 1, i_0, j_0, data_0 =>
    bif !decide (i_0 = j_0) then (bif decide (j_0 < i_0) then ((eF data_0 (w64 (m_0 - i_0)) m_0 j_0 cmp_0).bind fun r1 =>
    (cZ m_0 cmp_0 k0) (w64 (i_0 - j_0)) j_0 r1)
    else ((eF data_0 (w64 (m_0 - i_0)) (w64 ((w64 (m_0 + j_0)) - i_0)) i_0 cmp_0).bind fun r2 =>
    (cZ m_0 cmp_0 k0) i_0 (w64 (j_0 - i_0)) r2))
    else (kP m_0 cmp_0 i_0 data_0)

def fL (data_0 : List aH) (a_1 : Int) (m_2 : Int) (b_3 : Int) (cmp_4 : aH → aH → Option Int) : Option ((List aH)) :=
    cZ m_2 cmp_4 BIG (w64 (m_2 - a_1)) (w64 (b_3 - m_2)) data_0

def jS (againR : (List aH) → Int → Int → Int → Option ((List aH))) (data_102 : List aH) : Option ((List aH)) :=
    some data_102

def dW (againR : (List aH) → Int → Int → Int → Option ((List aH))) (i_2 : Int) : Nat → Int → (List aH) → Option ((List aH))
  | 0, _, _ => none
  | k2 + 1, k_2, data_2 =>
    bif decide (k_2 < (w64 (i_2 - 1))) then ((idx data_2 (w64 (k_2 + 1))).bind fun x4 =>
    (idx data_2 k_2).bind fun x5 =>
    (idx data_2 k_2).bind fun x6 =>
    (idx (data_2.set k_2.toNat x4) (w64 (k_2 + 1))).bind fun x7 =>
    (dW againR i_2 k2) (w64 (k_2 + 1)) ((data_2.set k_2.toNat x4).set (w64 (k_2 + 1)).toNat x5))
    else (jS againR data_2)

def iB (againR : (List aH) → Int → Int → Int → Option ((List aH))) (a_100 : Int) (i_100 : Int) (data_100 : List aH) : Option ((List aH)) :=
    dW againR i_100 BIG a_100 data_100

def cN (againR : (List aH) → Int → Int → Int → Option ((List aH))) (a_0 : Int) (cmp_0 : aH → aH → Option Int) (data_0 : List aH) : Nat → Int → Int → Option ((List aH))
  | 0, _, _ => none
  | k0 + 1, i_0, j_0 =>
    bif decide (i_0 < j_0) then ((idx data_0 (w64 ((IntKind.u64.wrap (w64 (i_0 + j_0))).fdiv (2 ^ (min (1 : Int).toNat 64))))).bind fun x1 =>
    (idx data_0 a_0).bind fun x2 =>
    (cmp_0 x1 x2).bind fun r3 =>
    bif decide (r3 < 0) then ((cN againR a_0 cmp_0 data_0 k0) (w64 ((w64 ((IntKind.u64.wrap (w64 (i_0 + j_0))).fdiv (2 ^ (min (1 : Int).toNat 64)))) + 1)) j_0)
    else ((cN againR a_0 cmp_0 data_0 k0) i_0 (w64 ((IntKind.u64.wrap (w64 (i_0 + j_0))).fdiv (2 ^ (min (1 : Int).toNat 64))))))
    else (iB againR a_0 i_0 data_0)

def jT (againR : (List aH) → Int → Int → Int → Option ((List aH))) (data_106 : List aH) : Option ((List aH)) :=
    some data_106

def dX (againR : (List aH) → Int → Int → Int → Option ((List aH))) (i_6 : Int) : Nat → Int → (List aH) → Option ((List aH))
  | 0, _, _ => none
  | k6 + 1, k_6, data_6 =>
    bif decide (i_6 < k_6) then ((idx data_6 (w64 (k_6 - 1))).bind fun x11 =>
    (idx data_6 k_6).bind fun x12 =>
    (idx data_6 k_6).bind fun x13 =>
    (idx (data_6.set k_6.toNat x11) (w64 (k_6 - 1))).bind fun x14 =>
    (dX againR i_6 k6) (w64 (k_6 - 1)) ((data_6.set k_6.toNat x11).set (w64 (k_6 - 1)).toNat x12))
    else (jT againR data_6)

def iC (againR : (List aH) → Int → Int → Int → Option ((List aH))) (m_104 : Int) (i_104 : Int) (data_104 : List aH) : Option ((List aH)) :=
    dX againR i_104 BIG m_104 data_104

def cO (againR : (List aH) → Int → Int → Int → Option ((List aH))) (m_4 : Int) (cmp_4 : aH → aH → Option Int) (data_4 : List aH) : Nat → Int → Int → Option ((List aH))
  | 0, _, _ => none
  | k4 + 1, i_4, j_4 =>
    bif decide (i_4 < j_4) then ((idx data_4 m_4).bind fun x8 =>
    (idx data_4 (w64 ((IntKind.u64.wrap (w64 (i_4 + j_4))).fdiv (2 ^ (min (1 : Int).toNat 64))))).bind fun x9 =>
    (cmp_4 x8 x9).bind fun r10 =>
    bif !(decide (r10 < 0)) then ((cO againR m_4 cmp_4 data_4 k4) (w64 ((w64 ((IntKind.u64.wrap (w64 (i_4 + j_4))).fdiv (2 ^ (min (1 : Int).toNat 64)))) + 1)) j_4)
    else ((cO againR m_4 cmp_4 data_4 k4) i_4 (w64 ((IntKind.u64.wrap (w64 (i_4 + j_4))).fdiv (2 ^ (min (1 : Int).toNat 64))))))
    else (iC againR m_4 i_4 data_4)

def dD (againR : (List aH) → Int → Int → Int → Option ((List aH))) (a_108 : Int) (m_108 : Int) (b_108 : Int) (cmp_108 : aH → aH → Option Int) (mid_108 : Int) (n_108 : Int) (start_108 : Int) (data_108 : List aH) : Option ((List aH)) :=
    (bif decide (start_108 < m_108) then (some (decide (m_108 < (w64 (n_108 - start_108))))) else (some false)).bind fun b18 =>
    bif b18 then ((fL data_108 start_108 m_108 (w64 (n_108 - start_108)) cmp_108).bind fun r19 =>
    (bif decide (a_108 < start_108) then (some (decide (start_108 < mid_108))) else (some false)).bind fun b20 =>
    bif b20 then ((againR r19 a_108 start_108 mid_108).bind fun r21 =>
    (bif decide (mid_108 < (w64 (n_108 - start_108))) then (some (decide ((w64 (n_108 - start_108)) < b_108))) else (some false)).bind fun b22 =>
    bif b22 then ((againR r21 mid_108 (w64 (n_108 - start_108)) b_108).bind fun r23 =>
    some r23)
    else (some r21))
    else ((bif decide (mid_108 < (w64 (n_108 - start_108))) then (some (decide ((w64 (n_108 - start_108)) < b_108))) else (some false)).bind fun b24 =>
    bif b24 then ((againR r19 mid_108 (w64 (n_108 - start_108)) b_108).bind fun r25 =>
    some r25)
    else (some r19)))
    else ((bif decide (a_108 < start_108) then (some (decide (start_108 < mid_108))) else (some false)).bind fun b26 =>
    bif b26 then ((againR data_108 a_108 start_108 mid_108).bind fun r27 =>
    (bif decide (mid_108 < (w64 (n_108 - start_108))) then (some (decide ((w64 (n_108 - start_108)) < b_108))) else (some false)).bind fun b28 =>
    bif b28 then ((againR r27 mid_108 (w64 (n_108 - start_108)) b_108).bind fun r29 =>
    some r29)
    else (some r27))
    else ((bif decide (mid_108 < (w64 (n_108 - start_108))) then (some (decide ((w64 (n_108 - start_108)) < b_108))) else (some false)).bind fun b30 =>
    bif b30 then ((againR data_108 mid_108 (w64 (n_108 - start_108)) b_108).bind fun r31 =>
    some r31)
    else (some data_108)))

def cC (againR : (List aH) → Int → Int → Int → Option ((List aH))) (a_8 : Int) (m_8 : Int) (b_8 : Int) (cmp_8 : aH → aH → Option Int) (mid_8 : Int) (n_8 : Int) (p_8 : Int) (data_8 : List aH) : Nat → Int → Int → Option ((List aH))
  | 0, _, _ => none
  | k8 + 1, start_8, r_8 =>
    bif decide (start_8 < r_8) then ((idx data_8 (w64 (p_8 - (w64 ((IntKind.u64.wrap (w64 (start_8 + r_8))).fdiv (2 ^ (min (1 : Int).toNat 64))))))).bind fun x15 =>
    (idx data_8 (w64 ((IntKind.u64.wrap (w64 (start_8 + r_8))).fdiv (2 ^ (min (1 : Int).toNat 64))))).bind fun x16 =>
    (cmp_8 x15 x16).bind fun r17 =>
    bif !(decide (r17 < 0)) then ((cC againR a_8 m_8 b_8 cmp_8 mid_8 n_8 p_8 data_8 k8) (w64 ((w64 ((IntKind.u64.wrap (w64 (start_8 + r_8))).fdiv (2 ^ (min (1 : Int).toNat 64)))) + 1)) r_8)
    else ((cC againR a_8 m_8 b_8 cmp_8 mid_8 n_8 p_8 data_8 k8) start_8 (w64 ((IntKind.u64.wrap (w64 (start_8 + r_8))).fdiv (2 ^ (min (1 : Int).toNat 64))))))
    else (dD againR a_8 m_8 b_8 cmp_8 mid_8 n_8 start_8 data_8)

def bE (cmp_4 : aH → aH → Option Int) : Nat → (List aH) → Int → Int → Int → Option ((List aH))
  | 0, _, _, _, _ => none
  | kr + 1, data_0, a_1, m_2, b_3 =>
    bif decide ((w64 (m_2 - a_1)) = 1) then (cN (bE cmp_4 kr) a_1 cmp_4 data_0 BIG m_2 b_3)
    else (bif decide ((w64 (b_3 - m_2)) = 1) then (cO (bE cmp_4 kr) m_2 cmp_4 data_0 BIG a_1 m_2)
    else (bif decide ((w64 ((IntKind.u64.wrap (w64 (a_1 + b_3))).fdiv (2 ^ (min (1 : Int).toNat 64)))) < m_2) then (cC (bE cmp_4 kr) a_1 m_2 b_3 cmp_4 (w64 ((IntKind.u64.wrap (w64 (a_1 + b_3))).fdiv (2 ^ (min (1 : Int).toNat 64)))) (w64 ((w64 ((IntKind.u64.wrap (w64 (a_1 + b_3))).fdiv (2 ^ (min (1 : Int).toNat 64)))) + m_2)) (w64 ((w64 ((w64 ((IntKind.u64.wrap (w64 (a_1 + b_3))).fdiv (2 ^ (min (1 : Int).toNat 64)))) + m_2)) - 1)) data_0 BIG (w64 ((w64 ((w64 ((IntKind.u64.wrap (w64 (a_1 + b_3))).fdiv (2 ^ (min (1 : Int).toNat 64)))) + m_2)) - b_3)) (w64 ((IntKind.u64.wrap (w64 (a_1 + b_3))).fdiv (2 ^ (min (1 : Int).toNat 64)))))
    else (cC (bE cmp_4 kr) a_1 m_2 b_3 cmp_4 (w64 ((IntKind.u64.wrap (w64 (a_1 + b_3))).fdiv (2 ^ (min (1 : Int).toNat 64)))) (w64 ((w64 ((IntKind.u64.wrap (w64 (a_1 + b_3))).fdiv (2 ^ (min (1 : Int).toNat 64)))) + m_2)) (w64 ((w64 ((w64 ((IntKind.u64.wrap (w64 (a_1 + b_3))).fdiv (2 ^ (min (1 : Int).toNat 64)))) + m_2)) - 1)) data_0 BIG a_1 m_2)))

def iQ (data_0 : List aH) (a_1 : Int) (m_2 : Int) (b_3 : Int) (cmp_4 : aH → aH → Option Int) : Option ((List aH)) := bE cmp_4 BIG data_0 a_1 m_2 b_3

def gD (again2 : Int → (List aH) → Option ((List aH))) (n_103 : Int) (cmp_103 : aH → aH → Option Int) (blockSize_103 : Int) (data_103 : List aH) : Option ((List aH)) :=
    again2 blockSize_103 data_103

def kS (again2 : Int → (List aH) → Option ((List aH))) (n_104 : Int) (cmp_104 : aH → aH → Option Int) (blockSize_104 : Int) (a_104 : Int) (data_104 : List aH) : Option ((List aH)) :=
    bif decide ((w64 (a_104 + blockSize_104)) < n_104) then ((iQ data_104 a_104 (w64 (a_104 + blockSize_104)) n_104 cmp_104).bind fun r4 =>
    gD again2 n_104 cmp_104 (w64 (blockSize_104 * 2)) r4)
    else (gD again2 n_104 cmp_104 (w64 (blockSize_104 * 2)) data_104)

def eE (again2 : Int → (List aH) → Option ((List aH))) (n_4 : Int) (cmp_4 : aH → aH → Option Int) (blockSize_4 : Int) : Nat → Int → Int → (List aH) → Option ((List aH))
  | 0, _, _, _ => none
  | k4 + 1, a_4, b_4, data_4 =>
    bif decide (b_4 ≤ n_4) then ((iQ data_4 a_4 (w64 (a_4 + blockSize_4)) b_4 cmp_4).bind fun r3 =>
    (eE again2 n_4 cmp_4 blockSize_4 k4) b_4 (w64 (b_4 + (w64 (2 * blockSize_4)))) r3)
    else (kS again2 n_4 cmp_4 blockSize_4 a_4 data_4)

def kR (data_102 : List aH) : Option ((List aH)) :=
    some data_102

def dA (n_2 : Int) (cmp_2 : aH → aH → Option Int) : Nat → Int → (List aH) → Option ((List aH))
  | 0, _, _ => none
  | k2 + 1, blockSize_2, data_2 =>
    bif decide (blockSize_2 < n_2) then (eE (dA n_2 cmp_2 k2) n_2 cmp_2 blockSize_2 BIG 0 (w64 (2 * blockSize_2)) data_2)
    else (kR data_2)

def kQ (n_100 : Int) (cmp_100 : aH → aH → Option Int) (blockSize_100 : Int) (a_100 : Int) (data_100 : List aH) : Option ((List aH)) :=
    (dI data_100 a_100 n_100 cmp_100).bind fun r2 =>
    dA n_100 cmp_100 BIG blockSize_100 r2

def eD (n_0 : Int) (cmp_0 : aH → aH → Option Int) (blockSize_0 : Int) : Nat → Int → Int → (List aH) → Option ((List aH))
  | 0, _, _, _ => none
  | k0 + 1, a_0, b_0, data_0 =>
    bif decide (b_0 ≤ n_0) then ((dI data_0 a_0 b_0 cmp_0).bind fun r1 =>
    (eD n_0 cmp_0 blockSize_0 k0) b_0 (w64 (b_0 + blockSize_0)) r1)
    else (kQ n_0 cmp_0 blockSize_0 a_0 data_0)

def jE (data_0 : List aH) (n_1 : Int) (cmp_2 : aH → aH → Option Int) : Option ((List aH)) :=
    eD n_1 cmp_2 20 BIG 0 20 data_0

def gR (x_0 : List aH) (cmp_1 : aH → aH → Option Int) : Option ((List aH)) :=
    (jE x_0 (x_0.length : Int) cmp_1).bind fun r1 =>
    some r1

def rA (a_0 : aH) (b_1 : aH) : Option Int :=
    some (w64 (a_0.Id - b_1.Id))

def nX (again0 : Int → (List aH) → Option ((List aH))) (k_102 : Int) (s_102 : List aH) : Option ((List aH)) :=
    (chk (decide (0 ≤ k_102) && decide (k_102 ≤ (s_102.length : Int)))).bind fun u9 =>
    (chk (decide (k_102.toNat ≤ s_102.length))).bind fun u10 =>
    (chk (decide (0 ≤ k_102))).bind fun u11 =>
    some (s_102.take k_102.toNat)

def eR (again0 : Int → (List aH) → Option ((List aH))) (s2_2 : Int) : Nat → Int → Int → (List aH) → Option ((List aH))
  | 0, _, _, _ => none
  | k2 + 1, k_2, k2_2, s_2 =>
    bif decide (k2_2 < ((s_2.drop s2_2.toNat).length : Int)) then ((idx (s_2.drop s2_2.toNat) k2_2).bind fun x5 =>
    (idx (s_2.drop s2_2.toNat) (w64 (k2_2 - 1))).bind fun x6 =>
    bif !decide (x5 = x6) then ((idx (s_2.drop s2_2.toNat) k2_2).bind fun x7 =>
    (idx s_2 k_2).bind fun x8 =>
    (eR again0 s2_2 k2) (w64 (k_2 + 1)) (w64 (k2_2 + 1)) (s_2.set k_2.toNat x7))
    else ((eR again0 s2_2 k2) k_2 (w64 (k2_2 + 1)) s_2))
    else (nX again0 k_2 s_2)

def nW (again0 : Int → (List aH) → Option ((List aH))) (k_101 : Int) (s_101 : List aH) : Option ((List aH)) :=
    again0 (w64 (k_101 + 1)) s_101

def nV (s_100 : List aH) : Option ((List aH)) :=
    some s_100

def dM : Nat → Int → (List aH) → Option ((List aH))
  | 0, _, _ => none
  | k0 + 1, k_0, s_0 =>
    bif decide (k_0 < (s_0.length : Int)) then ((idx s_0 k_0).bind fun x2 =>
    (idx s_0 (w64 (k_0 - 1))).bind fun x3 =>
    bif decide (x2 = x3) then ((chk (decide (0 ≤ k_0) && decide (k_0 ≤ (s_0.length : Int)))).bind fun u4 =>
    eR (dM k0) k_0 BIG k_0 1 s_0)
    else (nW (dM k0) k_0 s_0))
    else (nV s_0)

def jO (s_0 : List aH) : Option ((List aH)) :=
    bif decide ((s_0.length : Int) < 2) then (some s_0)
    else (dM BIG 1 s_0)

def yK (o7_100 : List aH) : Option ((List aH) × Bool) :=
    (jO o7_100).bind fun r11 =>
    some (r11, true)

def kF (o7_0 : List aH) : Nat → Int → Option ((List aH) × Bool)
  | 0, _ => none
  | k0 + 1, i_0 =>
    bif decide (i_0 < (o7_0.length : Int)) then ((idx o7_0 i_0).bind fun x6 =>
    (idx o7_0 (w64 (i_0 - 1))).bind fun x7 =>
    (bif decide (x6.Id = x7.Id) then ((idx o7_0 i_0).bind fun x8 =>
    (idx o7_0 (w64 (i_0 - 1))).bind fun x9 =>
    some (!decide (x8 = x9))) else (some false)).bind fun b10 =>
    bif b10 then (some (([] : List aH), false))
    else ((kF o7_0 k0) (w64 (i_0 + 1))))
    else (yK o7_0)

def oK (all_0 : List aH) : Option ((List aH) × Bool) :=
    (lE all_0).bind fun r1 =>
    (gR r1 (fun y3 y4 => rA y3 y4)).bind fun r5 =>
    kF r5 BIG 1

def qO (p_100 : aQ) : Option Bool :=
    (oK p_100.Items).bind fun r19 =>
    (bif r19.2 then (some (decide ((p_100.Items.length : Int) ≤ 40))) else (some false)).bind fun b20 =>
    some b20

def iT (people_0 : List Int) (t12_0 : List aH) (t13_0 : Int) (p_0 : aQ) : Nat → Int → Option Bool
  | 0, _ => none
  | k0 + 1, t14_0 =>
    bif decide (t14_0 < t13_0) then ((idx t12_0 t14_0).bind fun x3 =>
    bif decide (x3.Kind = 2) then ((bif !decide (x3.Kind = 1) then (some (!decide (x3.Kind = 2))) else (some false)).bind fun b5 =>
    (bif b5 then (some true) else ((gB x3.Id 0 99).bind fun r6 =>
    some (!r6))).bind fun b7 =>
    (bif b7 then (some true) else ((dE people_0 x3.Person).bind fun r8 =>
    some (!r8))).bind fun b9 =>
    (bif b9 then (some true) else ((gB x3.Amount 0 30).bind fun r10 =>
    some (!r10))).bind fun b11 =>
    bif b11 then (some false)
    else ((iT people_0 t12_0 t13_0 p_0 k0) (w64 (t14_0 + 1))))
    else ((bif !decide (x3.Kind = 1) then (some (!decide (x3.Kind = 2))) else (some false)).bind fun b12 =>
    (bif b12 then (some true) else ((gB x3.Id 0 99).bind fun r13 =>
    some (!r13))).bind fun b14 =>
    (bif b14 then (some true) else ((dE people_0 x3.Person).bind fun r15 =>
    some (!r15))).bind fun b16 =>
    (bif b16 then (some true) else ((gB x3.Amount 0 10000000).bind fun r17 =>
    some (!r17))).bind fun b18 =>
    bif b18 then (some false)
    else ((iT people_0 t12_0 t13_0 p_0 k0) (w64 (t14_0 + 1)))))
    else (qO p_0)

def qY (p_0 : aQ) : Option Bool :=
    (nT p_0).bind fun r2 =>
    iT r2 p_0.Items (p_0.Items.length : Int) p_0 BIG 0

def sS (a0 : aU) (a1 : List aF) : Option Int := fI a0 a1

def qM (p_0 : aQ) : Option Int :=
    (sS p_0.Tree p_0.Slips).bind fun r2 =>
    bif !decide (r2 = 0) then (some r2)
    else ((sF p_0).bind fun r3 =>
    bif !r3 then (some 100)
    else ((qZ p_0).bind fun r4 =>
    bif !r4 then (some 101)
    else ((qY p_0).bind fun r5 =>
    bif !r5 then (some 102)
    else (some 0))))

def aEd (n_102 : Int) : Option (Int × Int) :=
    some (n_102, 0)

def lV (t44_2 : List Int) (t45_2 : Int) (p_2 : aQ) : Nat → Int → Int → Option (Int × Int)
  | 0, _, _ => none
  | k2 + 1, n_2, t46_2 =>
    bif decide (t46_2 < t45_2) then ((idx t44_2 t46_2).bind fun x6 =>
    bif decide (x6 = (-1)) then ((idx p_2.Prizes 0).bind fun x7 =>
    (lV t44_2 t45_2 p_2 k2) (w64 (n_2 - x7)) (w64 (t46_2 + 1)))
    else ((lV t44_2 t45_2 p_2 k2) n_2 (w64 (t46_2 + 1))))
    else (aEd n_2)

def uV (n_100 : Int) (p_100 : aQ) : Option (Int × Int) :=
    lV p_100.Tree.Slots (p_100.Tree.Slots.length : Int) p_100 BIG n_100 0

def lU (t23_0 : Int) (p_0 : aQ) : Nat → Int → Int → Option (Int × Int)
  | 0, _, _ => none
  | k0 + 1, n_0, t24_0 =>
    bif decide (t24_0 < t23_0) then ((idx p_0.Prizes t24_0).bind fun x4 =>
    (chk (decide (0 ≤ (w64 ((w64 (p_0.Tree.Rounds - 1)) - t24_0))))).bind fun u5 =>
    (lU t23_0 p_0 k0) (w64 (n_0 + (w64 (x4 * 2 ^ (min (w64 ((w64 (p_0.Tree.Rounds - 1)) - t24_0)).toNat 64))))) (w64 (t24_0 + 1)))
    else (uV n_0 p_0)

def wP (p_0 : aQ) : Option (Int × Int) :=
    (qM p_0).bind fun r2 =>
    bif !decide (r2 = 0) then (some (0, r2))
    else ((idx p_0.Prizes p_0.Tree.Rounds).bind fun x3 =>
    lU p_0.Tree.Rounds p_0 BIG x3 0)

def rF : Option Int :=
    some (-1)

def eZ (s_0 : List bX) (f_0 : bX → Option Bool) (t7_0 : Int) : Nat → Int → Option Int
  | 0, _ => none
  | k0 + 1, t8_0 =>
    bif decide (t8_0 < t7_0) then ((idx s_0 t8_0).bind fun x1 =>
    (f_0 x1).bind fun r2 =>
    bif r2 then (some t8_0)
    else ((eZ s_0 f_0 t7_0 k0) (w64 (t8_0 + 1))))
    else (rF)

def lH (s_0 : List bX) (f_1 : bX → Option Bool) : Option Int :=
    eZ s_0 f_1 (s_0.length : Int) BIG 0

def sE (t_0 : bX) (c_1 : Int) : Option Bool :=
    (bif decide (t_0.One = c_1) then (some true) else ((bif decide (t_0.Two = c_1) then (some (!decide (t_0.Two = (-1)))) else (some false)).bind fun b2 =>
    some b2)).bind fun b3 =>
    some b3

def xA (againQ : ((Option bB) × (List Int) × Int) → Prop) (d_100 : Option bB) (slots_100 : List Int) : Prop :=
    againQ (d_100, slots_100, 0)

def mI (againQ : ((Option bB) × (List Int) × Int) → Prop) (t20_0 : List Int) (t21_0 : Int) : Nat → (Option bB) → Int → (List Int) → Prop
  | 0, _, _, _ => False
  | k0 + 1, d_0, t22_0, slots_0 =>
    bif decide (t22_0 < t21_0) then (nb (idx t20_0 t22_0) fun x5 =>
    nb (fT x5 0 999) fun r6 =>
    bif !r6 then (againQ ((none : Option bB), ([] : List Int), 1))
    else (nb (d_0) fun x8 =>
    nb (gU x8.players x5) fun r9 =>
    nb (app 8 slots_0 ([r9])) fun x10 =>
    (mI againQ t20_0 t21_0 k0) d_0 (w64 (t22_0 + 1)) x10))
    else (xA againQ d_0 slots_0)

def pW (t_0 : aU) (l_1 : List aF) (players_2 : List Int) (Q : ((Option bB) × (List Int) × Int) → Prop) : Prop :=
    mX t_0 l_1 fun r3 =>
    bif !decide (r3.2 = 0) then (Q ((none : Option bB), ([] : List Int), r3.2))
    else (mI Q players_2 (players_2.length : Int) BIG r3.1 0 ([] : List Int))

def sL (d_100 : bB) : Option Int :=
    some d_100.Tree.Rounds

def iW (d_0 : bB) (slot_0 : Int) (t12_0 : Int) : Nat → Int → Option Int
  | 0, _ => none
  | k0 + 1, t13_0 =>
    bif decide (t13_0 < t12_0) then ((oG t13_0 slot_0).bind fun r1 =>
    (bif !(dS r1 d_0.won) then (some true) else ((idx d_0.players slot_0).bind fun x2 =>
    some (!decide ((cU r1 0 d_0.won) = x2)))).bind fun b3 =>
    bif b3 then (some t13_0)
    else ((iW d_0 slot_0 t12_0 k0) (w64 (t13_0 + 1))))
    else (sL d_0)

def oU (d_0 : bB) (slot_1 : Int) : Option Int :=
    iW d_0 slot_1 d_0.Tree.Rounds BIG 0

def sK (d_100 : bB) : Option Int :=
    some d_100.Tree.Rounds

def iV (d_0 : bB) (slot_0 : Int) (t12_0 : Int) : Nat → Int → Option Int
  | 0, _ => none
  | k0 + 1, t13_0 =>
    bif decide (t13_0 < t12_0) then ((oG t13_0 slot_0).bind fun r1 =>
    (bif dS r1 d_0.won then ((idx d_0.players slot_0).bind fun x2 =>
    some (!decide ((cU r1 0 d_0.won) = x2))) else (some false)).bind fun b3 =>
    bif b3 then (some t13_0)
    else ((iV d_0 slot_0 t12_0 k0) (w64 (t13_0 + 1))))
    else (sK d_0)

def oT (d_0 : bB) (slot_1 : Int) : Option Int :=
    iV d_0 slot_1 d_0.Tree.Rounds BIG 0

def pJ (t_0 : aU) (l_1 : List aF) (player_2 : Int) (Q : (cG × Int) → Prop) : Prop :=
    pW t_0 l_1 ([player_2]) fun r3 =>
    bif !decide (r3.2.2 = 0) then (Q ((cG.mk 0 0), r3.2.2))
    else (nb (idx r3.2.1 0) fun x4 =>
    bif decide (x4 < 0) then (Q ((cG.mk 0 0), 3))
    else (nb (r3.1) fun x5 =>
    nb (idx r3.2.1 0) fun x6 =>
    nb (oU x5 x6) fun r7 =>
    nb (idx r3.2.1 0) fun x8 =>
    nb (oT x5 x8) fun r9 =>
    Q ((cG.mk r7 r9), 0)))

def pI (prize_0 : Int) (c_1 : bX) (c_2 : Int) : Option Int :=
    bif decide (c_1.Two = (-1)) then (some prize_0)
    else (bif decide (c_1.One = c_2) then (some (w64 ((w64 (prize_0 + 1)).tdiv 2)))
    else (some (w64 (prize_0.tdiv 2))))

def xW : Option Int :=
    some (-1)

def nD (player_0 : Int) (d_0 : aR) : Nat → Int → Option Int
  | 0, _ => none
  | k0 + 1, s_0 =>
    bif decide (s_0 < (d_0.Slots.length : Int)) then ((idx d_0.Slots s_0).bind fun x2 =>
    bif decide (x2 = player_0) then (some s_0)
    else ((nD player_0 d_0 k0) (w64 (s_0 + 1))))
    else (xW)

def wF (d_0 : aR) (player_1 : Int) : Option Int :=
    nD player_1 d_0 BIG 0

def sN (n_100 : Int) : Option Int :=
    some n_100

def mC (slot_0 : Int) (t_0 : aU) (d_0 : aR) : Nat → Int → Option Int
  | 0, _ => none
  | k0 + 1, n_0 =>
    (bif decide (n_0 < t_0.Rounds) then ((idx d_0.Must n_0).bind fun x3 =>
    (chk (decide (0 ≤ (IntKind.u64.wrap (w64 (n_0 + 1)))))).bind fun u4 =>
    (idx x3 (slot_0.fdiv (2 ^ (min (IntKind.u64.wrap (w64 (n_0 + 1))).toNat 64)))).bind fun x5 =>
    (idx d_0.Slots slot_0).bind fun x6 =>
    some (decide (x5 = x6))) else (some false)).bind fun b7 =>
    bif b7 then ((mC slot_0 t_0 d_0 k0) (w64 (n_0 + 1)))
    else (sN n_0)

def vC (t_0 : aU) (d_1 : aR) (slot_2 : Int) : Option Int :=
    mC slot_2 t_0 d_1 BIG 0

def tB (n_100 : Int) : Option Int :=
    some n_100

def nB (slot_0 : Int) (t_0 : aU) (d_0 : aR) : Nat → Int → Option Int
  | 0, _ => none
  | k0 + 1, n_0 =>
    (bif decide (n_0 < t_0.Rounds) then ((idx d_0.Must n_0).bind fun x3 =>
    (chk (decide (0 ≤ (IntKind.u64.wrap (w64 (n_0 + 1)))))).bind fun u4 =>
    (idx x3 (slot_0.fdiv (2 ^ (min (IntKind.u64.wrap (w64 (n_0 + 1))).toNat 64)))).bind fun x5 =>
    (bif decide (x5 = (-2)) then (some true) else ((idx d_0.Must n_0).bind fun x6 =>
    (chk (decide (0 ≤ (IntKind.u64.wrap (w64 (n_0 + 1)))))).bind fun u7 =>
    (idx x6 (slot_0.fdiv (2 ^ (min (IntKind.u64.wrap (w64 (n_0 + 1))).toNat 64)))).bind fun x8 =>
    (idx d_0.Slots slot_0).bind fun x9 =>
    some (decide (x8 = x9)))).bind fun b10 =>
    some b10) else (some false)).bind fun b11 =>
    bif b11 then ((nB slot_0 t_0 d_0 k0) (w64 (n_0 + 1)))
    else (tB n_0)

def wE (t_0 : aU) (d_1 : aR) (slot_2 : Int) : Option Int :=
    nB slot_2 t_0 d_1 BIG 0

def jF (t_0 : aU) (l_1 : List aF) (player_2 : Int) : Option (cG × Int) :=
    (fI t_0 l_1).bind fun r3 =>
    bif !decide (r3 = 0) then (some ((cG.mk 0 0), r3))
    else ((eN player_2 0 999).bind fun r4 =>
    bif !r4 then (some ((cG.mk 0 0), 1))
    else ((fF t_0 l_1).bind fun r5 =>
    (wF r5.1 player_2).bind fun r7 =>
    bif decide (r7 < 0) then (some ((cG.mk 0 0), 3))
    else ((vC t_0 r5.1 r7).bind fun r8 =>
    (wE t_0 r5.1 r7).bind fun r9 =>
    some ((cG.mk r8 r9), 0))))

def qN (a0 : aU) (a1 : List aF) (a2 : Int) : Option (cG × Int) := jF a0 a1 a2

def sI (p_0 : aQ) (person_1 : Int) : Option (cG × Bool) :=
    (lH p_0.Teams (fun y4 => sE y4 person_1)).bind fun r5 =>
    bif decide (r5 < 0) then (some ((cG.mk 0 0), false))
    else ((idx p_0.Teams r5).bind fun x6 =>
    (qN p_0.Tree p_0.Slips x6.Player).bind fun r8 =>
    bif !decide (r8.2 = 0) then (some ((cG.mk 0 0), true))
    else ((idx p_0.Prizes r8.1.Low).bind fun x10 =>
    (pI x10 x6 person_1).bind fun r11 =>
    (idx p_0.Prizes r8.1.High).bind fun x12 =>
    (pI x12 x6 person_1).bind fun r13 =>
    some ((cG.mk r11 r13), true)))

def uP (p_0 : aQ) (person_1 : Int) : Option (cG × Int) :=
    (qM p_0).bind fun r3 =>
    bif !decide (r3 = 0) then (some ((cG.mk 0 0), r3))
    else ((sI p_0 person_1).bind fun r4 =>
    bif !r4.2 then (some ((cG.mk 0 0), 1))
    else (some (r4.1, 0)))

def uX (paid_105 : Int) (num_105 : Int) (den_105 : Int) (o4_105 : aY) (b_105 : aY) : Option aY :=
    (chk (!decide (den_105 = 0))).bind fun u13 =>
    (chk (!decide (num_105 = 0))).bind fun u14 =>
    some (aY.mk b_105.Person b_105.Gross b_105.Tax b_105.Daily b_105.Fines b_105.Debt (w64 ((w64 (paid_105 * num_105)).tdiv den_105)) (w64 ((w64 ((w64 ((w64 ((w64 ((w64 (paid_105 * num_105)).tdiv den_105)) * den_105)) + num_105)) - 1)).tdiv num_105)) (w64 (paid_105 - (w64 ((w64 ((w64 ((w64 ((w64 ((w64 (paid_105 * num_105)).tdiv den_105)) * den_105)) + num_105)) - 1)).tdiv num_105)))))

def lW (person_5 : Int) (paid_5 : Int) (t104_5 : List eM) (t105_5 : Int) (o4_5 : aY) (b_5 : aY) : Nat → Int → Int → Int → Option aY
  | 0, _, _, _ => none
  | k5 + 1, num_5, den_5, t106_5 =>
    bif decide (t106_5 < t105_5) then ((idx t104_5 t106_5).bind fun x11 =>
    bif decide (x11.Person = person_5) then ((lW person_5 paid_5 t104_5 t105_5 o4_5 b_5 k5) x11.Num x11.Den (w64 (t106_5 + 1)))
    else ((lW person_5 paid_5 t104_5 t105_5 o4_5 b_5 k5) num_5 den_5 (w64 (t106_5 + 1))))
    else (uX paid_5 num_5 den_5 o4_5 b_5)

def sD (person_102 : Int) (p_102 : aQ) (o4_102 : aY) (b_102 : aY) : Option aY :=
    lW person_102 (max 0 (w64 ((w64 ((w64 (b_102.Gross + b_102.Daily)) - b_102.Tax)) - b_102.Fines))) p_102.Rates (p_102.Rates.length : Int) o4_102 (aY.mk b_102.Person b_102.Gross b_102.Tax b_102.Daily b_102.Fines (max 0 (w64 (-(w64 ((w64 ((w64 (b_102.Gross + b_102.Daily)) - b_102.Tax)) - b_102.Fines))))) b_102.Units b_102.Used b_102.Rest) BIG 1 1 0

def kE (person_2 : Int) (t55_2 : List aH) (t56_2 : Int) (p_2 : aQ) (o4_2 : aY) : Nat → Int → aY → Option aY
  | 0, _, _ => none
  | k2 + 1, t57_2, b_2 =>
    bif decide (t57_2 < t56_2) then ((idx t55_2 t57_2).bind fun x9 =>
    bif !decide (x9.Person = person_2) then ((kE person_2 t55_2 t56_2 p_2 o4_2 k2) (w64 (t57_2 + 1)) b_2)
    else (bif decide (x9.Kind = 2) then ((kE person_2 t55_2 t56_2 p_2 o4_2 k2) (w64 (t57_2 + 1)) (aY.mk b_2.Person b_2.Gross b_2.Tax (w64 (b_2.Daily + (w64 (x9.Amount * p_2.Daily)))) b_2.Fines b_2.Debt b_2.Units b_2.Used b_2.Rest))
    else ((kE person_2 t55_2 t56_2 p_2 o4_2 k2) (w64 (t57_2 + 1)) (aY.mk b_2.Person b_2.Gross b_2.Tax b_2.Daily (w64 (b_2.Fines + x9.Amount)) b_2.Debt b_2.Units b_2.Used b_2.Rest))))
    else (sD person_2 p_2 o4_2 b_2)

def uW (person_100 : Int) (p_100 : aQ) (o4_100 : aY) (b_100 : aY) : Option aY :=
    (oK p_100.Items).bind fun r8 =>
    kE person_100 r8.1 (r8.1.length : Int) p_100 o4_100 BIG 0 b_100

def kD (person_0 : Int) (t31_0 : List fS) (t32_0 : Int) (p_0 : aQ) (o4_0 : aY) : Nat → Int → aY → Option aY
  | 0, _, _ => none
  | k0 + 1, t33_0, b_0 =>
    bif decide (t33_0 < t32_0) then ((idx t31_0 t33_0).bind fun x6 =>
    bif decide (x6.Person = person_0) then ((kD person_0 t31_0 t32_0 p_0 o4_0 k0) (w64 (t33_0 + 1)) (aY.mk b_0.Person b_0.Gross (w64 ((w64 (b_0.Gross * x6.Mille)).tdiv 1000)) b_0.Daily b_0.Fines b_0.Debt b_0.Units b_0.Used b_0.Rest))
    else ((kD person_0 t31_0 t32_0 p_0 o4_0 k0) (w64 (t33_0 + 1)) b_0))
    else (uW person_0 p_0 o4_0 b_0)

def uB (p_0 : aQ) (person_1 : Int) : Option aY :=
    (sI p_0 person_1).bind fun r3 =>
    kD person_1 p_0.Levies (p_0.Levies.length : Int) p_0 (aY.mk 0 0 0 0 0 0 0 0 0) BIG 0 (aY.mk person_1 r3.1.Low 0 0 0 0 0 0 0)

def uA (p_0 : aQ) (person_1 : Int) : Option (aY × Int) :=
    (uP p_0 person_1).bind fun r3 =>
    bif !decide (r3.2 = 0) then (some ((aY.mk 0 0 0 0 0 0 0 0 0), r3.2))
    else ((uB p_0 person_1).bind fun r5 =>
    some (r5, 0))

def aCe (out_100 : List aY) : Option ((List aY) × Int) :=
    some (out_100, 0)

def mO (t14_0 : List Int) (t15_0 : Int) (p_0 : aQ) : Nat → Int → (List aY) → Option ((List aY) × Int)
  | 0, _, _ => none
  | k0 + 1, t16_0, out_0 =>
    bif decide (t16_0 < t15_0) then ((idx t14_0 t16_0).bind fun x5 =>
    (uB p_0 x5).bind fun r6 =>
    (app 72 out_0 ([r6])).bind fun x7 =>
    (mO t14_0 t15_0 p_0 k0) (w64 (t16_0 + 1)) x7)
    else (aCe out_0)

def uO (p_0 : aQ) : Option ((List aY) × Int) :=
    (qM p_0).bind fun r2 =>
    bif !decide (r2 = 0) then (some (([] : List aY), r2))
    else ((nT p_0).bind fun r4 =>
    mO r4 (r4.length : Int) p_0 BIG 0 ([] : List aY))

def aCf (o2_100 : aY) (sum_100 : aY) : Option (aY × Int) :=
    some (sum_100, 0)

def mP (t19_0 : List aY) (t20_0 : Int) (o2_0 : aY) : Nat → Int → aY → Option (aY × Int)
  | 0, _, _ => none
  | k0 + 1, t21_0, sum_0 =>
    bif decide (t21_0 < t20_0) then ((idx t19_0 t21_0).bind fun x5 =>
    (mP t19_0 t20_0 o2_0 k0) (w64 (t21_0 + 1)) (aY.mk sum_0.Person (w64 (sum_0.Gross + x5.Gross)) (w64 (sum_0.Tax + x5.Tax)) (w64 (sum_0.Daily + x5.Daily)) (w64 (sum_0.Fines + x5.Fines)) (w64 (sum_0.Debt + x5.Debt)) (w64 (sum_0.Units + x5.Units)) (w64 (sum_0.Used + x5.Used)) (w64 (sum_0.Rest + x5.Rest))))
    else (aCf o2_0 sum_0)

def uQ (p_0 : aQ) : Option (aY × Int) :=
    (uO p_0).bind fun r3 =>
    bif !decide (r3.2 = 0) then (some ((aY.mk 0 0 0 0 0 0 0 0 0), r3.2))
    else (mP r3.1 (r3.1.length : Int) (aY.mk 0 0 0 0 0 0 0 0 0) BIG 0 (aY.mk (-1) 0 0 0 0 0 0 0 0))

def mL : Option Bool :=
    (mY).bind fun r1 =>
    (wP r1).bind fun r3 =>
    (uA r1 22).bind fun r4 =>
    (uQ r1).bind fun r6 =>
    (bif decide (r3.2 = 0) then (some (decide (r4.2 = 0))) else (some false)).bind fun b8 =>
    (bif b8 then (some (decide (r6.2 = 0))) else (some false)).bind fun b9 =>
    (bif b9 then (some (decide (r3.1 = 1501))) else (some false)).bind fun b10 =>
    (bif b10 then (some (decide (r4.1 = (aY.mk 22 50 0 0 0 0 16 48 2)))) else (some false)).bind fun b11 =>
    (bif b11 then (some (decide (r6.1.Debt = 60))) else (some false)).bind fun b12 =>
    some b12

end Go.Am
