/- Shallow functions, printed by program. -/
import Derived.Test.YtoflekecpkjghaaGreatAmFull
import Derived.Test.YtoflekecpkjghaaGreatAmNd
import Derived.Test.YtoflekecpkjghaaGreatAmSort
namespace Go.Am

def qK (x : List Int) : List D := [.sl 1 (x.map aL)]

structure aQ where
  Rounds : Int
  Slots : List Int
  deriving DecidableEq, Inhabited
def bH (x : aQ) : List D := [.lit (.int .i64 x.Rounds), .sl 1 (x.Slots.map aL)]

structure aF where
  Kind : Int
  Round : Int
  Place : Int
  Player : Int
  Old : Int
  deriving DecidableEq, Inhabited
def aJ (x : aF) : List D := [.lit (.int .i64 x.Kind), .lit (.int .i64 x.Round), .lit (.int .i64 x.Place), .lit (.int .i64 x.Player), .lit (.int .i64 x.Old)]

def lH (x : List aF) : List D := [.sl 5 (x.map aJ)]

structure bF where
  Player : Int
  One : Int
  Two : Int
  deriving DecidableEq, Inhabited
def aU (x : bF) : List D := [.lit (.int .i64 x.Player), .lit (.int .i64 x.One), .lit (.int .i64 x.Two)]

def aOt (x : List bF) : List D := [.sl 3 (x.map aU)]

structure cC where
  Person : Int
  Mille : Int
  deriving DecidableEq, Inhabited
def aZ (x : cC) : List D := [.lit (.int .i64 x.Person), .lit (.int .i64 x.Mille)]

def aOr (x : List cC) : List D := [.sl 2 (x.map aZ)]

structure bX where
  Person : Int
  Num : Int
  Den : Int
  deriving DecidableEq, Inhabited
def bA (x : bX) : List D := [.lit (.int .i64 x.Person), .lit (.int .i64 x.Num), .lit (.int .i64 x.Den)]

def aOs (x : List bX) : List D := [.sl 3 (x.map bA)]

structure aG where
  Id : Int
  Kind : Int
  Person : Int
  Amount : Int
  deriving DecidableEq, Inhabited
def aD (x : aG) : List D := [.lit (.int .i64 x.Id), .lit (.int .i64 x.Kind), .lit (.int .i64 x.Person), .lit (.int .i64 x.Amount)]

def lG (x : List aG) : List D := [.sl 4 (x.map aD)]

structure aM where
  Tree : aQ
  Slips : List aF
  Prizes : List Int
  Daily : Int
  Teams : List bF
  Levies : List cC
  Rates : List bX
  Items : List aG
  deriving DecidableEq, Inhabited
def aK (x : aM) : List D := [.lit (.int .i64 x.Tree.Rounds), .sl 1 (x.Tree.Slots.map aL), .sl 5 (x.Slips.map aJ), .sl 1 (x.Prizes.map aL), .lit (.int .i64 x.Daily), .sl 3 (x.Teams.map aU), .sl 2 (x.Levies.map aZ), .sl 3 (x.Rates.map bA), .sl 4 (x.Items.map aD)]

structure aS where
  Slots : List Int
  Must : List (List Int)
  deriving DecidableEq, Inhabited
def cS (x : aS) : List D := [.sl 1 (x.Slots.map aL), .sl 1 (x.Must.map qK)]

structure aI where
  round : Int
  place : Int
  deriving DecidableEq, Inhabited
def aR (x : aI) : List D := [.lit (.int .i64 x.round), .lit (.int .i64 x.place)]

structure bG where
  Tree : aQ
  players : List Int
  won : List (aI × Int)
  deriving DecidableEq, Inhabited
def bW (x : bG) : List D := [.lit (.int .i64 x.Tree.Rounds), .sl 1 (x.Tree.Slots.map aL), .sl 1 (x.players.map aL), .mp false (x.won.map fun p : aI × Int => ((fun a : aI => Value.agg ((aR a).map bY).toArray) p.1, aL p.2))]

structure cP where
  Low : Int
  High : Int
  deriving DecidableEq, Inhabited
def cG (x : cP) : List D := [.lit (.int .i64 x.Low), .lit (.int .i64 x.High)]

structure bE where
  Person : Int
  Gross : Int
  Tax : Int
  Daily : Int
  Fines : Int
  Debt : Int
  Units : Int
  Used : Int
  Rest : Int
  deriving DecidableEq, Inhabited
def bP (x : bE) : List D := [.lit (.int .i64 x.Person), .lit (.int .i64 x.Gross), .lit (.int .i64 x.Tax), .lit (.int .i64 x.Daily), .lit (.int .i64 x.Fines), .lit (.int .i64 x.Debt), .lit (.int .i64 x.Units), .lit (.int .i64 x.Used), .lit (.int .i64 x.Rest)]

def aOg (x : aQ) : Prop := okI x.Rounds ∧ (okL okI) x.Slots

def aDj (x : aF) : Prop := okI x.Kind ∧ okI x.Round ∧ okI x.Place ∧ okI x.Player ∧ okI x.Old

def aIn (x : bF) : Prop := okI x.Player ∧ okI x.One ∧ okI x.Two

def aIl (x : cC) : Prop := okI x.Person ∧ okI x.Mille

def aIm (x : bX) : Prop := okI x.Person ∧ okI x.Num ∧ okI x.Den

def aDi (x : aG) : Prop := okI x.Id ∧ okI x.Kind ∧ okI x.Person ∧ okI x.Amount

def aMl (x : aM) : Prop := aOg x.Tree ∧ (okL aDj) x.Slips ∧ (okL okI) x.Prizes ∧ okI x.Daily ∧ (okL aIn) x.Teams ∧ (okL aIl) x.Levies ∧ (okL aIm) x.Rates ∧ (okL aDi) x.Items

def nR (p_0 : aM) : Option Bool :=
    (bif decide (8 < (p_0.Tree.Slots.length : Int)) then (some true) else (some (decide (20 < (p_0.Slips.length : Int))))).bind fun b2 =>
    (bif b2 then (some true) else (some (decide (20 < (p_0.Prizes.length : Int))))).bind fun b3 =>
    (bif b3 then (some true) else (some (decide (40 < (p_0.Teams.length : Int))))).bind fun b4 =>
    (bif b4 then (some true) else (some (decide (40 < (p_0.Levies.length : Int))))).bind fun b5 =>
    (bif b5 then (some true) else (some (decide (40 < (p_0.Rates.length : Int))))).bind fun b6 =>
    (bif b6 then (some true) else (some (decide (60 < (p_0.Items.length : Int))))).bind fun b7 =>
    some b7

def eX (n_0 : Int) (low_1 : Int) (high_2 : Int) : Option Bool :=
    (bif decide (low_1 ≤ n_0) then (some (decide (n_0 ≤ high_2))) else (some false)).bind fun b1 =>
    some b1

def tO (again0 : Int → Option Bool) (i_101 : Int) (t_101 : aQ) : Option Bool :=
    again0 (w64 (i_101 + 1))

def tP (again0 : Int → Option Bool) (i_102 : Int) (t_102 : aQ) : Option Bool :=
    tO again0 i_102 t_102

def iA (again0 : Int → Option Bool) (i_2 : Int) (t_2 : aQ) : Nat → Int → Option Bool
  | 0, _ => none
  | k2 + 1, k_2 =>
    bif decide (k_2 < i_2) then ((idx t_2.Slots k_2).bind fun x12 =>
    (idx t_2.Slots i_2).bind fun x13 =>
    (bif decide (x12 = x13) then ((idx t_2.Slots i_2).bind fun x14 =>
    some (!decide (x14 = (-1)))) else (some false)).bind fun b15 =>
    bif b15 then (some false)
    else ((iA again0 i_2 t_2 k2) (w64 (k_2 + 1))))
    else (tP again0 i_2 t_2)

def tN : Option Bool :=
    some true

def hZ (t_0 : aQ) : Nat → Int → Option Bool
  | 0, _ => none
  | k0 + 1, i_0 =>
    bif decide (i_0 < (t_0.Slots.length : Int)) then ((idx t_0.Slots i_0).bind fun x5 =>
    (eX x5 (-1) 999).bind fun r6 =>
    (bif !r6 then (some true) else ((bif decide ((i_0.tmod 2) = 1) then ((idx t_0.Slots i_0).bind fun x7 =>
    some (decide (x7 = (-1)))) else (some false)).bind fun b8 =>
    (bif b8 then ((idx t_0.Slots (w64 (i_0 - 1))).bind fun x9 =>
    some (decide (x9 = (-1)))) else (some false)).bind fun b10 =>
    some b10)).bind fun b11 =>
    bif b11 then (some false)
    else (iA (hZ t_0 k0) i_0 t_0 BIG 0))
    else (tN)

def mW (t_0 : aQ) : Option Bool :=
    (eX t_0.Rounds 1 5).bind fun r2 =>
    (bif !r2 then (some true) else ((chk (decide (0 ≤ (IntKind.u64.wrap t_0.Rounds)))).bind fun u3 =>
    some (!decide ((t_0.Slots.length : Int) = (w64 (1 * 2 ^ (min (IntKind.u64.wrap t_0.Rounds).toNat 64))))))).bind fun b4 =>
    bif b4 then (some false)
    else (hZ t_0 BIG 0)

def mX (t_0 : aQ) (round_1 : Int) : Option Int :=
    (chk (decide (0 ≤ (IntKind.u64.wrap (w64 ((w64 (t_0.Rounds - 1)) - round_1)))))).bind fun u2 =>
    some (w64 (1 * 2 ^ (min (IntKind.u64.wrap (w64 ((w64 (t_0.Rounds - 1)) - round_1))).toNat 64)))

def oK (t_0 : aQ) (round_1 : Int) (place_2 : Int) : Option Bool :=
    (eX round_1 0 (w64 (t_0.Rounds - 1))).bind fun r2 =>
    (bif r2 then ((mX t_0 round_1).bind fun r3 =>
    (eX place_2 0 (w64 (r3 - 1))).bind fun r4 =>
    some r4) else (some false)).bind fun b5 =>
    some b5

def pO (t_0 : aQ) (x_1 : aF) : Option Bool :=
    (eX x_1.Player 0 999).bind fun r3 =>
    bif !r3 then (some false)
    else (bif decide (x_1.Kind = 5) then ((bif decide (x_1.Round = 0) then ((eX x_1.Place 0 (w64 ((t_0.Slots.length : Int) - 1))).bind fun r4 =>
    some r4) else (some false)).bind fun b5 =>
    (bif b5 then ((eX x_1.Old 0 999).bind fun r6 =>
    some r6) else (some false)).bind fun b7 =>
    some b7)
    else ((eX x_1.Kind 1 4).bind fun r8 =>
    (bif !r8 then (some true) else ((oK t_0 x_1.Round x_1.Place).bind fun r9 =>
    some (!r9))).bind fun b10 =>
    (bif b10 then (some true) else (some (!decide (x_1.Old = 0)))).bind fun b11 =>
    bif b11 then (some false)
    else ((bif decide (0 < x_1.Round) then (some true) else ((idx t_0.Slots (w64 (2 * x_1.Place))).bind fun x12 =>
    (bif !decide (x12 = (-1)) then ((idx t_0.Slots (w64 ((w64 (2 * x_1.Place)) + 1))).bind fun x13 =>
    some (!decide (x13 = (-1)))) else (some false)).bind fun b14 =>
    some b14)).bind fun b15 =>
    some b15)))

def mB (again0 : Int → (List aF) → Option ((List aF))) (l_101 : List aF) (i_101 : Int) (out_101 : List aF) : Option ((List aF)) :=
    again0 (w64 (i_101 + 1)) out_101

def oN (again0 : Int → (List aF) → Option ((List aF))) (l_102 : List aF) (i_102 : Int) (twin_102 : Bool) (out_102 : List aF) : Option ((List aF)) :=
    bif !twin_102 then ((idx l_102 i_102).bind fun x5 =>
    (app 40 out_102 ([x5])).bind fun x6 =>
    mB again0 l_102 i_102 x6)
    else (mB again0 l_102 i_102 out_102)

def jC (again0 : Int → (List aF) → Option ((List aF))) (l_2 : List aF) (i_2 : Int) (out_2 : List aF) : Nat → Bool → Int → Option ((List aF))
  | 0, _, _ => none
  | k2 + 1, twin_2, k_2 =>
    bif decide (k_2 < (out_2.length : Int)) then ((bif twin_2 then (some true) else ((idx out_2 k_2).bind fun x2 =>
    (idx l_2 i_2).bind fun x3 =>
    some (decide (x2 = x3)))).bind fun b4 =>
    (jC again0 l_2 i_2 out_2 k2) b4 (w64 (k_2 + 1)))
    else (oN again0 l_2 i_2 twin_2 out_2)

def vB (out_100 : List aF) : Option ((List aF)) :=
    some out_100

def fD (l_0 : List aF) : Nat → Int → (List aF) → Option ((List aF))
  | 0, _, _ => none
  | k0 + 1, i_0, out_0 =>
    bif decide (i_0 < (l_0.length : Int)) then (jC (fD l_0 k0) l_0 i_0 out_0 BIG false 0)
    else (vB out_0)

def oV (l_0 : List aF) : Option ((List aF)) :=
    fD l_0 BIG 0 ([] : List aF)

def wS : Option Bool :=
    some false

def lO (l_0 : List Int) (n_0 : Int) : Nat → Int → Option Bool
  | 0, _ => none
  | k0 + 1, i_0 =>
    bif decide (i_0 < (l_0.length : Int)) then ((idx l_0 i_0).bind fun x1 =>
    bif decide (x1 = n_0) then (some true)
    else ((lO l_0 n_0 k0) (w64 (i_0 + 1))))
    else (wS)

def tW (l_0 : List Int) (n_1 : Int) : Option Bool :=
    lO l_0 n_1 BIG 0

def jW (again0 : Int → Int → (List Int) → (List Int) → Option ((List Int) × Bool)) (again2 : Int → Int → Bool → (List Int) → Option ((List Int) × Bool)) (allv_103 : List aF) (used_103 : Int) (i_103 : Int) (now_103 : Int) (again_103 : Bool) (t_103 : aQ) (out_103 : List Int) (o18_103 : List Int) : Option ((List Int) × Bool) :=
    again2 used_103 now_103 again_103 o18_103

def lX (again0 : Int → Int → (List Int) → (List Int) → Option ((List Int) × Bool)) (again2 : Int → Int → Bool → (List Int) → Option ((List Int) × Bool)) (allv_104 : List aF) (used_104 : Int) (i_104 : Int) (now_104 : Int) (again_104 : Bool) (t_104 : aQ) (out_104 : List Int) (nextv_104 : List Int) (o18_104 : List Int) : Option ((List Int) × Bool) :=
    (bif decide (1 < (nextv_104.length : Int)) then (some true) else ((bif decide ((nextv_104.length : Int) = 1) then ((idx nextv_104 0).bind fun x17 =>
    (tW o18_104 x17).bind fun r18 =>
    some r18) else (some false)).bind fun b19 =>
    some b19)).bind fun b20 =>
    bif b20 then (some (([] : List Int), false))
    else (bif decide ((nextv_104.length : Int) = 1) then ((idx nextv_104 0).bind fun x21 =>
    (app 8 o18_104 ([x21])).bind fun x22 =>
    jW again0 again2 allv_104 (w64 (used_104 + 1)) i_104 x21 true t_104 out_104 x22)
    else (jW again0 again2 allv_104 used_104 i_104 now_104 again_104 t_104 out_104 o18_104))

def fO (again0 : Int → Int → (List Int) → (List Int) → Option ((List Int) × Bool)) (again2 : Int → Int → Bool → (List Int) → Option ((List Int) × Bool)) (allv_4 : List aF) (used_4 : Int) (i_4 : Int) (now_4 : Int) (again_4 : Bool) (t_4 : aQ) (out_4 : List Int) (o18_4 : List Int) : Nat → Int → (List Int) → Option ((List Int) × Bool)
  | 0, _, _ => none
  | k4 + 1, k_4, nextv_4 =>
    bif decide (k_4 < (allv_4.length : Int)) then ((idx allv_4 k_4).bind fun x9 =>
    (bif decide (x9.Kind = 5) then ((idx allv_4 k_4).bind fun x10 =>
    some (decide (x10.Place = i_4))) else (some false)).bind fun b11 =>
    (bif b11 then ((idx allv_4 k_4).bind fun x12 =>
    some (decide (x12.Old = now_4))) else (some false)).bind fun b13 =>
    bif b13 then ((idx allv_4 k_4).bind fun x14 =>
    (app 8 nextv_4 ([x14.Player])).bind fun x15 =>
    (fO again0 again2 allv_4 used_4 i_4 now_4 again_4 t_4 out_4 o18_4 k4) (w64 (k_4 + 1)) x15)
    else ((fO again0 again2 allv_4 used_4 i_4 now_4 again_4 t_4 out_4 o18_4 k4) (w64 (k_4 + 1)) nextv_4))
    else (lX again0 again2 allv_4 used_4 i_4 now_4 again_4 t_4 out_4 nextv_4 o18_4)

def sR (again0 : Int → Int → (List Int) → (List Int) → Option ((List Int) × Bool)) (allv_101 : List aF) (used_101 : Int) (i_101 : Int) (t_101 : aQ) (out_101 : List Int) (o18_101 : List Int) : Option ((List Int) × Bool) :=
    again0 used_101 (w64 (i_101 + 1)) out_101 o18_101

def oU (again0 : Int → Int → (List Int) → (List Int) → Option ((List Int) × Bool)) (allv_102 : List aF) (used_102 : Int) (i_102 : Int) (now_102 : Int) (t_102 : aQ) (out_102 : List Int) (o18_102 : List Int) : Option ((List Int) × Bool) :=
    (app 8 out_102 ([now_102])).bind fun x24 =>
    sR again0 allv_102 used_102 i_102 t_102 x24 o18_102

def gW (again0 : Int → Int → (List Int) → (List Int) → Option ((List Int) × Bool)) (allv_2 : List aF) (i_2 : Int) (t_2 : aQ) (out_2 : List Int) : Nat → Int → Int → Bool → (List Int) → Option ((List Int) × Bool)
  | 0, _, _, _, _ => none
  | k2 + 1, used_2, now_2, again_2, o18_2 =>
    bif again_2 then (fO again0 (gW again0 allv_2 i_2 t_2 out_2 k2) allv_2 used_2 i_2 now_2 false t_2 out_2 o18_2 BIG 0 ([] : List Int))
    else (oU again0 allv_2 used_2 i_2 now_2 t_2 out_2 o18_2)

def sS (used_106 : Int) (out_106 : List Int) : Option ((List Int) × Bool) :=
    some (out_106, decide (used_106 = 0))

def fP (allv_6 : List aF) (out_6 : List Int) : Nat → Int → Int → Option ((List Int) × Bool)
  | 0, _, _ => none
  | k6 + 1, used_6, k_6 =>
    bif decide (k_6 < (allv_6.length : Int)) then ((idx allv_6 k_6).bind fun x26 =>
    bif decide (x26.Kind = 5) then ((fP allv_6 out_6 k6) (w64 (used_6 - 1)) (w64 (k_6 + 1)))
    else ((fP allv_6 out_6 k6) used_6 (w64 (k_6 + 1))))
    else (sS used_6 out_6)

def sQ (allv_100 : List aF) (used_100 : Int) (out_100 : List Int) : Option ((List Int) × Bool) :=
    fP allv_100 out_100 BIG used_100 0

def eP (allv_0 : List aF) (t_0 : aQ) : Nat → Int → Int → (List Int) → (List Int) → Option ((List Int) × Bool)
  | 0, _, _, _, _ => none
  | k0 + 1, used_0, i_0, out_0, o18_0 =>
    bif decide (i_0 < (t_0.Slots.length : Int)) then ((idx t_0.Slots i_0).bind fun x7 =>
    gW (eP allv_0 t_0 k0) allv_0 i_0 t_0 out_0 BIG used_0 x7 true o18_0)
    else (sQ allv_0 used_0 out_0)

def oL (t_0 : aQ) (l_1 : List aF) : Option ((List Int) × Bool) :=
    (oV l_1).bind fun r2 =>
    (app 8 ([] : List Int) t_0.Slots).bind fun x4 =>
    eP r2 t_0 BIG 0 0 ([] : List Int) x4

def uY (again0 : Int → (List (List Int)) → (List Int) → Option (aS × Bool)) (l_101 : List aF) (slots_101 : List Int) (r_101 : Int) (t_101 : aQ) (o4_101 : aS) (d_101 : List (List Int)) (d_101_2 : List Int) : Option (aS × Bool) :=
    again0 (w64 (r_101 + 1)) d_101 d_101_2

def lZ (again0 : Int → (List (List Int)) → (List Int) → Option (aS × Bool)) (l_102 : List aF) (slots_102 : List Int) (r_102 : Int) (t_102 : aQ) (o4_102 : aS) (d_102 : List (List Int)) (d_102_2 : List Int) (row_102 : List Int) : Option (aS × Bool) :=
    (app 24 d_102 [row_102]).bind fun x24 =>
    uY again0 l_102 slots_102 r_102 t_102 o4_102 x24 d_102_2

def fC (again0 : Int → (List (List Int)) → (List Int) → Option (aS × Bool)) (l_2 : List aF) (slots_2 : List Int) (r_2 : Int) (t_2 : aQ) (o4_2 : aS) (d_2 : List (List Int)) (d_2_2 : List Int) : Nat → Int → (List Int) → Option (aS × Bool)
  | 0, _, _ => none
  | k2 + 1, p_2, row_2 =>
    (mX t_2 r_2).bind fun r6 =>
    bif decide (p_2 < r6) then ((bif decide (r_2 = 0) then ((idx slots_2 (w64 (2 * p_2))).bind fun x7 =>
    some (decide (x7 = (-1)))) else (some false)).bind fun b8 =>
    bif b8 then ((idx slots_2 (w64 ((w64 (2 * p_2)) + 1))).bind fun x9 =>
    (bif decide (r_2 = 0) then ((idx slots_2 (w64 ((w64 (2 * p_2)) + 1))).bind fun x10 =>
    some (decide (x10 = (-1)))) else (some false)).bind fun b11 =>
    bif b11 then ((idx slots_2 (w64 (2 * p_2))).bind fun x12 =>
    (app 8 row_2 ([x12])).bind fun x13 =>
    (fC again0 l_2 slots_2 r_2 t_2 o4_2 d_2 d_2_2 k2) (w64 (p_2 + 1)) x13)
    else ((app 8 row_2 ([x9])).bind fun x15 =>
    (fC again0 l_2 slots_2 r_2 t_2 o4_2 d_2 d_2_2 k2) (w64 (p_2 + 1)) x15))
    else ((bif decide (r_2 = 0) then ((idx slots_2 (w64 ((w64 (2 * p_2)) + 1))).bind fun x17 =>
    some (decide (x17 = (-1)))) else (some false)).bind fun b18 =>
    bif b18 then ((idx slots_2 (w64 (2 * p_2))).bind fun x19 =>
    (app 8 row_2 ([x19])).bind fun x20 =>
    (fC again0 l_2 slots_2 r_2 t_2 o4_2 d_2 d_2_2 k2) (w64 (p_2 + 1)) x20)
    else ((app 8 row_2 ([(-2)])).bind fun x22 =>
    (fC again0 l_2 slots_2 r_2 t_2 o4_2 d_2 d_2_2 k2) (w64 (p_2 + 1)) x22)))
    else (lZ again0 l_2 slots_2 r_2 t_2 o4_2 d_2 d_2_2 row_2)

def mA (again4 : Int → aS → (List (List Int)) → Option (aS × Bool)) (slots_105 : List Int) (allv_105 : List aF) (i_105 : Int) (o4_105 : aS) (d_105 : List (List Int)) (d_105_2 : List Int) : Option (aS × Bool) :=
    again4 (w64 (i_105 + 1)) o4_105 d_105

def uJ (again4 : Int → aS → (List (List Int)) → Option (aS × Bool)) (slots_110 : List Int) (allv_110 : List aF) (i_110 : Int) (o4_110 : aS) (d_110 : List (List Int)) (d_110_2 : List Int) : Option (aS × Bool) :=
    mA again4 slots_110 allv_110 i_110 o4_110 d_110 d_110_2

def iL (again4 : Int → aS → (List (List Int)) → Option (aS × Bool)) (slots_10 : List Int) (allv_10 : List aF) (i_10 : Int) (atv_10 : Int) (d_10_2 : List Int) (x_10 : aF) : Nat → Int → aS → (List (List Int)) → Option (aS × Bool)
  | 0, _, _, _ => none
  | k10 + 1, r_10, o4_10, d_10 =>
    bif decide (r_10 ≤ x_10.Round) then ((chk (decide (0 ≤ (IntKind.u64.wrap (w64 (r_10 + 1)))))).bind fun u36 =>
    (idx d_10 r_10).bind fun x37 =>
    (idx x37 (atv_10.fdiv (2 ^ (min (IntKind.u64.wrap (w64 (r_10 + 1))).toNat 64)))).bind fun x38 =>
    (bif !decide (x38 = (-2)) then ((idx d_10 r_10).bind fun x39 =>
    (idx x39 (atv_10.fdiv (2 ^ (min (IntKind.u64.wrap (w64 (r_10 + 1))).toNat 64)))).bind fun x40 =>
    some (!decide (x40 = x_10.Player))) else (some false)).bind fun b41 =>
    bif b41 then (some ((aS.mk ([] : List Int) ([] : List (List Int))), false))
    else ((idx d_10 r_10).bind fun x42 =>
    (idx x42 (atv_10.fdiv (2 ^ (min (IntKind.u64.wrap (w64 (r_10 + 1))).toNat 64)))).bind fun x43 =>
    (iL again4 slots_10 allv_10 i_10 atv_10 d_10_2 x_10 k10) (w64 (r_10 + 1)) o4_10 (d_10.set r_10.toNat (x42.set (atv_10.fdiv (2 ^ (min (IntKind.u64.wrap (w64 (r_10 + 1))).toNat 64))).toNat x_10.Player))))
    else (uJ again4 slots_10 allv_10 i_10 o4_10 d_10 d_10_2)

def jA (again4 : Int → aS → (List (List Int)) → Option (aS × Bool)) (slots_108 : List Int) (allv_108 : List aF) (i_108 : Int) (atv_108 : Int) (o4_108 : aS) (d_108 : List (List Int)) (d_108_2 : List Int) (x_108 : aF) : Option (aS × Bool) :=
    (bif decide (atv_108 < 0) then (some true) else ((chk (decide (0 ≤ (IntKind.u64.wrap (w64 (x_108.Round + 1)))))).bind fun u34 =>
    some (!decide ((atv_108.fdiv (2 ^ (min (IntKind.u64.wrap (w64 (x_108.Round + 1))).toNat 64))) = x_108.Place)))).bind fun b35 =>
    bif b35 then (some ((aS.mk ([] : List Int) ([] : List (List Int))), false))
    else (iL again4 slots_108 allv_108 i_108 atv_108 d_108_2 x_108 BIG 0 o4_108 d_108)

def eQ (again4 : Int → aS → (List (List Int)) → Option (aS × Bool)) (slots_8 : List Int) (allv_8 : List aF) (i_8 : Int) (o4_8 : aS) (d_8 : List (List Int)) (d_8_2 : List Int) (x_8 : aF) : Nat → Int → Int → Option (aS × Bool)
  | 0, _, _ => none
  | k8 + 1, atv_8, s_8 =>
    bif decide (s_8 < (slots_8.length : Int)) then ((idx slots_8 s_8).bind fun x33 =>
    bif decide (x33 = x_8.Player) then ((eQ again4 slots_8 allv_8 i_8 o4_8 d_8 d_8_2 x_8 k8) s_8 (w64 (s_8 + 1)))
    else ((eQ again4 slots_8 allv_8 i_8 o4_8 d_8 d_8_2 x_8 k8) atv_8 (w64 (s_8 + 1))))
    else (jA again4 slots_8 allv_8 i_8 atv_8 o4_8 d_8 d_8_2 x_8)

def rL (again4 : Int → aS → (List (List Int)) → Option (aS × Bool)) (slots_106 : List Int) (allv_106 : List aF) (i_106 : Int) (o4_106 : aS) (d_106 : List (List Int)) (d_106_2 : List Int) (x_106 : aF) : Option (aS × Bool) :=
    eQ again4 slots_106 allv_106 i_106 o4_106 d_106 d_106_2 x_106 BIG (-1) 0

def jB (again4 : Int → aS → (List (List Int)) → Option (aS × Bool)) (slots_6 : List Int) (allv_6 : List aF) (i_6 : Int) (d_6 : List (List Int)) (d_6_2 : List Int) (x_6 : aF) : Nat → Int → aS → Option (aS × Bool)
  | 0, _, _ => none
  | k6 + 1, k_6, o4_6 =>
    bif decide (k_6 < i_6) then ((idx allv_6 k_6).bind fun x29 =>
    (bif !decide (x29.Kind = 5) then (some (decide (x29.Round = x_6.Round))) else (some false)).bind fun b31 =>
    (bif b31 then (some (decide (x29.Place = x_6.Place))) else (some false)).bind fun b32 =>
    bif b32 then (some ((aS.mk ([] : List Int) ([] : List (List Int))), false))
    else ((jB again4 slots_6 allv_6 i_6 d_6 d_6_2 x_6 k6) (w64 (k_6 + 1)) o4_6))
    else (rL again4 slots_6 allv_6 i_6 o4_6 d_6 d_6_2 x_6)

def uZ (o4_104 : aS) (d_104 : List (List Int)) (d_104_2 : List Int) : Option (aS × Bool) :=
    some ((aS.mk d_104_2 d_104), true)

def dM (slots_4 : List Int) (allv_4 : List aF) (d_4_2 : List Int) : Nat → Int → aS → (List (List Int)) → Option (aS × Bool)
  | 0, _, _, _ => none
  | k4 + 1, i_4, o4_4, d_4 =>
    bif decide (i_4 < (allv_4.length : Int)) then ((idx allv_4 i_4).bind fun x27 =>
    bif decide (x27.Kind = 5) then (mA (dM slots_4 allv_4 d_4_2 k4) slots_4 allv_4 i_4 o4_4 d_4 d_4_2)
    else (jB (dM slots_4 allv_4 d_4_2 k4) slots_4 allv_4 i_4 d_4 d_4_2 x27 BIG 0 o4_4))
    else (uZ o4_4 d_4 d_4_2)

def lY (l_100 : List aF) (slots_100 : List Int) (o4_100 : aS) (d_100 : List (List Int)) (d_100_2 : List Int) : Option (aS × Bool) :=
    (oV l_100).bind fun r26 =>
    dM slots_100 r26 d_100_2 BIG 0 o4_100 d_100

def iB (l_0 : List aF) (slots_0 : List Int) (t_0 : aQ) (o4_0 : aS) : Nat → Int → (List (List Int)) → (List Int) → Option (aS × Bool)
  | 0, _, _, _ => none
  | k0 + 1, r_0, d_0, d_0_2 =>
    bif decide (r_0 < t_0.Rounds) then (fC (iB l_0 slots_0 t_0 o4_0 k0) l_0 slots_0 r_0 t_0 o4_0 d_0 d_0_2 BIG 0 ([] : List Int))
    else (lY l_0 slots_0 o4_0 d_0 d_0_2)

def fQ (t_0 : aQ) (l_1 : List aF) : Option (aS × Bool) :=
    (oL t_0 l_1).bind fun r3 =>
    bif !r3.2 then (some ((aS.mk ([] : List Int) ([] : List (List Int))), false))
    else (iB l_1 r3.1 t_0 (aS.mk ([] : List Int) ([] : List (List Int))) BIG 0 ([] : List (List Int)) r3.1)

def kV (l_100 : List aF) (t_100 : aQ) : Option Int :=
    (fQ t_100 l_100).bind fun r5 =>
    bif !r5.2 then (some 72)
    else (some 0)

def iK (l_0 : List aF) (t_0 : aQ) : Nat → Int → Option Int
  | 0, _ => none
  | k0 + 1, i_0 =>
    bif decide (i_0 < (l_0.length : Int)) then ((idx l_0 i_0).bind fun x3 =>
    (pO t_0 x3).bind fun r4 =>
    bif !r4 then (some 71)
    else ((iK l_0 t_0 k0) (w64 (i_0 + 1))))
    else (kV l_0 t_0)

def fS (t_0 : aQ) (l_1 : List aF) : Option Int :=
    (mW t_0).bind fun r2 =>
    bif !r2 then (some 70)
    else (bif decide (60 < (l_1.length : Int)) then (some 71)
    else (iK l_1 t_0 BIG 0))

def eA (n_0 : Int) (low_1 : Int) (high_2 : Int) : Option Bool :=
    (bif decide (low_1 ≤ n_0) then (some (decide (n_0 ≤ high_2))) else (some false)).bind fun b1 =>
    some b1

def xG : Option Bool :=
    some false

def iT (player_0 : Int) (p_0 : aM) : Nat → Int → Option Bool
  | 0, _ => none
  | k0 + 1, i_0 =>
    bif decide (i_0 < (p_0.Teams.length : Int)) then ((idx p_0.Teams i_0).bind fun x2 =>
    bif decide (x2.Player = player_0) then (some true)
    else ((iT player_0 p_0 k0) (w64 (i_0 + 1))))
    else (xG)

def mC (p_0 : aM) (player_1 : Int) : Option Bool :=
    iT player_1 p_0 BIG 0

def sG (again0 : Int → Option Bool) (i_101 : Int) (p_101 : aM) : Option Bool :=
    again0 (w64 (i_101 + 1))

def sH (again0 : Int → Option Bool) (i_102 : Int) (p_102 : aM) : Option Bool :=
    sG again0 i_102 p_102

def gH (again0 : Int → Option Bool) (i_2 : Int) (p_2 : aM) (t_2 : bF) : Nat → Int → Option Bool
  | 0, _ => none
  | k2 + 1, k_2 =>
    bif decide (k_2 < i_2) then ((idx p_2.Teams k_2).bind fun x10 =>
    (bif decide (x10.Player = t_2.Player) then (some true) else (some (decide (x10.One = t_2.One)))).bind fun b12 =>
    (bif b12 then (some true) else (some (decide (x10.Two = t_2.One)))).bind fun b13 =>
    (bif b13 then (some true) else ((bif decide (0 ≤ t_2.Two) then ((bif decide (x10.One = t_2.Two) then (some true) else (some (decide (x10.Two = t_2.Two)))).bind fun b14 =>
    some b14) else (some false)).bind fun b15 =>
    some b15)).bind fun b16 =>
    bif b16 then (some false)
    else ((gH again0 i_2 p_2 t_2 k2) (w64 (k_2 + 1))))
    else (sH again0 i_2 p_2)

def oC (p_106 : aM) : Option Bool :=
    some (decide ((p_106.Teams.length : Int) ≤ 64))

def iE (p_6 : aM) : Nat → Int → Option Bool
  | 0, _ => none
  | k6 + 1, i_6 =>
    bif decide (i_6 < (p_6.Slips.length : Int)) then ((idx p_6.Slips i_6).bind fun x21 =>
    (bif decide (x21.Kind = 5) then ((idx p_6.Slips i_6).bind fun x22 =>
    (mC p_6 x22.Player).bind fun r23 =>
    some (!r23)) else (some false)).bind fun b24 =>
    bif b24 then (some false)
    else ((iE p_6 k6) (w64 (i_6 + 1))))
    else (oC p_6)

def lC (p_104 : aM) : Option Bool :=
    iE p_104 BIG 0

def iD (p_4 : aM) : Nat → Int → Option Bool
  | 0, _ => none
  | k4 + 1, i_4 =>
    bif decide (i_4 < (p_4.Tree.Slots.length : Int)) then ((idx p_4.Tree.Slots i_4).bind fun x17 =>
    (bif !decide (x17 = (-1)) then ((idx p_4.Tree.Slots i_4).bind fun x18 =>
    (mC p_4 x18).bind fun r19 =>
    some (!r19)) else (some false)).bind fun b20 =>
    bif b20 then (some false)
    else ((iD p_4 k4) (w64 (i_4 + 1))))
    else (lC p_4)

def lB (p_100 : aM) : Option Bool :=
    iD p_100 BIG 0

def gG (p_0 : aM) : Nat → Int → Option Bool
  | 0, _ => none
  | k0 + 1, i_0 =>
    bif decide (i_0 < (p_0.Teams.length : Int)) then ((idx p_0.Teams i_0).bind fun x2 =>
    (eA x2.Player 0 999).bind fun r4 =>
    (bif !r4 then (some true) else ((eA x2.One 0 999).bind fun r5 =>
    some (!r5))).bind fun b6 =>
    (bif b6 then (some true) else ((eA x2.Two (-1) 999).bind fun r7 =>
    some (!r7))).bind fun b8 =>
    (bif b8 then (some true) else (some (decide (x2.One = x2.Two)))).bind fun b9 =>
    bif b9 then (some false)
    else (gH (gG p_0 k0) i_0 p_0 x2 BIG 0))
    else (lB p_0)

def kW (p_0 : aM) : Option Bool :=
    gG p_0 BIG 0

def zY (t_100 : bF) : Option (bF × Bool × Bool) :=
    some ((bF.mk 0 0 0), false, false)

def kD (person_0 : Int) (p_0 : aM) : Nat → Int → bF → Option (bF × Bool × Bool)
  | 0, _, _ => none
  | k0 + 1, i_0, t_0 =>
    bif decide (i_0 < (p_0.Teams.length : Int)) then ((idx p_0.Teams i_0).bind fun x3 =>
    (bif decide (x3.One = person_0) then (some true) else ((idx p_0.Teams i_0).bind fun x4 =>
    (bif decide (x4.Two = person_0) then (some (decide (0 ≤ person_0))) else (some false)).bind fun b5 =>
    some b5)).bind fun b6 =>
    bif b6 then ((idx p_0.Teams i_0).bind fun x7 =>
    (idx p_0.Teams i_0).bind fun x8 =>
    some (x7, decide (x8.Two = person_0), true))
    else ((kD person_0 p_0 k0) (w64 (i_0 + 1)) t_0))
    else (zY t_0)

def rM (p_0 : aM) (person_1 : Int) : Option (bF × Bool × Bool) :=
    kD person_1 p_0 BIG 0 (bF.mk 0 0 0)

def jR (p_0 : aM) (person_1 : Int) : Option Bool :=
    (rM p_0 person_1).bind fun r2 =>
    (bif r2.2.2 then (some (decide (0 ≤ person_1))) else (some false)).bind fun b4 =>
    some b4

def sB (again0 : Int → Option Bool) (i_101 : Int) (p_101 : aM) : Option Bool :=
    again0 (w64 (i_101 + 1))

def sC (again0 : Int → Option Bool) (i_102 : Int) (p_102 : aM) : Option Bool :=
    sB again0 i_102 p_102

def gE (again0 : Int → Option Bool) (i_2 : Int) (p_2 : aM) : Nat → Int → Option Bool
  | 0, _ => none
  | k2 + 1, k_2 =>
    bif decide (k_2 < i_2) then ((idx p_2.Levies k_2).bind fun x7 =>
    (idx p_2.Levies i_2).bind fun x8 =>
    bif decide (x7.Person = x8.Person) then (some false)
    else ((gE again0 i_2 p_2 k2) (w64 (k_2 + 1))))
    else (sC again0 i_2 p_2)

def sE (again4 : Int → Option Bool) (i_105 : Int) (p_105 : aM) : Option Bool :=
    again4 (w64 (i_105 + 1))

def sF (again4 : Int → Option Bool) (i_106 : Int) (p_106 : aM) : Option Bool :=
    sE again4 i_106 p_106

def gF (again4 : Int → Option Bool) (i_6 : Int) (p_6 : aM) (r_6 : bX) : Nat → Int → Option Bool
  | 0, _ => none
  | k6 + 1, k_6 =>
    bif decide (k_6 < i_6) then ((idx p_6.Rates k_6).bind fun x16 =>
    bif decide (x16.Person = r_6.Person) then (some false)
    else ((gF again4 i_6 p_6 r_6 k6) (w64 (k_6 + 1))))
    else (sF again4 i_6 p_6)

def sD : Option Bool :=
    some true

def dQ (p_4 : aM) : Nat → Int → Option Bool
  | 0, _ => none
  | k4 + 1, i_4 =>
    bif decide (i_4 < (p_4.Rates.length : Int)) then ((idx p_4.Rates i_4).bind fun x9 =>
    (jR p_4 x9.Person).bind fun r11 =>
    (bif !r11 then (some true) else ((eA x9.Num 1 10000).bind fun r12 =>
    some (!r12))).bind fun b13 =>
    (bif b13 then (some true) else ((eA x9.Den 1 10000).bind fun r14 =>
    some (!r14))).bind fun b15 =>
    bif b15 then (some false)
    else (gF (dQ p_4 k4) i_4 p_4 x9 BIG 0))
    else (sD)

def lA (p_100 : aM) : Option Bool :=
    dQ p_100 BIG 0

def dP (p_0 : aM) : Nat → Int → Option Bool
  | 0, _ => none
  | k0 + 1, i_0 =>
    bif decide (i_0 < (p_0.Levies.length : Int)) then ((idx p_0.Levies i_0).bind fun x2 =>
    (jR p_0 x2.Person).bind fun r3 =>
    (bif !r3 then (some true) else ((idx p_0.Levies i_0).bind fun x4 =>
    (eA x4.Mille 0 500).bind fun r5 =>
    some (!r5))).bind fun b6 =>
    bif b6 then (some false)
    else (gE (dP p_0 k0) i_0 p_0 BIG 0))
    else (lA p_0)

def nJ (p_0 : aM) : Option Bool :=
    dP p_0 BIG 0

def rZ (again0 : Int → Option Bool) (i_101 : Int) (p_101 : aM) : Option Bool :=
    again0 (w64 (i_101 + 1))

def sA (again0 : Int → Option Bool) (i_102 : Int) (p_102 : aM) : Option Bool :=
    rZ again0 i_102 p_102

def gD (again0 : Int → Option Bool) (i_2 : Int) (p_2 : aM) (x_2 : aG) : Nat → Int → Option Bool
  | 0, _ => none
  | k2 + 1, k_2 =>
    bif decide (k_2 < i_2) then ((idx p_2.Items k_2).bind fun x13 =>
    (bif decide (x13.Id = x_2.Id) then ((idx p_2.Items k_2).bind fun x14 =>
    some (!decide (x14 = x_2))) else (some false)).bind fun b15 =>
    bif b15 then (some false)
    else ((gD again0 i_2 p_2 x_2 k2) (w64 (k_2 + 1))))
    else (sA again0 i_2 p_2)

def oB (p_100 : aM) : Option Bool :=
    some (decide ((p_100.Items.length : Int) ≤ 40))

def dO (p_0 : aM) : Nat → Int → Option Bool
  | 0, _ => none
  | k0 + 1, i_0 =>
    bif decide (i_0 < (p_0.Items.length : Int)) then ((idx p_0.Items i_0).bind fun x2 =>
    (eA x2.Id 0 99).bind fun r4 =>
    (bif !r4 then (some true) else ((jR p_0 x2.Person).bind fun r5 =>
    some (!r5))).bind fun b6 =>
    (bif b6 then (some true) else ((bif decide (x2.Kind = 1) then ((eA x2.Amount 0 10000000).bind fun r7 =>
    some r7) else (some false)).bind fun b8 =>
    (bif b8 then (some true) else ((bif decide (x2.Kind = 2) then ((eA x2.Amount 0 30).bind fun r9 =>
    some r9) else (some false)).bind fun b10 =>
    some b10)).bind fun b11 =>
    some (!b11))).bind fun b12 =>
    bif b12 then (some false)
    else (gD (dO p_0 k0) i_0 p_0 x2 BIG 0))
    else (oB p_0)

def nI (p_0 : aM) : Option Bool :=
    dO p_0 BIG 0

def rA (p_100 : aM) : Option Int :=
    (bif !decide ((p_100.Prizes.length : Int) = (w64 (p_100.Tree.Rounds + 1))) then (some true) else ((eA p_100.Daily 0 100000).bind fun r9 =>
    some (!r9))).bind fun b10 =>
    bif b10 then (some 100)
    else ((kW p_100).bind fun r11 =>
    (bif !r11 then (some true) else ((nJ p_100).bind fun r12 =>
    some (!r12))).bind fun b13 =>
    bif b13 then (some 101)
    else ((nI p_100).bind fun r14 =>
    bif !r14 then (some 102)
    else (some 0)))

def iN (p_0 : aM) : Nat → Int → Option Int
  | 0, _ => none
  | k0 + 1, i_0 =>
    bif decide (i_0 < (p_0.Prizes.length : Int)) then ((idx p_0.Prizes i_0).bind fun x3 =>
    (eA x3 0 10000000).bind fun r4 =>
    (bif !r4 then (some true) else ((bif decide (0 < i_0) then ((idx p_0.Prizes i_0).bind fun x5 =>
    (idx p_0.Prizes (w64 (i_0 - 1))).bind fun x6 =>
    some (decide (x5 < x6))) else (some false)).bind fun b7 =>
    some b7)).bind fun b8 =>
    bif b8 then (some 100)
    else ((iN p_0 k0) (w64 (i_0 + 1))))
    else (rA p_0)

def nT (p_0 : aM) : Option Int :=
    (fS p_0.Tree p_0.Slips).bind fun r2 =>
    bif !decide (r2 = 0) then (some r2)
    else (iN p_0 BIG 0)

def oJ : Option aM :=
    some (aM.mk (aQ.mk 2 ([1, 2, 3, 4])) ([(aF.mk 1 0 0 1 0)]) ([100, 300, 1001]) 40 ([(bF.mk 1 11 12), (bF.mk 2 21 22), (bF.mk 3 31 (-1)), (bF.mk 4 41 (-1))]) ([(cC.mk 11 250)]) ([(bX.mk 21 3 2), (bX.mk 22 1 3)]) ([(aG.mk 1 1 21 30), (aG.mk 2 2 11 2), (aG.mk 3 1 31 160)]))

def gL (n_0 : Int) (low_1 : Int) (high_2 : Int) : Option Bool :=
    (bif decide (low_1 ≤ n_0) then (some (decide (n_0 ≤ high_2))) else (some false)).bind fun b1 =>
    some b1

def vY : Option Bool :=
    some true

def jL (t21_0 : List Int) (t22_0 : Int) (t_0 : aQ) : Nat → Int → (List (Int × Int)) → Option Bool
  | 0, _, _ => none
  | k0 + 1, t23_0, o19_0 =>
    bif decide (t23_0 < t22_0) then ((idx t21_0 t23_0).bind fun x6 =>
    bif decide (x6 = (-1)) then ((idx t_0.Slots (aPp t23_0 1)).bind fun x7 =>
    bif decide (x7 = (-1)) then (some false)
    else ((jL t21_0 t22_0 t_0 k0) (w64 (t23_0 + 1)) o19_0))
    else ((bif decide (1 < (dB x6 0 (hJ x6 (w64 ((dB x6 0 o19_0) + 1)) o19_0))) then (some true) else ((gL x6 0 999).bind fun r8 =>
    some (!r8))).bind fun b9 =>
    bif b9 then (some false)
    else ((jL t21_0 t22_0 t_0 k0) (w64 (t23_0 + 1)) (hJ x6 (w64 ((dB x6 0 o19_0) + 1)) o19_0))))
    else (vY)

def qI (t_0 : aQ) : Option Bool :=
    (gL t_0.Rounds 1 5).bind fun r2 =>
    (bif !r2 then (some true) else ((chk (decide (0 ≤ t_0.Rounds))).bind fun u3 =>
    some (!decide ((t_0.Slots.length : Int) = (w64 (1 * 2 ^ (min t_0.Rounds.toNat 64))))))).bind fun b4 =>
    bif b4 then (some false)
    else (jL t_0.Slots (t_0.Slots.length : Int) t_0 BIG 0 ([] : List (Int × Int)))

def nX : Option Int :=
    some (-1)

def fL (s_0 : List aF) (f_0 : aF → Option Bool) (t7_0 : Int) : Nat → Int → Option Int
  | 0, _ => none
  | k0 + 1, t8_0 =>
    bif decide (t8_0 < t7_0) then ((idx s_0 t8_0).bind fun x1 =>
    (f_0 x1).bind fun r2 =>
    bif r2 then (some t8_0)
    else ((fL s_0 f_0 t7_0 k0) (w64 (t8_0 + 1))))
    else (nX)

def jU (s_0 : List aF) (f_1 : aF → Option Bool) : Option Int :=
    fL s_0 f_1 (s_0.length : Int) BIG 0

def iV (s_0 : List aF) (f_1 : aF → Option Bool) : Option Bool :=
    (jU s_0 f_1).bind fun r1 =>
    some (decide (0 ≤ r1))

def qP (m_0 : aI) (t_1 : aQ) : Option Bool :=
    (gL m_0.round 0 (w64 (t_1.Rounds - 1))).bind fun r3 =>
    (bif r3 then ((chk (decide (0 ≤ (w64 (m_0.round + 1))))).bind fun u4 =>
    (gL m_0.place 0 (w64 (((t_1.Slots.length : Int).fdiv (2 ^ (min (w64 (m_0.round + 1)).toNat 64))) - 1))).bind fun r5 =>
    some r5) else (some false)).bind fun b6 =>
    some b6

def uN : Option Int :=
    some (-1)

def jS (s_0 : List Int) (v_0 : Int) (t7_0 : Int) : Nat → Int → Option Int
  | 0, _ => none
  | k0 + 1, t8_0 =>
    bif decide (t8_0 < t7_0) then ((idx s_0 t8_0).bind fun x1 =>
    bif decide (v_0 = x1) then (some t8_0)
    else ((jS s_0 v_0 t7_0 k0) (w64 (t8_0 + 1))))
    else (uN)

def iG (s_0 : List Int) (v_1 : Int) : Option Int :=
    jS s_0 v_1 (s_0.length : Int) BIG 0

def dI (s_0 : List Int) (v_1 : Int) : Option Bool :=
    (iG s_0 v_1).bind fun r1 =>
    some (decide (0 ≤ r1))

def sP (t_0 : aQ) (s_1 : aF) : Option Bool :=
    (gL s_1.Player 0 999).bind fun r3 =>
    bif !r3 then (some false)
    else (bif decide (s_1.Kind = 5) then ((bif decide (s_1.Round = 0) then ((gL s_1.Place 0 (w64 ((t_0.Slots.length : Int) - 1))).bind fun r4 =>
    some r4) else (some false)).bind fun b5 =>
    (bif b5 then ((gL s_1.Old 0 999).bind fun r6 =>
    some r6) else (some false)).bind fun b7 =>
    some b7)
    else ((gL s_1.Kind 1 4).bind fun r9 =>
    (bif !r9 then (some true) else (some (!decide (s_1.Old = 0)))).bind fun b10 =>
    (bif b10 then (some true) else ((qP (aI.mk s_1.Round s_1.Place) t_0).bind fun r11 =>
    some (!r11))).bind fun b12 =>
    bif b12 then (some false)
    else ((bif decide (0 < s_1.Round) then (some true) else ((sub t_0.Slots (w64 (2 * s_1.Place)) (w64 ((w64 (2 * s_1.Place)) + 2))).bind fun x13 =>
    (dI x13 (-1)).bind fun r14 =>
    some (!r14))).bind fun b15 =>
    some b15)))

def qJ (s_0 : aF) (c_1 : aQ) : Option Bool :=
    (sP c_1 s_0).bind fun r2 =>
    some (!r2)

def slices_Clone_int (s_0 : List Int) : Option ((List Int)) :=
    (app 8 ([] : List Int) s_0).bind fun x5 =>
    some x5

def pX (againQ : (aF × Bool) → Prop) (d_100 : List Int) (d_100_2 : aQ) (lucky_100 : List (aF × Int)) (o6_100 : aF) : Prop :=
    againQ ((aF.mk 0 0 0 0 0), false)

def jG (againQ : (aF × Bool) → Prop) (slot_0 : Int) (d_0 : List Int) (d_0_2 : aQ) (lucky_0 : List (aF × Int)) : Nat → aF → (List (aF × Int)) → Prop
  | 0, _, _ => False
  | k0 + 1, o6_0, left_0 =>
    aQi left_0 (pX againQ d_0 d_0_2 lucky_0 o6_0)
    (fun p5 left6 =>
    nb (bif decide (p5.1.Place = slot_0) then ((idx d_0 slot_0).bind fun x8 =>
    some (decide (p5.1.Old = x8))) else (some false)) fun b9 =>
    bif b9 then (againQ (p5.1, true))
    else ((jG againQ slot_0 d_0 d_0_2 lucky_0 k0) o6_0 left6))

def jK (d_0_Tree : aQ) (d_0_players : List Int) (lucky_1 : List (aF × Int)) (slot_2 : Int) (Q : (aF × Bool) → Prop) : Prop :=
    aEq lucky_1 fun left3 =>
    jG Q slot_2 d_0_players d_0_Tree lucky_1 BIG (aF.mk 0 0 0 0 0) left3

def nE (againQ : (Bool × (List Int) × (List (aF × Int))) → Prop) (again0 : Int → (List Int) → (List (aF × Int)) → (List Int) → Prop) (t19_101 : Int) (t20_101 : Int) (d_101 : List Int) (d_101_2 : aQ) (lucky_101 : List (aF × Int)) (o14_101 : List Int) : Prop :=
    again0 (w64 (t20_101 + 1)) d_101 lucky_101 o14_101

def nF (againQ : (Bool × (List Int) × (List (aF × Int))) → Prop) (again0 : Int → (List Int) → (List (aF × Int)) → (List Int) → Prop) (t19_102 : Int) (t20_102 : Int) (d_102 : List Int) (d_102_2 : aQ) (lucky_102 : List (aF × Int)) (o14_102 : List Int) : Prop :=
    nE againQ again0 t19_102 t20_102 d_102 d_102_2 lucky_102 o14_102

def eO (againQ : (Bool × (List Int) × (List (aF × Int))) → Prop) (again0 : Int → (List Int) → (List (aF × Int)) → (List Int) → Prop) (i_2 : Int) (t19_2 : Int) (t20_2 : Int) (d_2_2 : aQ) : Nat → Bool → (List Int) → (List (aF × Int)) → aF → (List Int) → Prop
  | 0, _, _, _, _, _ => False
  | k2 + 1, isv_2, d_2, lucky_2, s_2, o14_2 =>
    bif isv_2 then (nb (dI o14_2 s_2.Player) fun r5 =>
    bif r5 then (againQ (false, d_2, lucky_2))
    else (nb (idx d_2 i_2) fun x6 =>
    nb (app 8 o14_2 ([s_2.Player])) fun x7 =>
    jK d_2_2 (d_2.set i_2.toNat s_2.Player) (sL s_2 lucky_2) i_2 fun r10 =>
    (eO againQ again0 i_2 t19_2 t20_2 d_2_2 k2) r10.2 (d_2.set i_2.toNat s_2.Player) (sL s_2 lucky_2) r10.1 x7))
    else (nF againQ again0 t19_2 t20_2 d_2 d_2_2 lucky_2 o14_2)

def nD (againQ : (Bool × (List Int) × (List (aF × Int))) → Prop) (d_100 : List Int) (d_100_2 : aQ) (lucky_100 : List (aF × Int)) : Prop :=
    againQ (decide ((lucky_100.length : Int) = 0), d_100, lucky_100)

def dE (againQ : (Bool × (List Int) × (List (aF × Int))) → Prop) (t19_0 : Int) (d_0_2 : aQ) : Nat → Int → (List Int) → (List (aF × Int)) → (List Int) → Prop
  | 0, _, _, _, _ => False
  | k0 + 1, t20_0, d_0, lucky_0, o14_0 =>
    bif decide (t20_0 < t19_0) then (jK d_0_2 d_0 lucky_0 t20_0 fun r3 =>
    eO againQ (dE againQ t19_0 d_0_2 k0) t20_0 t19_0 t20_0 d_0_2 BIG r3.2 d_0 lucky_0 r3.1 o14_0)
    else (nD againQ d_0 d_0_2 lucky_0)

def mK (d_0_Tree : aQ) (d_0_players : List Int) (lucky_1 : List (aF × Int)) (Q : (Bool × (List Int) × (List (aF × Int))) → Prop) : Prop :=
    nb (slices_Clone_int d_0_Tree.Slots) fun r1 =>
    dE Q (d_0_players.length : Int) d_0_Tree BIG 0 d_0_players lucky_1 r1

def pY (round_0 : Int) (slot_1 : Int) : Option aI :=
    (chk (decide (0 ≤ (w64 (round_0 + 1))))).bind fun u2 =>
    some (aI.mk round_0 (slot_1.fdiv (2 ^ (min (w64 (round_0 + 1)).toNat 64))))

def tL (d_100 : List Int) (d_100_2 : List (aI × Int)) (d_100_3 : aQ) : Option (Bool × (List (aI × Int))) :=
    some (true, d_100_2)

def jH (slot_0 : Int) (t12_0 : Int) (d_0 : List Int) (d_0_3 : aQ) : Nat → Int → (List (aI × Int)) → Option (Bool × (List (aI × Int)))
  | 0, _, _ => none
  | k0 + 1, t13_0, d_0_2 =>
    bif decide (t13_0 < t12_0) then ((pY t13_0 slot_0).bind fun r1 =>
    (bif eB r1 d_0_2 then ((idx d_0 slot_0).bind fun x3 =>
    some (!decide ((dB r1 0 d_0_2) = x3))) else (some false)).bind fun b4 =>
    bif b4 then (some (false, d_0_2))
    else ((idx d_0 slot_0).bind fun x5 =>
    (jH slot_0 t12_0 d_0 d_0_3 k0) (w64 (t13_0 + 1)) (hJ r1 x5 d_0_2)))
    else (tL d_0 d_0_2 d_0_3)

def mV (d_0_Tree : aQ) (d_0_players : List Int) (d_0_won : List (aI × Int)) (slot_1 : Int) (round_2 : Int) : Option (Bool × (List (aI × Int))) :=
    jH slot_1 (w64 (round_2 + 1)) d_0_players d_0_Tree BIG 0 d_0_won

def wR (againQ : ((Option bG) × Bool) → Prop) (o22_104 : List Int) (o23_104 : List (aI × Int)) (o25_104 : aQ) : Prop :=
    againQ ((some (bG.mk o25_104 o22_104 o23_104)), true)

def lN (againQ : ((Option bG) × Bool) → Prop) (o22_4 : List Int) (o25_4 : aQ) (o27_4 : List (aI × aF)) : Nat → (List (aI × Int)) → (List (aI × aF)) → Prop
  | 0, _, _ => False
  | k4 + 1, o23_4, left_4 =>
    aQi left_4 (wR againQ o22_4 o23_4 o25_4)
    (fun p23 left24 =>
    nb (iG o22_4 p23.2.Player) fun r27 =>
    nb (bif decide (r27 < 0) then (some true) else ((pY p23.1.round r27).bind fun r28 =>
    some (!decide (r28 = p23.1)))) fun b29 =>
    bif b29 then (againQ ((none : Option bG), false))
    else (nb (mV o25_4 o22_4 o23_4 r27 p23.1.round) fun r31 =>
    bif !r31.1 then (againQ ((none : Option bG), false))
    else ((lN againQ o22_4 o25_4 o27_4 k4) r31.2 left24)))

def tK (againQ : ((Option bG) × Bool) → Prop) (o22_102 : List Int) (o23_102 : List (aI × Int)) (o25_102 : aQ) (o27_102 : List (aI × aF)) : Prop :=
    aEq o27_102 fun left21 =>
    lN againQ o22_102 o25_102 o27_102 BIG o23_102 left21

def jF (againQ : ((Option bG) × Bool) → Prop) (t72_2 : Int) (o22_2 : List Int) (o25_2 : aQ) (o27_2 : List (aI × aF)) : Nat → Int → (List (aI × Int)) → Prop
  | 0, _, _ => False
  | k2 + 1, t73_2, o23_2 =>
    bif decide (t73_2 < t72_2) then (nb (idx o22_2 t73_2) fun x16 =>
    bif decide (x16 = (-1)) then (nb (mV o25_2 o22_2 o23_2 (aPp t73_2 1) 0) fun r17 =>
    (jF againQ t72_2 o22_2 o25_2 o27_2 k2) (w64 (t73_2 + 1)) r17.2)
    else ((jF againQ t72_2 o22_2 o25_2 o27_2 k2) (w64 (t73_2 + 1)) o23_2))
    else (tK againQ o22_2 o23_2 o25_2 o27_2)

def tJ (againQ : ((Option bG) × Bool) → Prop) (o22_100 : List Int) (o23_100 : List (aI × Int)) (o25_100 : aQ) (o26_100 : List (aF × Int)) (o27_100 : List (aI × aF)) : Prop :=
    mK o25_100 o22_100 o26_100 fun r13 =>
    bif !r13.1 then (againQ ((none : Option bG), false))
    else (jF againQ (r13.2.1.length : Int) r13.2.1 o25_100 o27_100 BIG 0 o23_100)

def jE (againQ : ((Option bG) × Bool) → Prop) (t28_0 : List aF) (t29_0 : Int) (o22_0 : List Int) (o23_0 : List (aI × Int)) (o25_0 : aQ) : Nat → Int → (List (aF × Int)) → (List (aI × aF)) → Prop
  | 0, _, _, _ => False
  | k0 + 1, t30_0, o26_0, o27_0 =>
    bif decide (t30_0 < t29_0) then (nb (idx t28_0 t30_0) fun x8 =>
    bif decide (x8.Kind = 5) then ((jE againQ t28_0 t29_0 o22_0 o23_0 o25_0 k0) (w64 (t30_0 + 1)) (hJ x8 (w64 ((dB x8 0 o26_0) + 1)) o26_0) o27_0)
    else (nb (bif eB (aI.mk x8.Round x8.Place) o27_0 then (some (!decide ((dB (aI.mk x8.Round x8.Place) (aF.mk 0 0 0 0 0) o27_0) = x8))) else (some false)) fun b12 =>
    bif b12 then (againQ ((none : Option bG), false))
    else ((jE againQ t28_0 t29_0 o22_0 o23_0 o25_0 k0) (w64 (t30_0 + 1)) o26_0 (hJ (aI.mk x8.Round x8.Place) x8 o27_0))))
    else (tJ againQ o22_0 o23_0 o25_0 o26_0 o27_0)

def tU (t_0 : aQ) (l_1 : List aF) (Q : ((Option bG) × Bool) → Prop) : Prop :=
    nb (slices_Clone_int t_0.Slots) fun r2 =>
    jE Q l_1 (l_1.length : Int) r2 ([] : List (aI × Int)) t_0 BIG 0 ([] : List (aF × Int)) ([] : List (aI × aF))

def oI (t_0 : aQ) (l_1 : List aF) (Q : ((Option bG) × Int) → Prop) : Prop :=
    nb (qI t_0) fun r2 =>
    bif !r2 then (Q ((none : Option bG), 70))
    else (nb (bif decide (60 < (l_1.length : Int)) then (some true) else ((iV l_1 (fun y3 => qJ y3 t_0)).bind fun r4 =>
    some r4)) fun b5 =>
    bif b5 then (Q ((none : Option bG), 71))
    else (tU t_0 l_1 fun r6 =>
    bif !r6.2 then (Q ((none : Option bG), 72))
    else (Q (r6.1, 0))))

def tT (t_0 : aQ) (l_1 : List aF) (Q : Int → Prop) : Prop :=
    oI t_0 l_1 fun r2 =>
    Q r2.2

def tV (x_0 : Int) : Option Bool :=
    some (!decide (x_0 = x_0))

def uX (x_0 : Int) (y_1 : Int) : Option Bool :=
    (tV x_0).bind fun r1 =>
    (bif r1 then ((tV y_1).bind fun r2 =>
    some (!r2)) else (some false)).bind fun b3 =>
    (bif b3 then (some true) else (some (decide (x_0 < y_1)))).bind fun b4 =>
    some b4

def wJ : Option Bool :=
    some true

def iH (x_0 : List Int) : Nat → Int → Option Bool
  | 0, _ => none
  | k0 + 1, i_0 =>
    bif decide (0 < i_0) then ((idx x_0 i_0).bind fun x1 =>
    (idx x_0 (w64 (i_0 - 1))).bind fun x2 =>
    (uX x1 x2).bind fun r3 =>
    bif r3 then (some false)
    else ((iH x_0 k0) (w64 (i_0 - 1))))
    else (wJ)

def nN (x_0 : List Int) : Option Bool :=
    iH x_0 BIG (w64 ((x_0.length : Int) - 1))

def gT (n_0 : Int) (low_1 : Int) (high_2 : Int) : Option Bool :=
    (bif decide (low_1 ≤ n_0) then (some (decide (n_0 ≤ high_2))) else (some false)).bind fun b1 =>
    some b1

def uC (p_0 : aM) : Option Bool :=
    (bif !decide ((p_0.Prizes.length : Int) = (w64 (p_0.Tree.Rounds + 1))) then (some true) else ((nN p_0.Prizes).bind fun r2 =>
    some (!r2))).bind fun b3 =>
    (bif b3 then (some true) else ((gT p_0.Daily 0 100000).bind fun r4 =>
    some (!r4))).bind fun b5 =>
    bif b5 then (some false)
    else ((idx p_0.Prizes 0).bind fun x6 =>
    (bif decide (0 ≤ x6) then ((idx p_0.Prizes (w64 ((p_0.Prizes.length : Int) - 1))).bind fun x7 =>
    some (decide (x7 ≤ 10000000))) else (some false)).bind fun b8 =>
    some b8)

def slices_Sort_int (x : List Int) : Option (List Int) := if x.length < 4611686018427387904 then some (fA x) else none

def tS (out_100 : List Int) : Option ((List Int)) :=
    (slices_Sort_int out_100).bind fun r9 =>
    some r9

def kF (t7_0 : List bF) (t8_0 : Int) : Nat → Int → (List Int) → Option ((List Int))
  | 0, _, _ => none
  | k0 + 1, t9_0, out_0 =>
    bif decide (t9_0 < t8_0) then ((idx t7_0 t9_0).bind fun x3 =>
    (app 8 out_0 ([x3.One])).bind fun x5 =>
    bif !decide (x3.Two = (-1)) then ((app 8 x5 ([x3.Two])).bind fun x7 =>
    (kF t7_0 t8_0 k0) (w64 (t9_0 + 1)) x7)
    else ((kF t7_0 t8_0 k0) (w64 (t9_0 + 1)) x5))
    else (tS out_0)

def pJ (p_0 : aM) : Option ((List Int)) :=
    kF p_0.Teams (p_0.Teams.length : Int) BIG 0 ([] : List Int)

def tC (again0 : Int → (List Int) → Option ((List Int))) (k_102 : Int) (s_102 : List Int) : Option ((List Int)) :=
    (chk (decide (0 ≤ k_102) && decide (k_102 ≤ (s_102.length : Int)))).bind fun u9 =>
    (chk (decide (k_102.toNat ≤ s_102.length))).bind fun u10 =>
    (chk (decide (0 ≤ k_102))).bind fun u11 =>
    some (s_102.take k_102.toNat)

def gY (again0 : Int → (List Int) → Option ((List Int))) (s2_2 : Int) : Nat → Int → Int → (List Int) → Option ((List Int))
  | 0, _, _, _ => none
  | k2 + 1, k_2, k2_2, s_2 =>
    bif decide (k2_2 < ((s_2.drop s2_2.toNat).length : Int)) then ((idx (s_2.drop s2_2.toNat) k2_2).bind fun x5 =>
    (idx (s_2.drop s2_2.toNat) (w64 (k2_2 - 1))).bind fun x6 =>
    bif !decide (x5 = x6) then ((idx (s_2.drop s2_2.toNat) k2_2).bind fun x7 =>
    (idx s_2 k_2).bind fun x8 =>
    (gY again0 s2_2 k2) (w64 (k_2 + 1)) (w64 (k2_2 + 1)) (s_2.set k_2.toNat x7))
    else ((gY again0 s2_2 k2) k_2 (w64 (k2_2 + 1)) s_2))
    else (tC again0 k_2 s_2)

def tB (again0 : Int → (List Int) → Option ((List Int))) (k_101 : Int) (s_101 : List Int) : Option ((List Int)) :=
    again0 (w64 (k_101 + 1)) s_101

def tA (s_100 : List Int) : Option ((List Int)) :=
    some s_100

def fJ : Nat → Int → (List Int) → Option ((List Int))
  | 0, _, _ => none
  | k0 + 1, k_0, s_0 =>
    bif decide (k_0 < (s_0.length : Int)) then ((idx s_0 k_0).bind fun x2 =>
    (idx s_0 (w64 (k_0 - 1))).bind fun x3 =>
    bif decide (x2 = x3) then ((chk (decide (0 ≤ k_0) && decide (k_0 ≤ (s_0.length : Int)))).bind fun u4 =>
    gY (fJ k0) k_0 BIG k_0 1 s_0)
    else (tB (fJ k0) k_0 s_0))
    else (tA s_0)

def slices_Compact_int (s_0 : List Int) : Option ((List Int)) :=
    bif decide ((s_0.length : Int) < 2) then (some s_0)
    else (fJ BIG 1 s_0)

def oZ (l_0 : List Int) : Option Bool :=
    (slices_Clone_int l_0).bind fun r1 =>
    (slices_Compact_int r1).bind fun r3 =>
    some (decide ((r3.length : Int) = (l_0.length : Int)))

def vI : Option Bool :=
    some true

def gR (people_0 : List Int) (ofv_0 : cC → Option (Int × Bool)) (t12_0 : List cC) (t13_0 : Int) : Nat → Int → (List Int) → Option Bool
  | 0, _, _ => none
  | k0 + 1, t14_0, done_0 =>
    bif decide (t14_0 < t13_0) then ((idx t12_0 t14_0).bind fun x2 =>
    (ofv_0 x2).bind fun r4 =>
    (bif !r4.2 then (some true) else ((dI people_0 r4.1).bind fun r5 =>
    some (!r5))).bind fun b6 =>
    (bif b6 then (some true) else ((dI done_0 r4.1).bind fun r7 =>
    some r7)).bind fun b8 =>
    bif b8 then (some false)
    else ((app 8 done_0 ([r4.1])).bind fun x9 =>
    (gR people_0 ofv_0 t12_0 t13_0 k0) (w64 (t14_0 + 1)) x9))
    else (vI)

def mE (people_0 : List Int) (l_1 : List cC) (of_2 : cC → Option (Int × Bool)) : Option Bool :=
    gR people_0 of_2 l_1 (l_1.length : Int) BIG 0 ([] : List Int)

def lR (l_0 : cC) : Option (Int × Bool) :=
    (gT l_0.Mille 0 500).bind fun r2 =>
    some (l_0.Person, r2)

def vJ : Option Bool :=
    some true

def gS (people_0 : List Int) (ofv_0 : bX → Option (Int × Bool)) (t12_0 : List bX) (t13_0 : Int) : Nat → Int → (List Int) → Option Bool
  | 0, _, _ => none
  | k0 + 1, t14_0, done_0 =>
    bif decide (t14_0 < t13_0) then ((idx t12_0 t14_0).bind fun x2 =>
    (ofv_0 x2).bind fun r4 =>
    (bif !r4.2 then (some true) else ((dI people_0 r4.1).bind fun r5 =>
    some (!r5))).bind fun b6 =>
    (bif b6 then (some true) else ((dI done_0 r4.1).bind fun r7 =>
    some r7)).bind fun b8 =>
    bif b8 then (some false)
    else ((app 8 done_0 ([r4.1])).bind fun x9 =>
    (gS people_0 ofv_0 t12_0 t13_0 k0) (w64 (t14_0 + 1)) x9))
    else (vJ)

def mF (people_0 : List Int) (l_1 : List bX) (of_2 : bX → Option (Int × Bool)) : Option Bool :=
    gS people_0 of_2 l_1 (l_1.length : Int) BIG 0 ([] : List Int)

def lS (r_0 : bX) : Option (Int × Bool) :=
    (gT r_0.Num 1 10000).bind fun r2 =>
    (bif r2 then ((gT r_0.Den 1 10000).bind fun r3 =>
    some r3) else (some false)).bind fun b4 =>
    some (r_0.Person, b4)

def pS (people_104 : List Int) (p_104 : aM) : Option Bool :=
    (mE people_104 p_104.Levies (fun y24 => lR y24)).bind fun r25 =>
    (bif r25 then ((mF people_104 p_104.Rates (fun y26 => lS y26)).bind fun r27 =>
    some r27) else (some false)).bind fun b28 =>
    some b28

def kO (people_4 : List Int) (t76_4 : List aF) (t77_4 : Int) (p_4 : aM) (players_4 : List Int) : Nat → Int → Option Bool
  | 0, _ => none
  | k4 + 1, t78_4 =>
    bif decide (t78_4 < t77_4) then ((idx t76_4 t78_4).bind fun x20 =>
    (bif decide (x20.Kind = 5) then ((dI players_4 x20.Player).bind fun r22 =>
    some (!r22)) else (some false)).bind fun b23 =>
    bif b23 then (some false)
    else ((kO people_4 t76_4 t77_4 p_4 players_4 k4) (w64 (t78_4 + 1))))
    else (pS people_4 p_4)

def pR (people_102 : List Int) (p_102 : aM) (players_102 : List Int) : Option Bool :=
    kO people_102 p_102.Slips (p_102.Slips.length : Int) p_102 players_102 BIG 0

def jN (people_2 : List Int) (t60_2 : List Int) (t61_2 : Int) (p_2 : aM) (players_2 : List Int) : Nat → Int → Option Bool
  | 0, _ => none
  | k2 + 1, t62_2 =>
    bif decide (t62_2 < t61_2) then ((idx t60_2 t62_2).bind fun x17 =>
    (bif !decide (x17 = (-1)) then ((dI players_2 x17).bind fun r18 =>
    some (!r18)) else (some false)).bind fun b19 =>
    bif b19 then (some false)
    else ((jN people_2 t60_2 t61_2 p_2 players_2 k2) (w64 (t62_2 + 1))))
    else (pR people_2 p_2 players_2)

def pQ (p_100 : aM) (players_100 : List Int) : Option Bool :=
    (slices_Sort_int players_100).bind fun r12 =>
    (pJ p_100).bind fun r13 =>
    (oZ r12).bind fun r14 =>
    (bif !r14 then (some true) else ((oZ r13).bind fun r15 =>
    some (!r15))).bind fun b16 =>
    bif b16 then (some false)
    else (jN r13 p_100.Tree.Slots (p_100.Tree.Slots.length : Int) p_100 r12 BIG 0)

def kN (t18_0 : List bF) (t19_0 : Int) (p_0 : aM) : Nat → Int → (List Int) → Option Bool
  | 0, _, _ => none
  | k0 + 1, t20_0, players_0 =>
    bif decide (t20_0 < t19_0) then ((idx t18_0 t20_0).bind fun x3 =>
    (gT x3.Player 0 999).bind fun r5 =>
    (bif !r5 then (some true) else ((gT x3.One 0 999).bind fun r6 =>
    some (!r6))).bind fun b7 =>
    (bif b7 then (some true) else ((gT x3.Two (-1) 999).bind fun r8 =>
    some (!r8))).bind fun b9 =>
    bif b9 then (some false)
    else ((app 8 players_0 ([x3.Player])).bind fun x10 =>
    (kN t18_0 t19_0 p_0 k0) (w64 (t20_0 + 1)) x10))
    else (pQ p_0 players_0)

def sW (p_0 : aM) : Option Bool :=
    bif decide (64 < (p_0.Teams.length : Int)) then (some false)
    else (kN p_0.Teams (p_0.Teams.length : Int) p_0 BIG 0 ([] : List Int))

def mH (s_0 : List aG) : Option ((List aG)) :=
    (app 32 ([] : List aG) s_0).bind fun x5 =>
    some x5

def gO (again0 : Int → (List aG) → Option ((List aG))) (a_101 : Int) (b_101 : Int) (cmp_101 : aG → aG → Option Int) (i_101 : Int) (data_101 : List aG) : Option ((List aG)) :=
    again0 (w64 (i_101 + 1)) data_101

def gP (again0 : Int → (List aG) → Option ((List aG))) (a_102 : Int) (b_102 : Int) (cmp_102 : aG → aG → Option Int) (i_102 : Int) (data_102 : List aG) : Option ((List aG)) :=
    gO again0 a_102 b_102 cmp_102 i_102 data_102

def cZ (again0 : Int → (List aG) → Option ((List aG))) (a_2 : Int) (b_2 : Int) (cmp_2 : aG → aG → Option Int) (i_2 : Int) : Nat → Int → (List aG) → Option ((List aG))
  | 0, _, _ => none
  | k2 + 1, j_2, data_2 =>
    (bif decide (a_2 < j_2) then ((idx data_2 j_2).bind fun x1 =>
    (idx data_2 (w64 (j_2 - 1))).bind fun x2 =>
    (cmp_2 x1 x2).bind fun r3 =>
    some (decide (r3 < 0))) else (some false)).bind fun b4 =>
    bif b4 then ((idx data_2 (w64 (j_2 - 1))).bind fun x5 =>
    (idx data_2 j_2).bind fun x6 =>
    (idx data_2 j_2).bind fun x7 =>
    (idx (data_2.set j_2.toNat x5) (w64 (j_2 - 1))).bind fun x8 =>
    (cZ again0 a_2 b_2 cmp_2 i_2 k2) (w64 (j_2 - 1)) ((data_2.set j_2.toNat x5).set (w64 (j_2 - 1)).toNat x6))
    else (gP again0 a_2 b_2 cmp_2 i_2 data_2)

def gN (data_100 : List aG) : Option ((List aG)) :=
    some data_100

def cN (a_0 : Int) (b_0 : Int) (cmp_0 : aG → aG → Option Int) : Nat → Int → (List aG) → Option ((List aG))
  | 0, _, _ => none
  | k0 + 1, i_0, data_0 =>
    bif decide (i_0 < b_0) then (cZ (cN a_0 b_0 cmp_0 k0) a_0 b_0 cmp_0 i_0 BIG i_0 data_0)
    else (gN data_0)

def dN (data_0 : List aG) (a_1 : Int) (b_2 : Int) (cmp_3 : aG → aG → Option Int) : Option ((List aG)) :=
    cN a_1 b_2 cmp_3 BIG (w64 (a_1 + 1)) data_0

def kK (data_100 : List aG) : Option ((List aG)) :=
    some data_100

def dY (a_0 : Int) (b_0 : Int) (n_0 : Int) : Nat → Int → (List aG) → Option ((List aG))
  | 0, _, _ => none
  | k0 + 1, i_0, data_0 =>
    bif decide (i_0 < n_0) then ((idx data_0 (w64 (b_0 + i_0))).bind fun x1 =>
    (idx data_0 (w64 (a_0 + i_0))).bind fun x2 =>
    (idx data_0 (w64 (a_0 + i_0))).bind fun x3 =>
    (idx (data_0.set (w64 (a_0 + i_0)).toNat x1) (w64 (b_0 + i_0))).bind fun x4 =>
    (dY a_0 b_0 n_0 k0) (w64 (i_0 + 1)) ((data_0.set (w64 (a_0 + i_0)).toNat x1).set (w64 (b_0 + i_0)).toNat x2))
    else (kK data_0)

def eN (data_0 : List aG) (a_1 : Int) (b_2 : Int) (n_3 : Int) (cmp_4 : aG → aG → Option Int) : Option ((List aG)) :=
    dY a_1 b_2 n_3 BIG 0 data_0

def lT (m_100 : Int) (cmp_100 : aG → aG → Option Int) (i_100 : Int) (data_100 : List aG) : Option ((List aG)) :=
    (eN data_100 (w64 (m_100 - i_100)) m_100 i_100 cmp_100).bind fun r3 =>
    some r3

def dF (m_0 : Int) (cmp_0 : aG → aG → Option Int) : Nat → Int → Int → (List aG) → Option ((List aG))
  | 0, _, _, _ => none
  | k0 + 1, i_0, j_0, data_0 =>
    bif !decide (i_0 = j_0) then (bif decide (j_0 < i_0) then ((eN data_0 (w64 (m_0 - i_0)) m_0 j_0 cmp_0).bind fun r1 =>
    (dF m_0 cmp_0 k0) (w64 (i_0 - j_0)) j_0 r1)
    else ((eN data_0 (w64 (m_0 - i_0)) (w64 ((w64 (m_0 + j_0)) - i_0)) i_0 cmp_0).bind fun r2 =>
    (dF m_0 cmp_0 k0) i_0 (w64 (j_0 - i_0)) r2))
    else (lT m_0 cmp_0 i_0 data_0)

def fW (data_0 : List aG) (a_1 : Int) (m_2 : Int) (b_3 : Int) (cmp_4 : aG → aG → Option Int) : Option ((List aG)) :=
    dF m_2 cmp_4 BIG (w64 (m_2 - a_1)) (w64 (b_3 - m_2)) data_0

def kQ (againR : (List aG) → Int → Int → Int → Option ((List aG))) (data_102 : List aG) : Option ((List aG)) :=
    some data_102

def eD (againR : (List aG) → Int → Int → Int → Option ((List aG))) (i_2 : Int) : Nat → Int → (List aG) → Option ((List aG))
  | 0, _, _ => none
  | k2 + 1, k_2, data_2 =>
    bif decide (k_2 < (w64 (i_2 - 1))) then ((idx data_2 (w64 (k_2 + 1))).bind fun x4 =>
    (idx data_2 k_2).bind fun x5 =>
    (idx data_2 k_2).bind fun x6 =>
    (idx (data_2.set k_2.toNat x4) (w64 (k_2 + 1))).bind fun x7 =>
    (eD againR i_2 k2) (w64 (k_2 + 1)) ((data_2.set k_2.toNat x4).set (w64 (k_2 + 1)).toNat x5))
    else (kQ againR data_2)

def iQ (againR : (List aG) → Int → Int → Int → Option ((List aG))) (a_100 : Int) (i_100 : Int) (data_100 : List aG) : Option ((List aG)) :=
    eD againR i_100 BIG a_100 data_100

def cW (againR : (List aG) → Int → Int → Int → Option ((List aG))) (a_0 : Int) (cmp_0 : aG → aG → Option Int) (data_0 : List aG) : Nat → Int → Int → Option ((List aG))
  | 0, _, _ => none
  | k0 + 1, i_0, j_0 =>
    bif decide (i_0 < j_0) then ((idx data_0 (w64 ((IntKind.u64.wrap (w64 (i_0 + j_0))).fdiv (2 ^ (min (1 : Int).toNat 64))))).bind fun x1 =>
    (idx data_0 a_0).bind fun x2 =>
    (cmp_0 x1 x2).bind fun r3 =>
    bif decide (r3 < 0) then ((cW againR a_0 cmp_0 data_0 k0) (w64 ((w64 ((IntKind.u64.wrap (w64 (i_0 + j_0))).fdiv (2 ^ (min (1 : Int).toNat 64)))) + 1)) j_0)
    else ((cW againR a_0 cmp_0 data_0 k0) i_0 (w64 ((IntKind.u64.wrap (w64 (i_0 + j_0))).fdiv (2 ^ (min (1 : Int).toNat 64))))))
    else (iQ againR a_0 i_0 data_0)

def kR (againR : (List aG) → Int → Int → Int → Option ((List aG))) (data_106 : List aG) : Option ((List aG)) :=
    some data_106

def eE (againR : (List aG) → Int → Int → Int → Option ((List aG))) (i_6 : Int) : Nat → Int → (List aG) → Option ((List aG))
  | 0, _, _ => none
  | k6 + 1, k_6, data_6 =>
    bif decide (i_6 < k_6) then ((idx data_6 (w64 (k_6 - 1))).bind fun x11 =>
    (idx data_6 k_6).bind fun x12 =>
    (idx data_6 k_6).bind fun x13 =>
    (idx (data_6.set k_6.toNat x11) (w64 (k_6 - 1))).bind fun x14 =>
    (eE againR i_6 k6) (w64 (k_6 - 1)) ((data_6.set k_6.toNat x11).set (w64 (k_6 - 1)).toNat x12))
    else (kR againR data_6)

def iR (againR : (List aG) → Int → Int → Int → Option ((List aG))) (m_104 : Int) (i_104 : Int) (data_104 : List aG) : Option ((List aG)) :=
    eE againR i_104 BIG m_104 data_104

def cX (againR : (List aG) → Int → Int → Int → Option ((List aG))) (m_4 : Int) (cmp_4 : aG → aG → Option Int) (data_4 : List aG) : Nat → Int → Int → Option ((List aG))
  | 0, _, _ => none
  | k4 + 1, i_4, j_4 =>
    bif decide (i_4 < j_4) then ((idx data_4 m_4).bind fun x8 =>
    (idx data_4 (w64 ((IntKind.u64.wrap (w64 (i_4 + j_4))).fdiv (2 ^ (min (1 : Int).toNat 64))))).bind fun x9 =>
    (cmp_4 x8 x9).bind fun r10 =>
    bif !(decide (r10 < 0)) then ((cX againR m_4 cmp_4 data_4 k4) (w64 ((w64 ((IntKind.u64.wrap (w64 (i_4 + j_4))).fdiv (2 ^ (min (1 : Int).toNat 64)))) + 1)) j_4)
    else ((cX againR m_4 cmp_4 data_4 k4) i_4 (w64 ((IntKind.u64.wrap (w64 (i_4 + j_4))).fdiv (2 ^ (min (1 : Int).toNat 64))))))
    else (iR againR m_4 i_4 data_4)

def dH (againR : (List aG) → Int → Int → Int → Option ((List aG))) (a_108 : Int) (m_108 : Int) (b_108 : Int) (cmp_108 : aG → aG → Option Int) (mid_108 : Int) (n_108 : Int) (start_108 : Int) (data_108 : List aG) : Option ((List aG)) :=
    (bif decide (start_108 < m_108) then (some (decide (m_108 < (w64 (n_108 - start_108))))) else (some false)).bind fun b18 =>
    bif b18 then ((fW data_108 start_108 m_108 (w64 (n_108 - start_108)) cmp_108).bind fun r19 =>
    (bif decide (a_108 < start_108) then (some (decide (start_108 < mid_108))) else (some false)).bind fun b20 =>
    bif b20 then ((againR r19 a_108 start_108 mid_108).bind fun r21 =>
    (bif decide (mid_108 < (w64 (n_108 - start_108))) then (some (decide ((w64 (n_108 - start_108)) < b_108))) else (some false)).bind fun b22 =>
    bif b22 then ((againR r21 mid_108 (w64 (n_108 - start_108)) b_108).bind fun r23 =>
    some r23)
    else (some r21))
    else ((bif decide (mid_108 < (w64 (n_108 - start_108))) then (some (decide ((w64 (n_108 - start_108)) < b_108))) else (some false)).bind fun b24 =>
    bif b24 then ((againR r19 mid_108 (w64 (n_108 - start_108)) b_108).bind fun r25 =>
    some r25)
    else (some r19)))
    else ((bif decide (a_108 < start_108) then (some (decide (start_108 < mid_108))) else (some false)).bind fun b26 =>
    bif b26 then ((againR data_108 a_108 start_108 mid_108).bind fun r27 =>
    (bif decide (mid_108 < (w64 (n_108 - start_108))) then (some (decide ((w64 (n_108 - start_108)) < b_108))) else (some false)).bind fun b28 =>
    bif b28 then ((againR r27 mid_108 (w64 (n_108 - start_108)) b_108).bind fun r29 =>
    some r29)
    else (some r27))
    else ((bif decide (mid_108 < (w64 (n_108 - start_108))) then (some (decide ((w64 (n_108 - start_108)) < b_108))) else (some false)).bind fun b30 =>
    bif b30 then ((againR data_108 mid_108 (w64 (n_108 - start_108)) b_108).bind fun r31 =>
    some r31)
    else (some data_108)))

def cI (againR : (List aG) → Int → Int → Int → Option ((List aG))) (a_8 : Int) (m_8 : Int) (b_8 : Int) (cmp_8 : aG → aG → Option Int) (mid_8 : Int) (n_8 : Int) (p_8 : Int) (data_8 : List aG) : Nat → Int → Int → Option ((List aG))
  | 0, _, _ => none
  | k8 + 1, start_8, r_8 =>
    bif decide (start_8 < r_8) then ((idx data_8 (w64 (p_8 - (w64 ((IntKind.u64.wrap (w64 (start_8 + r_8))).fdiv (2 ^ (min (1 : Int).toNat 64))))))).bind fun x15 =>
    (idx data_8 (w64 ((IntKind.u64.wrap (w64 (start_8 + r_8))).fdiv (2 ^ (min (1 : Int).toNat 64))))).bind fun x16 =>
    (cmp_8 x15 x16).bind fun r17 =>
    bif !(decide (r17 < 0)) then ((cI againR a_8 m_8 b_8 cmp_8 mid_8 n_8 p_8 data_8 k8) (w64 ((w64 ((IntKind.u64.wrap (w64 (start_8 + r_8))).fdiv (2 ^ (min (1 : Int).toNat 64)))) + 1)) r_8)
    else ((cI againR a_8 m_8 b_8 cmp_8 mid_8 n_8 p_8 data_8 k8) start_8 (w64 ((IntKind.u64.wrap (w64 (start_8 + r_8))).fdiv (2 ^ (min (1 : Int).toNat 64))))))
    else (dH againR a_8 m_8 b_8 cmp_8 mid_8 n_8 start_8 data_8)

def bI (cmp_4 : aG → aG → Option Int) : Nat → (List aG) → Int → Int → Int → Option ((List aG))
  | 0, _, _, _, _ => none
  | kr + 1, data_0, a_1, m_2, b_3 =>
    bif decide ((w64 (m_2 - a_1)) = 1) then (cW (bI cmp_4 kr) a_1 cmp_4 data_0 BIG m_2 b_3)
    else (bif decide ((w64 (b_3 - m_2)) = 1) then (cX (bI cmp_4 kr) m_2 cmp_4 data_0 BIG a_1 m_2)
    else (bif decide ((w64 ((IntKind.u64.wrap (w64 (a_1 + b_3))).fdiv (2 ^ (min (1 : Int).toNat 64)))) < m_2) then (cI (bI cmp_4 kr) a_1 m_2 b_3 cmp_4 (w64 ((IntKind.u64.wrap (w64 (a_1 + b_3))).fdiv (2 ^ (min (1 : Int).toNat 64)))) (w64 ((w64 ((IntKind.u64.wrap (w64 (a_1 + b_3))).fdiv (2 ^ (min (1 : Int).toNat 64)))) + m_2)) (w64 ((w64 ((w64 ((IntKind.u64.wrap (w64 (a_1 + b_3))).fdiv (2 ^ (min (1 : Int).toNat 64)))) + m_2)) - 1)) data_0 BIG (w64 ((w64 ((w64 ((IntKind.u64.wrap (w64 (a_1 + b_3))).fdiv (2 ^ (min (1 : Int).toNat 64)))) + m_2)) - b_3)) (w64 ((IntKind.u64.wrap (w64 (a_1 + b_3))).fdiv (2 ^ (min (1 : Int).toNat 64)))))
    else (cI (bI cmp_4 kr) a_1 m_2 b_3 cmp_4 (w64 ((IntKind.u64.wrap (w64 (a_1 + b_3))).fdiv (2 ^ (min (1 : Int).toNat 64)))) (w64 ((w64 ((IntKind.u64.wrap (w64 (a_1 + b_3))).fdiv (2 ^ (min (1 : Int).toNat 64)))) + m_2)) (w64 ((w64 ((w64 ((IntKind.u64.wrap (w64 (a_1 + b_3))).fdiv (2 ^ (min (1 : Int).toNat 64)))) + m_2)) - 1)) data_0 BIG a_1 m_2)))

def jJ (data_0 : List aG) (a_1 : Int) (m_2 : Int) (b_3 : Int) (cmp_4 : aG → aG → Option Int) : Option ((List aG)) := bI cmp_4 BIG data_0 a_1 m_2 b_3

def gV (again2 : Int → (List aG) → Option ((List aG))) (n_103 : Int) (cmp_103 : aG → aG → Option Int) (blockSize_103 : Int) (data_103 : List aG) : Option ((List aG)) :=
    again2 blockSize_103 data_103

def lW (again2 : Int → (List aG) → Option ((List aG))) (n_104 : Int) (cmp_104 : aG → aG → Option Int) (blockSize_104 : Int) (a_104 : Int) (data_104 : List aG) : Option ((List aG)) :=
    bif decide ((w64 (a_104 + blockSize_104)) < n_104) then ((jJ data_104 a_104 (w64 (a_104 + blockSize_104)) n_104 cmp_104).bind fun r4 =>
    gV again2 n_104 cmp_104 (w64 (blockSize_104 * 2)) r4)
    else (gV again2 n_104 cmp_104 (w64 (blockSize_104 * 2)) data_104)

def eM (again2 : Int → (List aG) → Option ((List aG))) (n_4 : Int) (cmp_4 : aG → aG → Option Int) (blockSize_4 : Int) : Nat → Int → Int → (List aG) → Option ((List aG))
  | 0, _, _, _ => none
  | k4 + 1, a_4, b_4, data_4 =>
    bif decide (b_4 ≤ n_4) then ((jJ data_4 a_4 (w64 (a_4 + blockSize_4)) b_4 cmp_4).bind fun r3 =>
    (eM again2 n_4 cmp_4 blockSize_4 k4) b_4 (w64 (b_4 + (w64 (2 * blockSize_4)))) r3)
    else (lW again2 n_4 cmp_4 blockSize_4 a_4 data_4)

def lV (data_102 : List aG) : Option ((List aG)) :=
    some data_102

def dG (n_2 : Int) (cmp_2 : aG → aG → Option Int) : Nat → Int → (List aG) → Option ((List aG))
  | 0, _, _ => none
  | k2 + 1, blockSize_2, data_2 =>
    bif decide (blockSize_2 < n_2) then (eM (dG n_2 cmp_2 k2) n_2 cmp_2 blockSize_2 BIG 0 (w64 (2 * blockSize_2)) data_2)
    else (lV data_2)

def lU (n_100 : Int) (cmp_100 : aG → aG → Option Int) (blockSize_100 : Int) (a_100 : Int) (data_100 : List aG) : Option ((List aG)) :=
    (dN data_100 a_100 n_100 cmp_100).bind fun r2 =>
    dG n_100 cmp_100 BIG blockSize_100 r2

def eL (n_0 : Int) (cmp_0 : aG → aG → Option Int) (blockSize_0 : Int) : Nat → Int → Int → (List aG) → Option ((List aG))
  | 0, _, _, _ => none
  | k0 + 1, a_0, b_0, data_0 =>
    bif decide (b_0 ≤ n_0) then ((dN data_0 a_0 b_0 cmp_0).bind fun r1 =>
    (eL n_0 cmp_0 blockSize_0 k0) b_0 (w64 (b_0 + blockSize_0)) r1)
    else (lU n_0 cmp_0 blockSize_0 a_0 data_0)

def jX (data_0 : List aG) (n_1 : Int) (cmp_2 : aG → aG → Option Int) : Option ((List aG)) :=
    eL n_1 cmp_2 20 BIG 0 20 data_0

def iC (x_0 : List aG) (cmp_1 : aG → aG → Option Int) : Option ((List aG)) :=
    (jX x_0 (x_0.length : Int) cmp_1).bind fun r1 =>
    some r1

def sX (a_0 : aG) (b_1 : aG) : Option Int :=
    some (w64 (a_0.Id - b_1.Id))

def pN (again0 : Int → (List aG) → Option ((List aG))) (k_102 : Int) (s_102 : List aG) : Option ((List aG)) :=
    (chk (decide (0 ≤ k_102) && decide (k_102 ≤ (s_102.length : Int)))).bind fun u9 =>
    (chk (decide (k_102.toNat ≤ s_102.length))).bind fun u10 =>
    (chk (decide (0 ≤ k_102))).bind fun u11 =>
    some (s_102.take k_102.toNat)

def fE (again0 : Int → (List aG) → Option ((List aG))) (s2_2 : Int) : Nat → Int → Int → (List aG) → Option ((List aG))
  | 0, _, _, _ => none
  | k2 + 1, k_2, k2_2, s_2 =>
    bif decide (k2_2 < ((s_2.drop s2_2.toNat).length : Int)) then ((idx (s_2.drop s2_2.toNat) k2_2).bind fun x5 =>
    (idx (s_2.drop s2_2.toNat) (w64 (k2_2 - 1))).bind fun x6 =>
    bif !decide (x5 = x6) then ((idx (s_2.drop s2_2.toNat) k2_2).bind fun x7 =>
    (idx s_2 k_2).bind fun x8 =>
    (fE again0 s2_2 k2) (w64 (k_2 + 1)) (w64 (k2_2 + 1)) (s_2.set k_2.toNat x7))
    else ((fE again0 s2_2 k2) k_2 (w64 (k2_2 + 1)) s_2))
    else (pN again0 k_2 s_2)

def pM (again0 : Int → (List aG) → Option ((List aG))) (k_101 : Int) (s_101 : List aG) : Option ((List aG)) :=
    again0 (w64 (k_101 + 1)) s_101

def pL (s_100 : List aG) : Option ((List aG)) :=
    some s_100

def dR : Nat → Int → (List aG) → Option ((List aG))
  | 0, _, _ => none
  | k0 + 1, k_0, s_0 =>
    bif decide (k_0 < (s_0.length : Int)) then ((idx s_0 k_0).bind fun x2 =>
    (idx s_0 (w64 (k_0 - 1))).bind fun x3 =>
    bif decide (x2 = x3) then ((chk (decide (0 ≤ k_0) && decide (k_0 ≤ (s_0.length : Int)))).bind fun u4 =>
    fE (dR k0) k_0 BIG k_0 1 s_0)
    else (pM (dR k0) k_0 s_0))
    else (pL s_0)

def kM (s_0 : List aG) : Option ((List aG)) :=
    bif decide ((s_0.length : Int) < 2) then (some s_0)
    else (dR BIG 1 s_0)

def aAn (o7_100 : List aG) : Option ((List aG) × Bool) :=
    (kM o7_100).bind fun r11 =>
    some (r11, true)

def lK (o7_0 : List aG) : Nat → Int → Option ((List aG) × Bool)
  | 0, _ => none
  | k0 + 1, i_0 =>
    bif decide (i_0 < (o7_0.length : Int)) then ((idx o7_0 i_0).bind fun x6 =>
    (idx o7_0 (w64 (i_0 - 1))).bind fun x7 =>
    (bif decide (x6.Id = x7.Id) then ((idx o7_0 i_0).bind fun x8 =>
    (idx o7_0 (w64 (i_0 - 1))).bind fun x9 =>
    some (!decide (x8 = x9))) else (some false)).bind fun b10 =>
    bif b10 then (some (([] : List aG), false))
    else ((lK o7_0 k0) (w64 (i_0 + 1))))
    else (aAn o7_0)

def oF (all_0 : List aG) : Option ((List aG) × Bool) :=
    (mH all_0).bind fun r1 =>
    (iC r1 (fun y3 y4 => sX y3 y4)).bind fun r5 =>
    lK r5 BIG 1

def sO (p_100 : aM) : Option Bool :=
    (oF p_100.Items).bind fun r19 =>
    (bif r19.2 then (some (decide ((p_100.Items.length : Int) ≤ 40))) else (some false)).bind fun b20 =>
    some b20

def jM (people_0 : List Int) (t12_0 : List aG) (t13_0 : Int) (p_0 : aM) : Nat → Int → Option Bool
  | 0, _ => none
  | k0 + 1, t14_0 =>
    bif decide (t14_0 < t13_0) then ((idx t12_0 t14_0).bind fun x3 =>
    bif decide (x3.Kind = 2) then ((bif !decide (x3.Kind = 1) then (some (!decide (x3.Kind = 2))) else (some false)).bind fun b5 =>
    (bif b5 then (some true) else ((gT x3.Id 0 99).bind fun r6 =>
    some (!r6))).bind fun b7 =>
    (bif b7 then (some true) else ((dI people_0 x3.Person).bind fun r8 =>
    some (!r8))).bind fun b9 =>
    (bif b9 then (some true) else ((gT x3.Amount 0 30).bind fun r10 =>
    some (!r10))).bind fun b11 =>
    bif b11 then (some false)
    else ((jM people_0 t12_0 t13_0 p_0 k0) (w64 (t14_0 + 1))))
    else ((bif !decide (x3.Kind = 1) then (some (!decide (x3.Kind = 2))) else (some false)).bind fun b12 =>
    (bif b12 then (some true) else ((gT x3.Id 0 99).bind fun r13 =>
    some (!r13))).bind fun b14 =>
    (bif b14 then (some true) else ((dI people_0 x3.Person).bind fun r15 =>
    some (!r15))).bind fun b16 =>
    (bif b16 then (some true) else ((gT x3.Amount 0 10000000).bind fun r17 =>
    some (!r17))).bind fun b18 =>
    bif b18 then (some false)
    else ((jM people_0 t12_0 t13_0 p_0 k0) (w64 (t14_0 + 1)))))
    else (sO p_0)

def sV (p_0 : aM) : Option Bool :=
    (pJ p_0).bind fun r2 =>
    jM r2 p_0.Items (p_0.Items.length : Int) p_0 BIG 0

def uO (a0 : aQ) (a1 : List aF) : Option Int := fS a0 a1

def oE (p_0 : aM) : Option Int :=
    (uO p_0.Tree p_0.Slips).bind fun r2 =>
    bif !decide (r2 = 0) then (some r2)
    else ((uC p_0).bind fun r3 =>
    bif !r3 then (some 100)
    else ((sW p_0).bind fun r4 =>
    bif !r4 then (some 101)
    else ((sV p_0).bind fun r5 =>
    bif !r5 then (some 102)
    else (some 0))))

def aGv (n_102 : Int) : Option (Int × Int) :=
    some (n_102, 0)

def nB (t44_2 : List Int) (t45_2 : Int) (p_2 : aM) : Nat → Int → Int → Option (Int × Int)
  | 0, _, _ => none
  | k2 + 1, n_2, t46_2 =>
    bif decide (t46_2 < t45_2) then ((idx t44_2 t46_2).bind fun x6 =>
    bif decide (x6 = (-1)) then ((idx p_2.Prizes 0).bind fun x7 =>
    (nB t44_2 t45_2 p_2 k2) (w64 (n_2 - x7)) (w64 (t46_2 + 1)))
    else ((nB t44_2 t45_2 p_2 k2) n_2 (w64 (t46_2 + 1))))
    else (aGv n_2)

def wM (n_100 : Int) (p_100 : aM) : Option (Int × Int) :=
    nB p_100.Tree.Slots (p_100.Tree.Slots.length : Int) p_100 BIG n_100 0

def nA (t23_0 : Int) (p_0 : aM) : Nat → Int → Int → Option (Int × Int)
  | 0, _, _ => none
  | k0 + 1, n_0, t24_0 =>
    bif decide (t24_0 < t23_0) then ((idx p_0.Prizes t24_0).bind fun x4 =>
    (chk (decide (0 ≤ (w64 ((w64 (p_0.Tree.Rounds - 1)) - t24_0))))).bind fun u5 =>
    (nA t23_0 p_0 k0) (w64 (n_0 + (w64 (x4 * 2 ^ (min (w64 ((w64 (p_0.Tree.Rounds - 1)) - t24_0)).toNat 64))))) (w64 (t24_0 + 1)))
    else (wM n_0 p_0)

def yD (p_0 : aM) : Option (Int × Int) :=
    (oE p_0).bind fun r2 =>
    bif !decide (r2 = 0) then (some (0, r2))
    else ((idx p_0.Prizes p_0.Tree.Rounds).bind fun x3 =>
    nA p_0.Tree.Rounds p_0 BIG x3 0)

def tD : Option Int :=
    some (-1)

def fM (s_0 : List bF) (f_0 : bF → Option Bool) (t7_0 : Int) : Nat → Int → Option Int
  | 0, _ => none
  | k0 + 1, t8_0 =>
    bif decide (t8_0 < t7_0) then ((idx s_0 t8_0).bind fun x1 =>
    (f_0 x1).bind fun r2 =>
    bif r2 then (some t8_0)
    else ((fM s_0 f_0 t7_0 k0) (w64 (t8_0 + 1))))
    else (tD)

def mJ (s_0 : List bF) (f_1 : bF → Option Bool) : Option Int :=
    fM s_0 f_1 (s_0.length : Int) BIG 0

def uB (t_0 : bF) (c_1 : Int) : Option Bool :=
    (bif decide (t_0.One = c_1) then (some true) else ((bif decide (t_0.Two = c_1) then (some (!decide (t_0.Two = (-1)))) else (some false)).bind fun b2 =>
    some b2)).bind fun b3 =>
    some b3

def yS (againQ : ((Option bG) × (List Int) × Int) → Prop) (d_100 : Option bG) (slots_100 : List Int) : Prop :=
    againQ (d_100, slots_100, 0)

def nQ (againQ : ((Option bG) × (List Int) × Int) → Prop) (t20_0 : List Int) (t21_0 : Int) : Nat → (Option bG) → Int → (List Int) → Prop
  | 0, _, _, _ => False
  | k0 + 1, d_0, t22_0, slots_0 =>
    bif decide (t22_0 < t21_0) then (nb (idx t20_0 t22_0) fun x5 =>
    nb (gL x5 0 999) fun r6 =>
    bif !r6 then (againQ ((none : Option bG), ([] : List Int), 1))
    else (nb (d_0) fun x8 =>
    nb (iG x8.players x5) fun r9 =>
    nb (app 8 slots_0 ([r9])) fun x10 =>
    (nQ againQ t20_0 t21_0 k0) d_0 (w64 (t22_0 + 1)) x10))
    else (yS againQ d_0 slots_0)

def rY (t_0 : aQ) (l_1 : List aF) (players_2 : List Int) (Q : ((Option bG) × (List Int) × Int) → Prop) : Prop :=
    oI t_0 l_1 fun r3 =>
    bif !decide (r3.2 = 0) then (Q ((none : Option bG), ([] : List Int), r3.2))
    else (nQ Q players_2 (players_2.length : Int) BIG r3.1 0 ([] : List Int))

def uI (d_100 : bG) : Option Int :=
    some d_100.Tree.Rounds

def jP (d_0 : bG) (slot_0 : Int) (t12_0 : Int) : Nat → Int → Option Int
  | 0, _ => none
  | k0 + 1, t13_0 =>
    bif decide (t13_0 < t12_0) then ((pY t13_0 slot_0).bind fun r1 =>
    (bif !(eB r1 d_0.won) then (some true) else ((idx d_0.players slot_0).bind fun x2 =>
    some (!decide ((dB r1 0 d_0.won) = x2)))).bind fun b3 =>
    bif b3 then (some t13_0)
    else ((jP d_0 slot_0 t12_0 k0) (w64 (t13_0 + 1))))
    else (uI d_0)

def qO (d_0 : bG) (slot_1 : Int) : Option Int :=
    jP d_0 slot_1 d_0.Tree.Rounds BIG 0

def uH (d_100 : bG) : Option Int :=
    some d_100.Tree.Rounds

def jO (d_0 : bG) (slot_0 : Int) (t12_0 : Int) : Nat → Int → Option Int
  | 0, _ => none
  | k0 + 1, t13_0 =>
    bif decide (t13_0 < t12_0) then ((pY t13_0 slot_0).bind fun r1 =>
    (bif eB r1 d_0.won then ((idx d_0.players slot_0).bind fun x2 =>
    some (!decide ((dB r1 0 d_0.won) = x2))) else (some false)).bind fun b3 =>
    bif b3 then (some t13_0)
    else ((jO d_0 slot_0 t12_0 k0) (w64 (t13_0 + 1))))
    else (uH d_0)

def qN (d_0 : bG) (slot_1 : Int) : Option Int :=
    jO d_0 slot_1 d_0.Tree.Rounds BIG 0

def rE (t_0 : aQ) (l_1 : List aF) (player_2 : Int) (Q : (cP × Int) → Prop) : Prop :=
    rY t_0 l_1 ([player_2]) fun r3 =>
    bif !decide (r3.2.2 = 0) then (Q ((cP.mk 0 0), r3.2.2))
    else (nb (idx r3.2.1 0) fun x4 =>
    bif decide (x4 < 0) then (Q ((cP.mk 0 0), 3))
    else (nb (r3.1) fun x5 =>
    nb (idx r3.2.1 0) fun x6 =>
    nb (qO x5 x6) fun r7 =>
    nb (idx r3.2.1 0) fun x8 =>
    nb (qN x5 x8) fun r9 =>
    Q ((cP.mk r7 r9), 0)))

def rD (prize_0 : Int) (c_1 : bF) (c_2 : Int) : Option Int :=
    bif decide (c_1.Two = (-1)) then (some prize_0)
    else (bif decide (c_1.One = c_2) then (some (w64 ((w64 (prize_0 + 1)).tdiv 2)))
    else (some (w64 (prize_0.tdiv 2))))

def zW : Option Int :=
    some (-1)

def oO (player_0 : Int) (d_0 : aS) : Nat → Int → Option Int
  | 0, _ => none
  | k0 + 1, s_0 =>
    bif decide (s_0 < (d_0.Slots.length : Int)) then ((idx d_0.Slots s_0).bind fun x2 =>
    bif decide (x2 = player_0) then (some s_0)
    else ((oO player_0 d_0 k0) (w64 (s_0 + 1))))
    else (zW)

def xS (d_0 : aS) (player_1 : Int) : Option Int :=
    oO player_1 d_0 BIG 0

def uK (n_100 : Int) : Option Int :=
    some n_100

def nH (slot_0 : Int) (t_0 : aQ) (d_0 : aS) : Nat → Int → Option Int
  | 0, _ => none
  | k0 + 1, n_0 =>
    (bif decide (n_0 < t_0.Rounds) then ((idx d_0.Must n_0).bind fun x3 =>
    (chk (decide (0 ≤ (IntKind.u64.wrap (w64 (n_0 + 1)))))).bind fun u4 =>
    (idx x3 (slot_0.fdiv (2 ^ (min (IntKind.u64.wrap (w64 (n_0 + 1))).toNat 64)))).bind fun x5 =>
    (idx d_0.Slots slot_0).bind fun x6 =>
    some (decide (x5 = x6))) else (some false)).bind fun b7 =>
    bif b7 then ((nH slot_0 t_0 d_0 k0) (w64 (n_0 + 1)))
    else (uK n_0)

def wT (t_0 : aQ) (d_1 : aS) (slot_2 : Int) : Option Int :=
    nH slot_2 t_0 d_1 BIG 0

def vA (n_100 : Int) : Option Int :=
    some n_100

def oM (slot_0 : Int) (t_0 : aQ) (d_0 : aS) : Nat → Int → Option Int
  | 0, _ => none
  | k0 + 1, n_0 =>
    (bif decide (n_0 < t_0.Rounds) then ((idx d_0.Must n_0).bind fun x3 =>
    (chk (decide (0 ≤ (IntKind.u64.wrap (w64 (n_0 + 1)))))).bind fun u4 =>
    (idx x3 (slot_0.fdiv (2 ^ (min (IntKind.u64.wrap (w64 (n_0 + 1))).toNat 64)))).bind fun x5 =>
    (bif decide (x5 = (-2)) then (some true) else ((idx d_0.Must n_0).bind fun x6 =>
    (chk (decide (0 ≤ (IntKind.u64.wrap (w64 (n_0 + 1)))))).bind fun u7 =>
    (idx x6 (slot_0.fdiv (2 ^ (min (IntKind.u64.wrap (w64 (n_0 + 1))).toNat 64)))).bind fun x8 =>
    (idx d_0.Slots slot_0).bind fun x9 =>
    some (decide (x8 = x9)))).bind fun b10 =>
    some b10) else (some false)).bind fun b11 =>
    bif b11 then ((oM slot_0 t_0 d_0 k0) (w64 (n_0 + 1)))
    else (vA n_0)

def xR (t_0 : aQ) (d_1 : aS) (slot_2 : Int) : Option Int :=
    oM slot_2 t_0 d_1 BIG 0

def kC (t_0 : aQ) (l_1 : List aF) (player_2 : Int) : Option (cP × Int) :=
    (fS t_0 l_1).bind fun r3 =>
    bif !decide (r3 = 0) then (some ((cP.mk 0 0), r3))
    else ((eX player_2 0 999).bind fun r4 =>
    bif !r4 then (some ((cP.mk 0 0), 1))
    else ((fQ t_0 l_1).bind fun r5 =>
    (xS r5.1 player_2).bind fun r7 =>
    bif decide (r7 < 0) then (some ((cP.mk 0 0), 3))
    else ((wT t_0 r5.1 r7).bind fun r8 =>
    (xR t_0 r5.1 r7).bind fun r9 =>
    some ((cP.mk r8 r9), 0))))

def sN (a0 : aQ) (a1 : List aF) (a2 : Int) : Option (cP × Int) := kC a0 a1 a2

def uE (p_0 : aM) (person_1 : Int) : Option (cP × Bool) :=
    (mJ p_0.Teams (fun y4 => uB y4 person_1)).bind fun r5 =>
    bif decide (r5 < 0) then (some ((cP.mk 0 0), false))
    else ((idx p_0.Teams r5).bind fun x6 =>
    (sN p_0.Tree p_0.Slips x6.Player).bind fun r8 =>
    bif !decide (r8.2 = 0) then (some ((cP.mk 0 0), true))
    else ((idx p_0.Prizes r8.1.Low).bind fun x10 =>
    (rD x10 x6 person_1).bind fun r11 =>
    (idx p_0.Prizes r8.1.High).bind fun x12 =>
    (rD x12 x6 person_1).bind fun r13 =>
    some ((cP.mk r11 r13), true)))

def wF (p_0 : aM) (person_1 : Int) : Option (cP × Int) :=
    (oE p_0).bind fun r3 =>
    bif !decide (r3 = 0) then (some ((cP.mk 0 0), r3))
    else ((uE p_0 person_1).bind fun r4 =>
    bif !r4.2 then (some ((cP.mk 0 0), 1))
    else (some (r4.1, 0)))

def wO (paid_105 : Int) (num_105 : Int) (den_105 : Int) (o4_105 : bE) (b_105 : bE) : Option bE :=
    (chk (!decide (den_105 = 0))).bind fun u13 =>
    (chk (!decide (num_105 = 0))).bind fun u14 =>
    some (bE.mk b_105.Person b_105.Gross b_105.Tax b_105.Daily b_105.Fines b_105.Debt (w64 ((w64 (paid_105 * num_105)).tdiv den_105)) (w64 ((w64 ((w64 ((w64 ((w64 ((w64 (paid_105 * num_105)).tdiv den_105)) * den_105)) + num_105)) - 1)).tdiv num_105)) (w64 (paid_105 - (w64 ((w64 ((w64 ((w64 ((w64 ((w64 (paid_105 * num_105)).tdiv den_105)) * den_105)) + num_105)) - 1)).tdiv num_105)))))

def nC (person_5 : Int) (paid_5 : Int) (t104_5 : List bX) (t105_5 : Int) (o4_5 : bE) (b_5 : bE) : Nat → Int → Int → Int → Option bE
  | 0, _, _, _ => none
  | k5 + 1, num_5, den_5, t106_5 =>
    bif decide (t106_5 < t105_5) then ((idx t104_5 t106_5).bind fun x11 =>
    bif decide (x11.Person = person_5) then ((nC person_5 paid_5 t104_5 t105_5 o4_5 b_5 k5) x11.Num x11.Den (w64 (t106_5 + 1)))
    else ((nC person_5 paid_5 t104_5 t105_5 o4_5 b_5 k5) num_5 den_5 (w64 (t106_5 + 1))))
    else (wO paid_5 num_5 den_5 o4_5 b_5)

def uA (person_102 : Int) (p_102 : aM) (o4_102 : bE) (b_102 : bE) : Option bE :=
    nC person_102 (max 0 (w64 ((w64 ((w64 (b_102.Gross + b_102.Daily)) - b_102.Tax)) - b_102.Fines))) p_102.Rates (p_102.Rates.length : Int) o4_102 (bE.mk b_102.Person b_102.Gross b_102.Tax b_102.Daily b_102.Fines (max 0 (w64 (-(w64 ((w64 ((w64 (b_102.Gross + b_102.Daily)) - b_102.Tax)) - b_102.Fines))))) b_102.Units b_102.Used b_102.Rest) BIG 1 1 0

def lJ (person_2 : Int) (t55_2 : List aG) (t56_2 : Int) (p_2 : aM) (o4_2 : bE) : Nat → Int → bE → Option bE
  | 0, _, _ => none
  | k2 + 1, t57_2, b_2 =>
    bif decide (t57_2 < t56_2) then ((idx t55_2 t57_2).bind fun x9 =>
    bif !decide (x9.Person = person_2) then ((lJ person_2 t55_2 t56_2 p_2 o4_2 k2) (w64 (t57_2 + 1)) b_2)
    else (bif decide (x9.Kind = 2) then ((lJ person_2 t55_2 t56_2 p_2 o4_2 k2) (w64 (t57_2 + 1)) (bE.mk b_2.Person b_2.Gross b_2.Tax (w64 (b_2.Daily + (w64 (x9.Amount * p_2.Daily)))) b_2.Fines b_2.Debt b_2.Units b_2.Used b_2.Rest))
    else ((lJ person_2 t55_2 t56_2 p_2 o4_2 k2) (w64 (t57_2 + 1)) (bE.mk b_2.Person b_2.Gross b_2.Tax b_2.Daily (w64 (b_2.Fines + x9.Amount)) b_2.Debt b_2.Units b_2.Used b_2.Rest))))
    else (uA person_2 p_2 o4_2 b_2)

def wN (person_100 : Int) (p_100 : aM) (o4_100 : bE) (b_100 : bE) : Option bE :=
    (oF p_100.Items).bind fun r8 =>
    lJ person_100 r8.1 (r8.1.length : Int) p_100 o4_100 BIG 0 b_100

def lI (person_0 : Int) (t31_0 : List cC) (t32_0 : Int) (p_0 : aM) (o4_0 : bE) : Nat → Int → bE → Option bE
  | 0, _, _ => none
  | k0 + 1, t33_0, b_0 =>
    bif decide (t33_0 < t32_0) then ((idx t31_0 t33_0).bind fun x6 =>
    bif decide (x6.Person = person_0) then ((lI person_0 t31_0 t32_0 p_0 o4_0 k0) (w64 (t33_0 + 1)) (bE.mk b_0.Person b_0.Gross (w64 ((w64 (b_0.Gross * x6.Mille)).tdiv 1000)) b_0.Daily b_0.Fines b_0.Debt b_0.Units b_0.Used b_0.Rest))
    else ((lI person_0 t31_0 t32_0 p_0 o4_0 k0) (w64 (t33_0 + 1)) b_0))
    else (wN person_0 p_0 o4_0 b_0)

def vT (p_0 : aM) (person_1 : Int) : Option bE :=
    (uE p_0 person_1).bind fun r3 =>
    lI person_1 p_0.Levies (p_0.Levies.length : Int) p_0 (bE.mk 0 0 0 0 0 0 0 0 0) BIG 0 (bE.mk person_1 r3.1.Low 0 0 0 0 0 0 0)

def yC (p_0 : aM) (person_1 : Int) : Option (bE × Int) :=
    (wF p_0 person_1).bind fun r3 =>
    bif !decide (r3.2 = 0) then (some ((bE.mk 0 0 0 0 0 0 0 0 0), r3.2))
    else ((vT p_0 person_1).bind fun r5 =>
    some (r5, 0))

def aEt (out_100 : List bE) : Option ((List bE) × Int) :=
    some (out_100, 0)

def nV (t14_0 : List Int) (t15_0 : Int) (p_0 : aM) : Nat → Int → (List bE) → Option ((List bE) × Int)
  | 0, _, _ => none
  | k0 + 1, t16_0, out_0 =>
    bif decide (t16_0 < t15_0) then ((idx t14_0 t16_0).bind fun x5 =>
    (vT p_0 x5).bind fun r6 =>
    (app 72 out_0 ([r6])).bind fun x7 =>
    (nV t14_0 t15_0 p_0 k0) (w64 (t16_0 + 1)) x7)
    else (aEt out_0)

def wE (p_0 : aM) : Option ((List bE) × Int) :=
    (oE p_0).bind fun r2 =>
    bif !decide (r2 = 0) then (some (([] : List bE), r2))
    else ((pJ p_0).bind fun r4 =>
    nV r4 (r4.length : Int) p_0 BIG 0 ([] : List bE))

def aEu (o2_100 : bE) (sum_100 : bE) : Option (bE × Int) :=
    some (sum_100, 0)

def nW (t19_0 : List bE) (t20_0 : Int) (o2_0 : bE) : Nat → Int → bE → Option (bE × Int)
  | 0, _, _ => none
  | k0 + 1, t21_0, sum_0 =>
    bif decide (t21_0 < t20_0) then ((idx t19_0 t21_0).bind fun x5 =>
    (nW t19_0 t20_0 o2_0 k0) (w64 (t21_0 + 1)) (bE.mk sum_0.Person (w64 (sum_0.Gross + x5.Gross)) (w64 (sum_0.Tax + x5.Tax)) (w64 (sum_0.Daily + x5.Daily)) (w64 (sum_0.Fines + x5.Fines)) (w64 (sum_0.Debt + x5.Debt)) (w64 (sum_0.Units + x5.Units)) (w64 (sum_0.Used + x5.Used)) (w64 (sum_0.Rest + x5.Rest))))
    else (aEu o2_0 sum_0)

def wH (p_0 : aM) : Option (bE × Int) :=
    (wE p_0).bind fun r3 =>
    bif !decide (r3.2 = 0) then (some ((bE.mk 0 0 0 0 0 0 0 0 0), r3.2))
    else (nW r3.1 (r3.1.length : Int) (bE.mk 0 0 0 0 0 0 0 0 0) BIG 0 (bE.mk (-1) 0 0 0 0 0 0 0 0))

def nS : Option Bool :=
    (oJ).bind fun r1 =>
    (yD r1).bind fun r3 =>
    (yC r1 22).bind fun r4 =>
    (wH r1).bind fun r6 =>
    (bif decide (r3.2 = 0) then (some (decide (r4.2 = 0))) else (some false)).bind fun b8 =>
    (bif b8 then (some (decide (r6.2 = 0))) else (some false)).bind fun b9 =>
    (bif b9 then (some (decide (r3.1 = 1501))) else (some false)).bind fun b10 =>
    (bif b10 then (some (decide (r4.1 = (bE.mk 22 50 0 0 0 0 16 48 2)))) else (some false)).bind fun b11 =>
    (bif b11 then (some (decide (r6.1.Debt = 60))) else (some false)).bind fun b12 =>
    some b12

def kS (p_0 : aM) : Option aM :=
    (app 8 ([] : List Int) p_0.Tree.Slots).bind fun x4 =>
    (app 40 ([] : List aF) p_0.Slips).bind fun x5 =>
    (app 8 ([] : List Int) p_0.Prizes).bind fun x6 =>
    (app 24 ([] : List bF) p_0.Teams).bind fun x7 =>
    (app 16 ([] : List cC) p_0.Levies).bind fun x8 =>
    (app 24 ([] : List bX) p_0.Rates).bind fun x9 =>
    (app 32 ([] : List aG) p_0.Items).bind fun x10 =>
    some (aM.mk (aQ.mk p_0.Tree.Rounds x4) x5 x6 p_0.Daily x7 x8 x9 x10)

def nK (again0 : Int → (List aG) → Option ((List aG))) (l_101 : List aG) (id_101 : Int) (out_101 : List aG) : Option ((List aG)) :=
    again0 (w64 (id_101 + 1)) out_101

def kX (again0 : Int → (List aG) → Option ((List aG))) (l_102 : List aG) (id_102 : Int) (out_102 : List aG) : Option ((List aG)) :=
    nK again0 l_102 id_102 out_102

def iP (again0 : Int → (List aG) → Option ((List aG))) (l_2 : List aG) (id_2 : Int) : Nat → Int → (List aG) → Option ((List aG))
  | 0, _, _ => none
  | k2 + 1, i_2, out_2 =>
    bif decide (i_2 < (l_2.length : Int)) then ((idx l_2 i_2).bind fun x2 =>
    bif decide (x2.Id = id_2) then ((idx l_2 i_2).bind fun x3 =>
    (app 32 out_2 ([x3])).bind fun x4 =>
    kX again0 l_2 id_2 x4)
    else ((iP again0 l_2 id_2 k2) (w64 (i_2 + 1)) out_2))
    else (kX again0 l_2 id_2 out_2)

def yR (out_100 : List aG) : Option ((List aG)) :=
    some out_100

def iO (l_0 : List aG) : Nat → Int → (List aG) → Option ((List aG))
  | 0, _, _ => none
  | k0 + 1, id_0, out_0 =>
    bif decide (id_0 ≤ 99) then (iP (iO l_0 k0) l_0 id_0 BIG 0 out_0)
    else (yR out_0)

def qS (l_0 : List aG) : Option ((List aG)) :=
    iO l_0 BIG 0 ([] : List aG)

def vX : Option Bool :=
    some true

def gZ (a_0 : List aG) (b_0 : List aG) : Nat → Int → Option Bool
  | 0, _ => none
  | k0 + 1, i_0 =>
    bif decide (i_0 < (a_0.length : Int)) then ((idx a_0 i_0).bind fun x1 =>
    (idx b_0 i_0).bind fun x2 =>
    bif !decide (x1 = x2) then (some false)
    else ((gZ a_0 b_0 k0) (w64 (i_0 + 1))))
    else (vX)

def mL (a_0 : List aG) (b_1 : List aG) : Option Bool :=
    bif !decide ((a_0.length : Int) = (b_1.length : Int)) then (some false)
    else (gZ a_0 b_1 BIG 0)

def yP : Option Bool :=
    some true

def jQ (a_10 : aM) (b_10 : aM) : Nat → Int → Option Bool
  | 0, _ => none
  | k10 + 1, i_10 =>
    bif decide (i_10 < (a_10.Rates.length : Int)) then ((idx a_10.Rates i_10).bind fun x22 =>
    (idx b_10.Rates i_10).bind fun x23 =>
    bif !decide (x22 = x23) then (some false)
    else ((jQ a_10 b_10 k10) (w64 (i_10 + 1))))
    else (yP)

def rK (a_108 : aM) (b_108 : aM) : Option Bool :=
    jQ a_108 b_108 BIG 0

def kB (a_8 : aM) (b_8 : aM) : Nat → Int → Option Bool
  | 0, _ => none
  | k8 + 1, i_8 =>
    bif decide (i_8 < (a_8.Levies.length : Int)) then ((idx a_8.Levies i_8).bind fun x20 =>
    (idx b_8.Levies i_8).bind fun x21 =>
    bif !decide (x20 = x21) then (some false)
    else ((kB a_8 b_8 k8) (w64 (i_8 + 1))))
    else (rK a_8 b_8)

def rJ (a_106 : aM) (b_106 : aM) : Option Bool :=
    kB a_106 b_106 BIG 0

def kA (a_6 : aM) (b_6 : aM) : Nat → Int → Option Bool
  | 0, _ => none
  | k6 + 1, i_6 =>
    bif decide (i_6 < (a_6.Teams.length : Int)) then ((idx a_6.Teams i_6).bind fun x18 =>
    (idx b_6.Teams i_6).bind fun x19 =>
    bif !decide (x18 = x19) then (some false)
    else ((kA a_6 b_6 k6) (w64 (i_6 + 1))))
    else (rJ a_6 b_6)

def rI (a_104 : aM) (b_104 : aM) : Option Bool :=
    kA a_104 b_104 BIG 0

def jZ (a_4 : aM) (b_4 : aM) : Nat → Int → Option Bool
  | 0, _ => none
  | k4 + 1, i_4 =>
    bif decide (i_4 < (a_4.Prizes.length : Int)) then ((idx a_4.Prizes i_4).bind fun x16 =>
    (idx b_4.Prizes i_4).bind fun x17 =>
    bif !decide (x16 = x17) then (some false)
    else ((jZ a_4 b_4 k4) (w64 (i_4 + 1))))
    else (rI a_4 b_4)

def rH (a_102 : aM) (b_102 : aM) : Option Bool :=
    jZ a_102 b_102 BIG 0

def jY (a_2 : aM) (b_2 : aM) : Nat → Int → Option Bool
  | 0, _ => none
  | k2 + 1, i_2 =>
    bif decide (i_2 < (a_2.Slips.length : Int)) then ((idx a_2.Slips i_2).bind fun x14 =>
    (idx b_2.Slips i_2).bind fun x15 =>
    bif !decide (x14 = x15) then (some false)
    else ((jY a_2 b_2 k2) (w64 (i_2 + 1))))
    else (rH a_2 b_2)

def rG (a_100 : aM) (b_100 : aM) : Option Bool :=
    jY a_100 b_100 BIG 0

def iZ (a_0 : aM) (b_0 : aM) : Nat → Int → Option Bool
  | 0, _ => none
  | k0 + 1, i_0 =>
    bif decide (i_0 < (a_0.Tree.Slots.length : Int)) then ((idx a_0.Tree.Slots i_0).bind fun x12 =>
    (idx b_0.Tree.Slots i_0).bind fun x13 =>
    bif !decide (x12 = x13) then (some false)
    else ((iZ a_0 b_0 k0) (w64 (i_0 + 1))))
    else (rG a_0 b_0)

def rF (a_0 : aM) (b_1 : aM) : Option Bool :=
    (bif !decide (a_0.Tree.Rounds = b_1.Tree.Rounds) then (some true) else (some (!decide ((a_0.Tree.Slots.length : Int) = (b_1.Tree.Slots.length : Int))))).bind fun b3 =>
    (bif b3 then (some true) else (some (!decide ((a_0.Slips.length : Int) = (b_1.Slips.length : Int))))).bind fun b4 =>
    (bif b4 then (some true) else (some (!decide ((a_0.Prizes.length : Int) = (b_1.Prizes.length : Int))))).bind fun b5 =>
    (bif b5 then (some true) else (some (!decide (a_0.Daily = b_1.Daily)))).bind fun b6 =>
    (bif b6 then (some true) else (some (!decide ((a_0.Teams.length : Int) = (b_1.Teams.length : Int))))).bind fun b7 =>
    (bif b7 then (some true) else (some (!decide ((a_0.Levies.length : Int) = (b_1.Levies.length : Int))))).bind fun b8 =>
    (bif b8 then (some true) else (some (!decide ((a_0.Rates.length : Int) = (b_1.Rates.length : Int))))).bind fun b9 =>
    (bif b9 then (some true) else ((mL a_0.Items b_1.Items).bind fun r10 =>
    some (!r10))).bind fun b11 =>
    bif b11 then (some false)
    else (iZ a_0 b_1 BIG 0)

def mR (n_1 : Int) : Option ((List aF)) :=
    bif decide (n_1 < 0) then (none)
    else (bif decide (0 < (w64 (n_1 - (w64 (0 - 0))))) then ((chk (decide (0 ≤ 0))).bind fun u2 =>
    (chk (decide (0 < (w64 (n_1 - (w64 (0 - 0))))) && decide ((w64 (n_1 - (w64 (0 - 0)))) * ((40 : Nat) : Int) ≤ 140737488355328))).bind fun u3 =>
    (chk (decide (0 ≤ 0))).bind fun u5 =>
    some ([] : List aF))
    else (some ([] : List aF)))

def uR (o24_102 : List aF) : Option ((List aF)) :=
    some o24_102

def gC (t25_2 : List (List aF)) (t26_2 : Int) : Nat → Int → (List aF) → Option ((List aF))
  | 0, _, _ => none
  | k2 + 1, t27_2, o24_2 =>
    bif decide (t27_2 < t26_2) then ((idx t25_2 t27_2).bind fun x4 =>
    (app 40 o24_2 x4).bind fun x5 =>
    (gC t25_2 t26_2 k2) (w64 (t27_2 + 1)) x5)
    else (uR o24_2)

def qE (slices_100 : List (List aF)) (size_100 : Int) : Option ((List aF)) :=
    (mR size_100).bind fun r2 =>
    gC slices_100 (slices_100.length : Int) BIG 0 r2

def gB (slices_0 : List (List aF)) (t9_0 : List (List aF)) (t10_0 : Int) : Nat → Int → Int → Option ((List aF))
  | 0, _, _ => none
  | k0 + 1, size_0, t11_0 =>
    bif decide (t11_0 < t10_0) then ((idx t9_0 t11_0).bind fun x1 =>
    bif decide ((w64 (size_0 + (x1.length : Int))) < 0) then (none)
    else ((gB slices_0 t9_0 t10_0 k0) (w64 (size_0 + (x1.length : Int))) (w64 (t11_0 + 1))))
    else (qE slices_0 size_0)

def lF (slices_0 : List (List aF)) : Option ((List aF)) :=
    gB slices_0 slices_0 (slices_0.length : Int) BIG 0 0

def mQ (n_1 : Int) : Option ((List aG)) :=
    bif decide (n_1 < 0) then (none)
    else (bif decide (0 < (w64 (n_1 - (w64 (0 - 0))))) then ((chk (decide (0 ≤ 0))).bind fun u2 =>
    (chk (decide (0 < (w64 (n_1 - (w64 (0 - 0))))) && decide ((w64 (n_1 - (w64 (0 - 0)))) * ((32 : Nat) : Int) ≤ 140737488355328))).bind fun u3 =>
    (chk (decide (0 ≤ 0))).bind fun u5 =>
    some ([] : List aG))
    else (some ([] : List aG)))

def uQ (o24_102 : List aG) : Option ((List aG)) :=
    some o24_102

def gA (t25_2 : List (List aG)) (t26_2 : Int) : Nat → Int → (List aG) → Option ((List aG))
  | 0, _, _ => none
  | k2 + 1, t27_2, o24_2 =>
    bif decide (t27_2 < t26_2) then ((idx t25_2 t27_2).bind fun x4 =>
    (app 32 o24_2 x4).bind fun x5 =>
    (gA t25_2 t26_2 k2) (w64 (t27_2 + 1)) x5)
    else (uQ o24_2)

def qD (slices_100 : List (List aG)) (size_100 : Int) : Option ((List aG)) :=
    (mQ size_100).bind fun r2 =>
    gA slices_100 (slices_100.length : Int) BIG 0 r2

def fZ (slices_0 : List (List aG)) (t9_0 : List (List aG)) (t10_0 : Int) : Nat → Int → Int → Option ((List aG))
  | 0, _, _ => none
  | k0 + 1, size_0, t11_0 =>
    bif decide (t11_0 < t10_0) then ((idx t9_0 t11_0).bind fun x1 =>
    bif decide ((w64 (size_0 + (x1.length : Int))) < 0) then (none)
    else ((fZ slices_0 t9_0 t10_0 k0) (w64 (size_0 + (x1.length : Int))) (w64 (t11_0 + 1))))
    else (qD slices_0 size_0)

def lE (slices_0 : List (List aG)) : Option ((List aG)) :=
    fZ slices_0 slices_0 (slices_0.length : Int) BIG 0 0

def pD (s_0 : List bF) : Option ((List bF)) :=
    (app 24 ([] : List bF) s_0).bind fun x5 =>
    some x5

def pB (s_0 : List cC) : Option ((List cC)) :=
    (app 16 ([] : List cC) s_0).bind fun x5 =>
    some x5

def pC (s_0 : List bX) : Option ((List bX)) :=
    (app 24 ([] : List bX) s_0).bind fun x5 =>
    some x5

def wG (p_0 : aM) (slips_1 : List aF) (items_2 : List aG) : Option (aM × Int) :=
    (oE p_0).bind fun r3 =>
    bif !decide (r3 = 0) then (some ((aM.mk (aQ.mk 0 ([] : List Int)) ([] : List aF) ([] : List Int) 0 ([] : List bF) ([] : List cC) ([] : List bX) ([] : List aG)), r3))
    else ((slices_Clone_int p_0.Tree.Slots).bind fun r5 =>
    (lF ([p_0.Slips, slips_1])).bind fun r7 =>
    (lE ([p_0.Items, items_2])).bind fun r8 =>
    (slices_Clone_int p_0.Prizes).bind fun r9 =>
    (pD p_0.Teams).bind fun r11 =>
    (pB p_0.Levies).bind fun r13 =>
    (pC p_0.Rates).bind fun r15 =>
    (oE (aM.mk (aQ.mk p_0.Tree.Rounds r5) r7 r9 p_0.Daily r11 r13 r15 r8)).bind fun r17 =>
    bif !decide (r17 = 0) then (some ((aM.mk (aQ.mk 0 ([] : List Int)) ([] : List aF) ([] : List Int) 0 ([] : List bF) ([] : List cC) ([] : List bX) ([] : List aG)), r17))
    else ((oF r8).bind fun r18 =>
    some ((aM.mk (aQ.mk p_0.Tree.Rounds r5) r7 r9 p_0.Daily r11 r13 r15 r18.1), 0)))

def qQ (p_0 : aM) (slips_1 : List aF) (more_2 : List aG) : Option (aM × Int) :=
    (nT p_0).bind fun r3 =>
    bif !decide (r3 = 0) then (some ((aM.mk (aQ.mk 0 ([] : List Int)) ([] : List aF) ([] : List Int) 0 ([] : List bF) ([] : List cC) ([] : List bX) ([] : List aG)), r3))
    else ((kS p_0).bind fun r4 =>
    (app 40 r4.Slips slips_1).bind fun x8 =>
    (app 32 r4.Items more_2).bind fun x10 =>
    (nT (aM.mk r4.Tree x8 r4.Prizes r4.Daily r4.Teams r4.Levies r4.Rates x10)).bind fun r12 =>
    bif !decide (r12 = 0) then (some ((aM.mk (aQ.mk 0 ([] : List Int)) ([] : List aF) ([] : List Int) 0 ([] : List bF) ([] : List cC) ([] : List bX) ([] : List aG)), r12))
    else ((qS x10).bind fun r13 =>
    some ((aM.mk r4.Tree x8 r4.Prizes r4.Daily r4.Teams r4.Levies r4.Rates r13), 0)))

def oA (p_0 : aM) (slips_1 : List aF) (items_2 : List aG) : Option Bool :=
    (nR p_0).bind fun r2 =>
    (bif r2 then (some true) else (some (decide (20 < (slips_1.length : Int))))).bind fun b3 =>
    (bif b3 then (some true) else (some (decide (60 < (items_2.length : Int))))).bind fun b4 =>
    bif b4 then ((nS).bind fun r5 =>
    some r5)
    else ((kS p_0).bind fun r6 =>
    (app 40 ([] : List aF) slips_1).bind fun x7 =>
    (app 32 ([] : List aG) items_2).bind fun x8 =>
    (wG r6 x7 x8).bind fun r9 =>
    (qQ p_0 slips_1 items_2).bind fun r11 =>
    (rF r9.1 r11.1).bind fun r13 =>
    (bif r13 then (some (decide (r9.2 = r11.2))) else (some false)).bind fun b14 =>
    (bif b14 then ((nS).bind fun r15 =>
    some r15) else (some false)).bind fun b16 =>
    some b16)

end Go.Am
