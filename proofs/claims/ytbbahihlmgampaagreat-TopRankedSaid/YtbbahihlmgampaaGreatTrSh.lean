/- Shallow functions, printed by program. -/
import Derived.Test.YtbbahihlmgampaaGreatAmFull
import Derived.Test.YtbbahihlmgampaaGreatAmNd
import Derived.Test.YtbbahihlmgampaaGreatAmPrim
import Derived.Test.YtbbahihlmgampaaGreatAmSortF
namespace Go.Am
structure bB where
 Player : Int
 From : Int
 To : Int
 deriving DecidableEq, Inhabited
def aM (x : bB) : List D := [.lit (.int .i64 x.Player), .lit (.int .i64 x.From), .lit (.int .i64 x.To)]
def aFr (x : List bB) : List D := [.sl 3 (x.map aM)]
structure aG where
 Id : Int
 Player : Int
 Week : Int
 Points : Int
 Must : Bool
 deriving DecidableEq, Inhabited
def aF (x : aG) : List D := [.lit (.int .i64 x.Id), .lit (.int .i64 x.Player), .lit (.int .i64 x.Week), .lit (.int .i64 x.Points), .lit (.bool x.Must)]
def aGr (x : List aG) : List D := [.sl 5 (x.map aF)]
structure aU where
 Players : Int
 Counts : Int
 Reports : List aG
 Bans : List bB
 Frozen : List bB
 deriving DecidableEq, Inhabited
def aY (x : aU) : List D := [.lit (.int .i64 x.Players), .lit (.int .i64 x.Counts), .sl 5 (x.Reports.map aF), .sl 3 (x.Bans.map aM), .sl 3 (x.Frozen.map aM)]
structure aN where
 Id : Int
 Hour : Int
 Kind : Int
 Player : Int
 Rank : Int
 deriving DecidableEq, Inhabited
def aK (x : aN) : List D := [.lit (.int .i64 x.Id), .lit (.int .i64 x.Hour), .lit (.int .i64 x.Kind), .lit (.int .i64 x.Player), .lit (.int .i64 x.Rank)]
structure bE where
 Places : Int
 Wilds : Int
 Guards : Int
 Close : Int
 Freeze : Int
 deriving DecidableEq, Inhabited
def bJ (x : bE) : List D := [.lit (.int .i64 x.Places), .lit (.int .i64 x.Wilds), .lit (.int .i64 x.Guards), .lit (.int .i64 x.Close), .lit (.int .i64 x.Freeze)]
structure dF where
 Ledger : aU
 deriving DecidableEq, Inhabited
def gD (x : dF) : List D := [.lit (.int .i64 x.Ledger.Players), .lit (.int .i64 x.Ledger.Counts), .sl 5 (x.Ledger.Reports.map aF), .sl 3 (x.Ledger.Bans.map aM), .sl 3 (x.Ledger.Frozen.map aM)]
def rQ (x : List Int) : List D := [.sl 1 (x.map aJ)]
structure aW where
 player : Int
 points : Int
 musts : Int
 many : Int
 deriving DecidableEq, Inhabited
def bH (x : aW) : List D := [.lit (.int .i64 x.player), .lit (.int .i64 x.points), .lit (.int .i64 x.musts), .lit (.int .i64 x.many)]
structure aA where
 entered : Bool
 guard : Bool
 rank : Int
 turn : Int
 quit : Bool
 signed : Bool
 wild : Bool
 had : Bool
 deriving DecidableEq, Inhabited
def aE (x : aA) : List D := [.lit (.bool x.entered), .lit (.bool x.guard), .lit (.int .i64 x.rank), .lit (.int .i64 x.turn), .lit (.bool x.quit), .lit (.bool x.signed), .lit (.bool x.wild), .lit (.bool x.had)]
structure aO where
 Field : bE
 players : List (Int × aA)
 wilds : List Int
 frozen : Bool
 first : List Int
 late : List Int
 more : Int
 entered : Int
 deriving DecidableEq, Inhabited
def bX (x : aO) : List D := [.lit (.int .i64 x.Field.Places), .lit (.int .i64 x.Field.Wilds), .lit (.int .i64 x.Field.Guards), .lit (.int .i64 x.Field.Close), .lit (.int .i64 x.Field.Freeze), .mp true (x.players.map fun p : Int × aA => ((fun n : Int => Value.int .i64 n) p.1, aE p.2)), .sl 1 (x.wilds.map aJ), .lit (.bool x.frozen), .sl 1 (x.first.map aJ), .sl 1 (x.late.map aJ), .lit (.int .i64 x.more), .lit (.int .i64 x.entered)]
structure eR where
 Main : List Int
 Wilds : List Int
 Out : List Int
 Open : Int
 deriving DecidableEq, Inhabited
def eO (x : eR) : List D := [.sl 1 (x.Main.map aJ), .sl 1 (x.Wilds.map aJ), .sl 1 (x.Out.map aJ), .lit (.int .i64 x.Open)]
structure eJ where
 Week : Int
 Players : List Int
 deriving DecidableEq, Inhabited
def eT (x : eJ) : List D := [.lit (.int .i64 x.Week), .sl 1 (x.Players.map aJ)]
def aAh (x : aG) : Prop := okI x.Id ∧ okI x.Player ∧ okI x.Week ∧ okI x.Points ∧ okB x.Must
def uV (x : bB) : Prop := okI x.Player ∧ okI x.From ∧ okI x.To
def aFd (x : aU) : Prop := okI x.Players ∧ okI x.Counts ∧ (okL aAh) x.Reports ∧ (okL uV) x.Bans ∧ (okL uV) x.Frozen
def aHk (x : bE) : Prop := okI x.Places ∧ okI x.Wilds ∧ okI x.Guards ∧ okI x.Close ∧ okI x.Freeze
def wZ (x : eJ) : Prop := okI x.Week ∧ (okL okI) x.Players
def fU (a : Int) (b : Int) (c : Int) : Option Bool :=
  (bif decide (b ≤ a) then (some (decide (a ≤ c))) else (some false)).bind fun d =>
  some d
def pH (a : List bB) : Option Bool :=
  some (decide ((a.length : Int) ≤ 8))
def gU (a : Int) (b : List bB) : Nat → Int → Option Bool
 | 0, _ => none
 | l + 1, m =>
  bif decide (m < (b.length : Int)) then ((idx b m).bind fun c =>
  (fU c.Player 0 (w64 (a - 1))).bind fun d =>
  (bif !d then (some true) else ((idx b m).bind fun e =>
  some (decide (e.From < 0)))).bind fun f =>
  (bif f then (some true) else ((idx b m).bind fun g =>
  (idx b m).bind fun h =>
  some (decide (h.To < g.From)))).bind fun i =>
  (bif i then (some true) else ((idx b m).bind fun j =>
  some (decide (400 < j.To)))).bind fun k =>
  bif k then (some false)
  else ((gU a b l) (w64 (m + 1))))
  else (pH b)
def kK (a : Int) (b : List bB) : Option Bool :=
  gU a b BIG 0
def mU (a : Int) (b : aG) : Option Bool :=
  (fU b.Id 0 99).bind fun c =>
  (bif c then ((fU b.Player 0 (w64 (a - 1))).bind fun d =>
  some d) else (some false)).bind fun e =>
  (bif e then ((fU b.Week 0 400).bind fun f =>
  some f) else (some false)).bind fun g =>
  (bif g then ((fU b.Points 0 2000).bind fun h =>
  some h) else (some false)).bind fun i =>
  some i
def qE (a : Int → Option Bool) (b : Int) (_ : aU) : Option Bool :=
  a (w64 (b + 1))
def qF (a : Int → Option Bool) (b : Int) (c : aU) : Option Bool :=
  qE a b c
def iG (a : Int → Option Bool) (b : Int) (c : aU) : Nat → Int → Option Bool
 | 0, _ => none
 | h + 1, i =>
  bif decide (i < b) then ((idx c.Frozen b).bind fun d =>
  (idx c.Frozen i).bind fun e =>
  (bif decide (d.Player = e.Player) then (some (decide (d.From ≤ e.To))) else (some false)).bind fun f =>
  (bif f then (some (decide (e.From ≤ d.To))) else (some false)).bind fun g =>
  bif g then (some false)
  else ((iG a b c h) (w64 (i + 1))))
  else (qF a b c)
def qD : Option Bool :=
  some true
def eC (a : aU) : Nat → Int → Option Bool
 | 0, _ => none
 | b + 1, c =>
  bif decide (c < (a.Frozen.length : Int)) then (iG (eC a b) c a BIG 0)
  else (qD)
def qC (a : aU) : Option Bool :=
  eC a BIG 0
def gC (a : aU) : Nat → Int → Option Bool
 | 0, _ => none
 | d + 1, e =>
  bif decide (e < (a.Reports.length : Int)) then ((idx a.Reports e).bind fun b =>
  (mU a.Players b).bind fun c =>
  bif !c then (some false)
  else ((gC a d) (w64 (e + 1))))
  else (qC a)
def mT (a : aU) : Option Bool :=
  (fU a.Players 1 16).bind fun b =>
  (bif !b then (some true) else ((fU a.Counts 1 20).bind fun c =>
  some (!c))).bind fun d =>
  (bif d then (some true) else (some (decide (40 < (a.Reports.length : Int))))).bind fun e =>
  (bif e then (some true) else ((kK a.Players a.Bans).bind fun f =>
  some (!f))).bind fun g =>
  (bif g then (some true) else ((kK a.Players a.Frozen).bind fun h =>
  some (!h))).bind fun i =>
  bif i then (some false)
  else (gC a BIG 0)
def rV (a : Int → Option Bool) (_ : List aG) (b : Int) : Option Bool :=
  a (w64 (b + 1))
def rW (a : Int → Option Bool) (b : List aG) (c : Int) : Option Bool :=
  rV a b c
def jR (a : Int → Option Bool) (b : List aG) (c : Int) : Nat → Int → Option Bool
 | 0, _ => none
 | i + 1, j =>
  bif decide (j < c) then ((idx b c).bind fun d =>
  (idx b j).bind fun e =>
  (bif decide (d.Id = e.Id) then ((idx b c).bind fun f =>
  (idx b j).bind fun g =>
  some (!decide (f = g))) else (some false)).bind fun h =>
  bif h then (some true)
  else ((jR a b c i) (w64 (j + 1))))
  else (rW a b c)
def rU : Option Bool :=
  some false
def fK (a : List aG) : Nat → Int → Option Bool
 | 0, _ => none
 | b + 1, c =>
  bif decide (c < (a.length : Int)) then (jR (fK a b) a c BIG 0)
  else (rU)
def oV (a : List aG) : Option Bool :=
  fK a BIG 0
def mZ (a : aU) : Option Int :=
  (mT a).bind fun b =>
  bif !b then (some 40)
  else ((oV a.Reports).bind fun c =>
  bif c then (some 41)
  else (some 0))
def mH (a : aU) : Option Bool :=
  (bif decide (5 < a.Players) then (some true) else (some (decide (10 < (a.Reports.length : Int))))).bind fun b =>
  some b
def gQ (a : aU) : Nat → Int → Option Bool
 | 0, _ => none
 | c + 1, d =>
  bif decide (d < (a.Reports.length : Int)) then ((idx a.Reports d).bind fun b =>
  bif decide (150 < b.Week) then (some true)
  else ((gQ a c) (w64 (d + 1))))
  else (mH a)
def kJ (a : aU) : Option Bool :=
  (bif decide (60 < (a.Reports.length : Int)) then (some true) else (some (decide (20 < (a.Bans.length : Int))))).bind fun b =>
  (bif b then (some true) else (some (decide (20 < (a.Frozen.length : Int))))).bind fun c =>
  bif c then (some true)
  else ((mZ a).bind fun d =>
  bif !decide (d = 0) then (some false)
  else (gQ a BIG 0))
def cW (a : Int) (b : Int) (c : Int) : Option Bool :=
  (bif decide (b ≤ a) then (some (decide (a ≤ c))) else (some false)).bind fun d =>
  some d
def mV (a : aN) : Option Bool :=
  (cW a.Id 0 999).bind fun b =>
  (bif !b then (some true) else ((cW a.Player 0 999).bind fun c =>
  some (!c))).bind fun d =>
  (bif d then (some true) else ((cW a.Hour 0 9999).bind fun e =>
  some (!e))).bind fun f =>
  bif f then (some false)
  else (bif decide (a.Kind = 1) then ((cW a.Rank 0 9999).bind fun g =>
  some g)
  else (bif decide (a.Kind = 2) then ((cW a.Rank 1 9999).bind fun h =>
  some h)
  else (bif decide (a.Kind = 3) then (bif decide (a.Kind = 3) then (some (decide (a.Rank = 0)))
  else (some false))
  else (bif decide (a.Kind = 4) then (bif decide (a.Kind = 4) then (some (decide (a.Rank = 0)))
  else (some false))
  else (bif decide (a.Kind = 5) then (some (decide (a.Rank = 0)))
  else (some false))))))
def rY (a : Int → Option Int) (_ : List aN) (b : Int) : Option Int :=
  a (w64 (b + 1))
def rZ (a : Int → Option Int) (b : List aN) (c : Int) : Option Int :=
  rY a b c
def iM (a : Int → Option Int) (b : List aN) (c : Int) : Nat → Int → Option Int
 | 0, _ => none
 | i + 1, j =>
  bif decide (j < c) then ((idx b j).bind fun d =>
  (idx b c).bind fun e =>
  (bif decide (d.Id = e.Id) then ((idx b j).bind fun f =>
  (idx b c).bind fun g =>
  some (!decide (f = g))) else (some false)).bind fun h =>
  bif h then (some 51)
  else ((iM a b c i) (w64 (j + 1))))
  else (rZ a b c)
def rX : Option Int :=
  some 0
def iL (a : List aN) : Nat → Int → Option Int
 | 0, _ => none
 | d + 1, e =>
  bif decide (e < (a.length : Int)) then ((idx a e).bind fun b =>
  (mV b).bind fun c =>
  bif !c then (some 51)
  else (iM (iL a d) a e BIG 0))
  else (rX)
def oW (a : bE) (b : List aN) : Option Int :=
  (cW a.Places 1 32).bind fun c =>
  (bif !c then (some true) else ((cW a.Wilds 0 32).bind fun d =>
  some (!d))).bind fun e =>
  (bif e then (some true) else ((cW a.Guards 0 32).bind fun f =>
  some (!f))).bind fun g =>
  (bif g then (some true) else ((cW a.Close 0 9999).bind fun h =>
  some (!h))).bind fun i =>
  (bif i then (some true) else ((cW a.Freeze a.Close 9999).bind fun j =>
  some (!j))).bind fun k =>
  bif k then (some 50)
  else (bif decide (60 < (b.length : Int)) then (some 51)
  else (iL b BIG 0))
def nJ : Option aU :=
  some (aU.mk 3 2 ([(aG.mk 1 0 10 500 false), (aG.mk 2 0 20 300 false), (aG.mk 3 0 30 100 true), (aG.mk 4 1 12 400 false), (aG.mk 5 1 40 200 false), (aG.mk 6 2 15 600 false)]) ([(bB.mk 1 50 55)]) ([(bB.mk 2 20 29)]))
def fN (a : Int) (b : Int) (c : Int) : Option Bool :=
  (bif decide (b ≤ a) then (some (decide (a ≤ c))) else (some false)).bind fun d =>
  some d
def lT : Option Int :=
  some (-1)
def eI (a : List bB) (b : bB → Option Bool) (c : Int) : Nat → Int → Option Int
 | 0, _ => none
 | f + 1, g =>
  bif decide (g < c) then ((idx a g).bind fun d =>
  (b d).bind fun e =>
  bif e then (some g)
  else ((eI a b c f) (w64 (g + 1))))
  else (lT)
def iT (a : List bB) (b : bB → Option Bool) : Option Int :=
  eI a b (a.length : Int) BIG 0
def eH (a : List bB) (b : bB → Option Bool) : Option Bool :=
  (iT a b).bind fun c =>
  some (decide (0 ≤ c))
def pD (a : bB) (b : aU) : Option Bool :=
  (fN a.Player 0 (w64 (b.Players - 1))).bind fun c =>
  (bif !c then (some true) else (some (decide (a.To < a.From)))).bind fun d =>
  (bif d then (some true) else ((fN a.From 0 400).bind fun e =>
  some (!e))).bind fun f =>
  (bif f then (some true) else ((fN a.To 0 400).bind fun g =>
  some (!g))).bind fun h =>
  some h
def oR (a : aU) (b : List bB) : Option Bool :=
  (bif decide ((b.length : Int) ≤ 8) then ((eH b (fun c => pD c a)).bind fun d =>
  some (!d)) else (some false)).bind fun e =>
  some e
def pW (a : bB) (b : bB) : Option Bool :=
  (bif decide (b.Player = a.Player) then (some (decide (b.From ≤ a.To))) else (some false)).bind fun c =>
  (bif c then (some (decide (a.From ≤ b.To))) else (some false)).bind fun d =>
  some d
def uI : Option Bool :=
  some true
def kF (a : List bB) (b : Int) (c : aU) : Nat → Int → Option Bool
 | 0, _ => none
 | h + 1, i =>
  bif decide (i < b) then ((idx a i).bind fun d =>
  (sub c.Frozen 0 i).bind fun e =>
  (eH e (fun f => pW f d)).bind fun g =>
  bif g then (some false)
  else ((kF a b c h) (w64 (i + 1))))
  else (uI)
def uH (a : aU) : Option Bool :=
  (oR a a.Bans).bind fun b =>
  (bif !b then (some true) else ((oR a a.Frozen).bind fun c =>
  some (!c))).bind fun d =>
  bif d then (some false)
  else (kF a.Frozen (a.Frozen.length : Int) a BIG 0)
def kE (a : List aG) (b : Int) (c : aU) : Nat → Int → Option Bool
 | 0, _ => none
 | l + 1, m =>
  bif decide (m < b) then ((idx a m).bind fun d =>
  (fN d.Id 0 99).bind fun e =>
  (bif !e then (some true) else ((fN d.Player 0 (w64 (c.Players - 1))).bind fun f =>
  some (!f))).bind fun g =>
  (bif g then (some true) else ((fN d.Week 0 400).bind fun h =>
  some (!h))).bind fun i =>
  (bif i then (some true) else ((fN d.Points 0 2000).bind fun j =>
  some (!j))).bind fun k =>
  bif k then (some false)
  else ((kE a b c l) (w64 (m + 1))))
  else (uH c)
def rM (a : aU) : Option Bool :=
  (fN a.Players 1 16).bind fun b =>
  (bif !b then (some true) else ((fN a.Counts 1 20).bind fun c =>
  some (!c))).bind fun d =>
  (bif d then (some true) else (some (decide (40 < (a.Reports.length : Int))))).bind fun e =>
  bif e then (some false)
  else (kE a.Reports (a.Reports.length : Int) a BIG 0)
def fQ (a : List aG) : Option ((List aG)) :=
  (app 40 ([] : List aG) a).bind fun b =>
  some b
def fS (a : Int → (List aG) → Option ((List aG))) (_ : Int) (_ : Int) (_ : aG → aG → Option Int) (b : Int) (c : List aG) : Option ((List aG)) :=
  a (w64 (b + 1)) c
def fT (a : Int → (List aG) → Option ((List aG))) (b : Int) (c : Int) (d : aG → aG → Option Int) (e : Int) (f : List aG) : Option ((List aG)) :=
  fS a b c d e f
def cO (a : Int → (List aG) → Option ((List aG))) (b : Int) (c : Int) (d : aG → aG → Option Int) (e : Int) : Nat → Int → (List aG) → Option ((List aG))
 | 0, _, _ => none
 | l + 1, m, n =>
  (bif decide (b < m) then ((idx n m).bind fun f =>
  (idx n (w64 (m - 1))).bind fun g =>
  (d f g).bind fun h =>
  some (decide (h < 0))) else (some false)).bind fun i =>
  bif i then ((idx n (w64 (m - 1))).bind fun j =>
  (idx n m).bind fun k =>
  (idx n m).bind fun _ =>
  (idx (n.set m.toNat j) (w64 (m - 1))).bind fun _ =>
  (cO a b c d e l) (w64 (m - 1)) ((n.set m.toNat j).set (w64 (m - 1)).toNat k))
  else (fT a b c d e n)
def fR (a : List aG) : Option ((List aG)) :=
  some a
def cB (a : Int) (b : Int) (c : aG → aG → Option Int) : Nat → Int → (List aG) → Option ((List aG))
 | 0, _, _ => none
 | d + 1, e, f =>
  bif decide (e < b) then (cO (cB a b c d) a b c e BIG e f)
  else (fR f)
def dJ (a : List aG) (b : Int) (c : Int) (d : aG → aG → Option Int) : Option ((List aG)) :=
  cB b c d BIG (w64 (b + 1)) a
def jZ (a : List aG) : Option ((List aG)) :=
  some a
def dM (a : Int) (b : Int) (c : Int) : Nat → Int → (List aG) → Option ((List aG))
 | 0, _, _ => none
 | f + 1, g, h =>
  bif decide (g < c) then ((idx h (w64 (b + g))).bind fun d =>
  (idx h (w64 (a + g))).bind fun e =>
  (idx h (w64 (a + g))).bind fun _ =>
  (idx (h.set (w64 (a + g)).toNat d) (w64 (b + g))).bind fun _ =>
  (dM a b c f) (w64 (g + 1)) ((h.set (w64 (a + g)).toNat d).set (w64 (b + g)).toNat e))
  else (jZ h)
def dX (a : List aG) (b : Int) (c : Int) (d : Int) (_ : aG → aG → Option Int) : Option ((List aG)) :=
  dM b c d BIG 0 a
def kT (a : Int) (b : aG → aG → Option Int) (c : Int) (d : List aG) : Option ((List aG)) :=
  (dX d (w64 (a - c)) a c b).bind fun e =>
  some e
def cX (a : Int) (b : aG → aG → Option Int) : Nat → Int → Int → (List aG) → Option ((List aG))
 | 0, _, _, _ => none
 | e + 1, f, g, h =>
  bif !decide (f = g) then (bif decide (g < f) then ((dX h (w64 (a - f)) a g b).bind fun c =>
  (cX a b e) (w64 (f - g)) g c)
  else ((dX h (w64 (a - f)) (w64 ((w64 (a + g)) - f)) f b).bind fun d =>
  (cX a b e) f (w64 (g - f)) d))
  else (kT a b f h)
def eZ (a : List aG) (b : Int) (c : Int) (d : Int) (e : aG → aG → Option Int) : Option ((List aG)) :=
  cX c e BIG (w64 (c - b)) (w64 (d - c)) a
def kH (_ : (List aG) → Int → Int → Int → Option ((List aG))) (a : List aG) : Option ((List aG)) :=
  some a
def dO (a : (List aG) → Int → Int → Int → Option ((List aG))) (b : Int) : Nat → Int → (List aG) → Option ((List aG))
 | 0, _, _ => none
 | e + 1, f, g =>
  bif decide (f < (w64 (b - 1))) then ((idx g (w64 (f + 1))).bind fun c =>
  (idx g f).bind fun d =>
  (idx g f).bind fun _ =>
  (idx (g.set f.toNat c) (w64 (f + 1))).bind fun _ =>
  (dO a b e) (w64 (f + 1)) ((g.set f.toNat c).set (w64 (f + 1)).toNat d))
  else (kH a g)
def iE (a : (List aG) → Int → Int → Int → Option ((List aG))) (b : Int) (c : Int) (d : List aG) : Option ((List aG)) :=
  dO a c BIG b d
def cH (a : (List aG) → Int → Int → Int → Option ((List aG))) (b : Int) (c : aG → aG → Option Int) (d : List aG) : Nat → Int → Int → Option ((List aG))
 | 0, _, _ => none
 | h + 1, i, j =>
  bif decide (i < j) then ((idx d (w64 ((IntKind.u64.wrap (w64 (i + j))).fdiv (2 ^ (min (1 : Int).toNat 64))))).bind fun e =>
  (idx d b).bind fun f =>
  (c e f).bind fun g =>
  bif decide (g < 0) then ((cH a b c d h) (w64 ((w64 ((IntKind.u64.wrap (w64 (i + j))).fdiv (2 ^ (min (1 : Int).toNat 64)))) + 1)) j)
  else ((cH a b c d h) i (w64 ((IntKind.u64.wrap (w64 (i + j))).fdiv (2 ^ (min (1 : Int).toNat 64))))))
  else (iE a b i d)
def kI (_ : (List aG) → Int → Int → Int → Option ((List aG))) (a : List aG) : Option ((List aG)) :=
  some a
def dP (a : (List aG) → Int → Int → Int → Option ((List aG))) (b : Int) : Nat → Int → (List aG) → Option ((List aG))
 | 0, _, _ => none
 | e + 1, f, g =>
  bif decide (b < f) then ((idx g (w64 (f - 1))).bind fun c =>
  (idx g f).bind fun d =>
  (idx g f).bind fun _ =>
  (idx (g.set f.toNat c) (w64 (f - 1))).bind fun _ =>
  (dP a b e) (w64 (f - 1)) ((g.set f.toNat c).set (w64 (f - 1)).toNat d))
  else (kI a g)
def iF (a : (List aG) → Int → Int → Int → Option ((List aG))) (b : Int) (c : Int) (d : List aG) : Option ((List aG)) :=
  dP a c BIG b d
def cI (a : (List aG) → Int → Int → Int → Option ((List aG))) (b : Int) (c : aG → aG → Option Int) (d : List aG) : Nat → Int → Int → Option ((List aG))
 | 0, _, _ => none
 | h + 1, i, j =>
  bif decide (i < j) then ((idx d b).bind fun e =>
  (idx d (w64 ((IntKind.u64.wrap (w64 (i + j))).fdiv (2 ^ (min (1 : Int).toNat 64))))).bind fun f =>
  (c e f).bind fun g =>
  bif !(decide (g < 0)) then ((cI a b c d h) (w64 ((w64 ((IntKind.u64.wrap (w64 (i + j))).fdiv (2 ^ (min (1 : Int).toNat 64)))) + 1)) j)
  else ((cI a b c d h) i (w64 ((IntKind.u64.wrap (w64 (i + j))).fdiv (2 ^ (min (1 : Int).toNat 64))))))
  else (iF a b i d)
def dC (a : (List aG) → Int → Int → Int → Option ((List aG))) (b : Int) (c : Int) (d : Int) (e : aG → aG → Option Int) (f : Int) (g : Int) (h : Int) (i : List aG) : Option ((List aG)) :=
  (bif decide (h < c) then (some (decide (c < (w64 (g - h))))) else (some false)).bind fun j =>
  bif j then ((eZ i h c (w64 (g - h)) e).bind fun k =>
  (bif decide (b < h) then (some (decide (h < f))) else (some false)).bind fun l =>
  bif l then ((a k b h f).bind fun m =>
  (bif decide (f < (w64 (g - h))) then (some (decide ((w64 (g - h)) < d))) else (some false)).bind fun n =>
  bif n then ((a m f (w64 (g - h)) d).bind fun o =>
  some o)
  else (some m))
  else ((bif decide (f < (w64 (g - h))) then (some (decide ((w64 (g - h)) < d))) else (some false)).bind fun p =>
  bif p then ((a k f (w64 (g - h)) d).bind fun q =>
  some q)
  else (some k)))
  else ((bif decide (b < h) then (some (decide (h < f))) else (some false)).bind fun r =>
  bif r then ((a i b h f).bind fun s =>
  (bif decide (f < (w64 (g - h))) then (some (decide ((w64 (g - h)) < d))) else (some false)).bind fun t =>
  bif t then ((a s f (w64 (g - h)) d).bind fun u =>
  some u)
  else (some s))
  else ((bif decide (f < (w64 (g - h))) then (some (decide ((w64 (g - h)) < d))) else (some false)).bind fun v =>
  bif v then ((a i f (w64 (g - h)) d).bind fun w =>
  some w)
  else (some i)))
def bT (a : (List aG) → Int → Int → Int → Option ((List aG))) (b : Int) (c : Int) (d : Int) (e : aG → aG → Option Int) (f : Int) (g : Int) (h : Int) (i : List aG) : Nat → Int → Int → Option ((List aG))
 | 0, _, _ => none
 | m + 1, n, o =>
  bif decide (n < o) then ((idx i (w64 (h - (w64 ((IntKind.u64.wrap (w64 (n + o))).fdiv (2 ^ (min (1 : Int).toNat 64))))))).bind fun j =>
  (idx i (w64 ((IntKind.u64.wrap (w64 (n + o))).fdiv (2 ^ (min (1 : Int).toNat 64))))).bind fun k =>
  (e j k).bind fun l =>
  bif !(decide (l < 0)) then ((bT a b c d e f g h i m) (w64 ((w64 ((IntKind.u64.wrap (w64 (n + o))).fdiv (2 ^ (min (1 : Int).toNat 64)))) + 1)) o)
  else ((bT a b c d e f g h i m) n (w64 ((IntKind.u64.wrap (w64 (n + o))).fdiv (2 ^ (min (1 : Int).toNat 64))))))
  else (dC a b c d e f g n i)
def aX (a : aG → aG → Option Int) : Nat → (List aG) → Int → Int → Int → Option ((List aG))
 | 0, _, _, _, _ => none
 | b + 1, c, d, e, f =>
  bif decide ((w64 (e - d)) = 1) then (cH (aX a b) d a c BIG e f)
  else (bif decide ((w64 (f - e)) = 1) then (cI (aX a b) e a c BIG d e)
  else (bif decide ((w64 ((IntKind.u64.wrap (w64 (d + f))).fdiv (2 ^ (min (1 : Int).toNat 64)))) < e) then (bT (aX a b) d e f a (w64 ((IntKind.u64.wrap (w64 (d + f))).fdiv (2 ^ (min (1 : Int).toNat 64)))) (w64 ((w64 ((IntKind.u64.wrap (w64 (d + f))).fdiv (2 ^ (min (1 : Int).toNat 64)))) + e)) (w64 ((w64 ((w64 ((IntKind.u64.wrap (w64 (d + f))).fdiv (2 ^ (min (1 : Int).toNat 64)))) + e)) - 1)) c BIG (w64 ((w64 ((w64 ((IntKind.u64.wrap (w64 (d + f))).fdiv (2 ^ (min (1 : Int).toNat 64)))) + e)) - f)) (w64 ((IntKind.u64.wrap (w64 (d + f))).fdiv (2 ^ (min (1 : Int).toNat 64)))))
  else (bT (aX a b) d e f a (w64 ((IntKind.u64.wrap (w64 (d + f))).fdiv (2 ^ (min (1 : Int).toNat 64)))) (w64 ((w64 ((IntKind.u64.wrap (w64 (d + f))).fdiv (2 ^ (min (1 : Int).toNat 64)))) + e)) (w64 ((w64 ((w64 ((IntKind.u64.wrap (w64 (d + f))).fdiv (2 ^ (min (1 : Int).toNat 64)))) + e)) - 1)) c BIG d e)))
def iY (a : List aG) (b : Int) (c : Int) (d : Int) (e : aG → aG → Option Int) : Option ((List aG)) := aX e BIG a b c d
def fY (a : Int → (List aG) → Option ((List aG))) (_ : Int) (_ : aG → aG → Option Int) (b : Int) (c : List aG) : Option ((List aG)) :=
  a b c
def kW (a : Int → (List aG) → Option ((List aG))) (b : Int) (c : aG → aG → Option Int) (d : Int) (e : Int) (f : List aG) : Option ((List aG)) :=
  bif decide ((w64 (e + d)) < b) then ((iY f e (w64 (e + d)) b c).bind fun g =>
  fY a b c (w64 (d * 2)) g)
  else (fY a b c (w64 (d * 2)) f)
def dW (a : Int → (List aG) → Option ((List aG))) (b : Int) (c : aG → aG → Option Int) (d : Int) : Nat → Int → Int → (List aG) → Option ((List aG))
 | 0, _, _, _ => none
 | f + 1, g, h, i =>
  bif decide (h ≤ b) then ((iY i g (w64 (g + d)) h c).bind fun e =>
  (dW a b c d f) h (w64 (h + (w64 (2 * d)))) e)
  else (kW a b c d g i)
def kV (a : List aG) : Option ((List aG)) :=
  some a
def cY (a : Int) (b : aG → aG → Option Int) : Nat → Int → (List aG) → Option ((List aG))
 | 0, _, _ => none
 | c + 1, d, e =>
  bif decide (d < a) then (dW (cY a b c) a b d BIG 0 (w64 (2 * d)) e)
  else (kV e)
def kU (a : Int) (b : aG → aG → Option Int) (c : Int) (d : Int) (e : List aG) : Option ((List aG)) :=
  (dJ e d a b).bind fun f =>
  cY a b BIG c f
def dT (a : Int) (b : aG → aG → Option Int) (c : Int) : Nat → Int → Int → (List aG) → Option ((List aG))
 | 0, _, _, _ => none
 | e + 1, f, g, h =>
  bif decide (g ≤ a) then ((dJ h f g b).bind fun d =>
  (dT a b c e) g (w64 (g + c)) d)
  else (kU a b c f h)
def jK (a : List aG) (b : Int) (c : aG → aG → Option Int) : Option ((List aG)) :=
  dT b c 20 BIG 0 20 a
def eW (a : List aG) (b : aG → aG → Option Int) : Option ((List aG)) :=
  (jK a (a.length : Int) b).bind fun c =>
  some c
def rS (a : aG) (b : aG) : Option Int :=
  some (w64 (a.Id - b.Id))
def nH (_ : Int → (List aG) → Option ((List aG))) (a : Int) (b : List aG) : Option ((List aG)) :=
  (chk (decide (0 ≤ a) && decide (a ≤ (b.length : Int)))).bind fun _ =>
  (chk (decide (a.toNat ≤ b.length))).bind fun _ =>
  (chk (decide (0 ≤ a))).bind fun _ =>
  some (b.take a.toNat)
def eG (a : Int → (List aG) → Option ((List aG))) (b : Int) : Nat → Int → Int → (List aG) → Option ((List aG))
 | 0, _, _, _ => none
 | f + 1, g, h, i =>
  bif decide (h < ((i.drop b.toNat).length : Int)) then ((idx (i.drop b.toNat) h).bind fun c =>
  (idx (i.drop b.toNat) (w64 (h - 1))).bind fun d =>
  bif !decide (c = d) then ((idx (i.drop b.toNat) h).bind fun e =>
  (idx i g).bind fun _ =>
  (eG a b f) (w64 (g + 1)) (w64 (h + 1)) (i.set g.toNat e))
  else ((eG a b f) g (w64 (h + 1)) i))
  else (nH a g i)
def nG (a : Int → (List aG) → Option ((List aG))) (b : Int) (c : List aG) : Option ((List aG)) :=
  a (w64 (b + 1)) c
def nF (a : List aG) : Option ((List aG)) :=
  some a
def dI : Nat → Int → (List aG) → Option ((List aG))
 | 0, _, _ => none
 | c + 1, d, e =>
  bif decide (d < (e.length : Int)) then ((idx e d).bind fun a =>
  (idx e (w64 (d - 1))).bind fun b =>
  bif decide (a = b) then ((chk (decide (0 ≤ d) && decide (d ≤ (e.length : Int)))).bind fun _ =>
  eG (dI c) d BIG d 1 e)
  else (nG (dI c) d e))
  else (nF e)
def jW (a : List aG) : Option ((List aG)) :=
  bif decide ((a.length : Int) < 2) then (some a)
  else (dI BIG 1 a)
def zD (a : List aG) : Option ((List aG) × Bool) :=
  some (a, true)
def jI (a : List aG) : Nat → Int → Option ((List aG) × Bool)
 | 0, _ => none
 | d + 1, e =>
  bif decide (e < (a.length : Int)) then ((idx a e).bind fun b =>
  (idx a (w64 (e - 1))).bind fun c =>
  bif decide (b.Id = c.Id) then (some (([] : List aG), false))
  else ((jI a d) (w64 (e + 1))))
  else (zD a)
def pX (a : List aG) : Option ((List aG) × Bool) :=
  (fQ a).bind fun b =>
  (eW b (fun c d => rS c d)).bind fun e =>
  (jW e).bind fun f =>
  jI f BIG 1
def vA (a : aU) : Option Int :=
  (rM a).bind fun b =>
  bif !b then (some 40)
  else ((pX a.Reports).bind fun c =>
  bif !c.2 then (some 41)
  else (some 0))
def xA (a : aU) : Option ((Option dF) × Int) :=
  (vA a).bind fun b =>
  bif !decide (b = 0) then (some (none, b))
  else ((pX a.Reports).bind fun c =>
  some (some (dF.mk (aU.mk a.Players a.Counts c.1 a.Bans a.Frozen)), 0))
def wE (a : aU) (b : Int) (c : Int) : Option ((Option dF) × Int) :=
  (xA a).bind fun d =>
  aDu d.1 (bif !decide (d.2 = 0) then (some (none, d.2))
  else ((fN b 0 (w64 (a.Players - 1))).bind fun e =>
  (bif !e then (some true) else ((fN c 0 400).bind fun f =>
  some (!f))).bind fun g =>
  bif g then (some (none, 1))
  else (some (none, 0)))) fun h =>
  bif !decide (d.2 = 0) then (some (none, d.2))
  else ((fN b 0 (w64 (a.Players - 1))).bind fun i =>
  (bif !i then (some true) else ((fN c 0 400).bind fun j =>
  some (!j))).bind fun k =>
  bif k then (some (none, 1))
  else (some (some h, 0)))
def uG (a : Int) : Option Int :=
  some a
def kD (a : Int) (b : List bB) (c : Int) (d : aG) : Nat → Int → Int → Option Int
 | 0, _, _ => none
 | f + 1, g, h =>
  bif decide (h < c) then ((idx b h).bind fun e =>
  bif decide (e.Player = d.Player) then ((kD a b c d f) (w64 (g - (max 0 (w64 ((w64 ((min e.To a) - (max e.From (w64 (d.Week + 1))))) + 1))))) (w64 (h + 1)))
  else ((kD a b c d f) g (w64 (h + 1))))
  else (uG g)
def pL (a : dF) (b : aG) (c : Int) : Option Int :=
  kD c a.Ledger.Frozen (a.Ledger.Frozen.length : Int) b BIG (w64 (c - b.Week)) 0
def tN (a : bB) (b : Int) (c : Int) : Option Bool :=
  (bif decide (a.Player = b) then ((fN c a.From a.To).bind fun d =>
  some d) else (some false)).bind fun e =>
  some e
def qX (a : List bB) (b : Int) (c : Int) : Option Bool :=
  (eH a (fun d => tN d b c)).bind fun e =>
  some e
def sP (a : List aG) : Option ((List aG)) :=
  some a
def jB (a : dF) (b : Int) (c : Int) (d : List aG) (e : Int) : Nat → Int → (List aG) → Option ((List aG))
 | 0, _, _ => none
 | m + 1, n, o =>
  bif decide (n < e) then ((idx d n).bind fun f =>
  (bif decide (f.Player = b) then (some (decide (f.Week ≤ c))) else (some false)).bind fun g =>
  (bif g then ((pL a f c).bind fun h =>
  some (decide (h < 52))) else (some false)).bind fun i =>
  (bif i then ((qX a.Ledger.Bans b f.Week).bind fun j =>
  some (!j)) else (some false)).bind fun k =>
  bif k then ((app 40 o ([f])).bind fun l =>
  (jB a b c d e m) (w64 (n + 1)) l)
  else ((jB a b c d e m) (w64 (n + 1)) o))
  else (sP o)
def pR (a : dF) (b : Int) (c : Int) : Option ((List aG)) :=
  jB a b c a.Ledger.Reports (a.Ledger.Reports.length : Int) BIG 0 ([] : List aG)
def rK (a : Int) : Option Int :=
  some a
def lE (a : Int) (b : List Int) (c : Int) : Nat → Int → Option Int
 | 0, _ => none
 | e + 1, f =>
  bif decide (f < c) then ((idx b f).bind fun d =>
  bif !decide (d = a) then (some d)
  else ((lE a b c e) (w64 (f + 1))))
  else (rK a)
def lD (a : List Int) : Option Int :=
  lE 0 a (a.length : Int) BIG 0
def mN (a : aG) (b : aG) : Option Int :=
  (bif !decide (a.Must = b.Must) then (some a.Must) else (some false)).bind fun c =>
  bif c then (some (-1))
  else (bif !decide (a.Must = b.Must) then (some 1)
  else ((lD ([w64 (b.Points - a.Points), w64 (a.Id - b.Id)])).bind fun d =>
  some d))
def nN (a : dF) (b : Int) (c : List aG) : Option ((List aG)) :=
  (sub c 0 (min (c.length : Int) (max b a.Ledger.Counts))).bind fun d =>
  some d
def iC (a : dF) (b : Int) (c : List aG) : Nat → Int → Int → Option ((List aG))
 | 0, _, _ => none
 | e + 1, f, g =>
  bif decide (g < b) then ((idx c g).bind fun d =>
  bif d.Must then ((iC a b c e) (w64 (f + 1)) (w64 (g + 1)))
  else ((iC a b c e) f (w64 (g + 1))))
  else (nN a f c)
def pT (a : dF) (b : List aG) : Option ((List aG)) :=
  (fQ b).bind fun c =>
  (eW c (fun d e => mN d e)).bind fun f =>
  iC a (f.length : Int) f BIG 0 0
def aAi (a : Int) : Option Int :=
  some a
def qG (a : List aG) (b : Int) : Nat → Int → Int → Option Int
 | 0, _, _ => none
 | d + 1, e, f =>
  bif decide (f < b) then ((idx a f).bind fun c =>
  (qG a b d) (w64 (e + c.Points)) (w64 (f + 1)))
  else (aAi e)
def zE (a : List aG) : Option Int :=
  qG a (a.length : Int) BIG 0 0
def tW (x : Int) : Option Int := aEj x
def gA (a : Int → (List aW) → Option ((List aW))) (_ : Int) (_ : Int) (_ : aW → aW → Option Int) (b : Int) (c : List aW) : Option ((List aW)) :=
  a (w64 (b + 1)) c
def gB (a : Int → (List aW) → Option ((List aW))) (b : Int) (c : Int) (d : aW → aW → Option Int) (e : Int) (f : List aW) : Option ((List aW)) :=
  gA a b c d e f
def cQ (a : Int → (List aW) → Option ((List aW))) (b : Int) (c : Int) (d : aW → aW → Option Int) (e : Int) : Nat → Int → (List aW) → Option ((List aW))
 | 0, _, _ => none
 | l + 1, m, n =>
  (bif decide (b < m) then ((idx n m).bind fun f =>
  (idx n (w64 (m - 1))).bind fun g =>
  (d f g).bind fun h =>
  some (decide (h < 0))) else (some false)).bind fun i =>
  bif i then ((idx n (w64 (m - 1))).bind fun j =>
  (idx n m).bind fun k =>
  (idx n m).bind fun _ =>
  (idx (n.set m.toNat j) (w64 (m - 1))).bind fun _ =>
  (cQ a b c d e l) (w64 (m - 1)) ((n.set m.toNat j).set (w64 (m - 1)).toNat k))
  else (gB a b c d e n)
def fZ (a : List aW) : Option ((List aW)) :=
  some a
def cD (a : Int) (b : Int) (c : aW → aW → Option Int) : Nat → Int → (List aW) → Option ((List aW))
 | 0, _, _ => none
 | d + 1, e, f =>
  bif decide (e < b) then (cQ (cD a b c d) a b c e BIG e f)
  else (fZ f)
def dL (a : List aW) (b : Int) (c : Int) (d : aW → aW → Option Int) : Option ((List aW)) :=
  cD b c d BIG (w64 (b + 1)) a
def iP (a : aW → aW → Option Int) : Nat → Int → Int → Int → Bool → Bool → (List aW) → Option ((List aW))
 | 0, _, _, _, _, _, _ => none
 | _ + 1, c, d, _, _, _, e =>
  bif decide ((w64 (d - c)) ≤ 12) then ((dL e c d a).bind fun b =>
  some b)
  else (none)
def jJ (a : List aW) (b : Int) (c : Int) (d : Int) (e : aW → aW → Option Int) : Option ((List aW)) :=
  iP e BIG b c d true true a
def jX (a : List aW) (b : aW → aW → Option Int) : Option ((List aW)) :=
  (tW (IntKind.u64.wrap (a.length : Int))).bind fun c =>
  (jJ a 0 (a.length : Int) c b).bind fun d =>
  some d
def mO (a : aW) (b : aW) : Option Int :=
  (lD ([w64 (b.points - a.points), w64 (b.musts - a.musts), w64 (a.many - b.many), w64 (a.player - b.player)])).bind fun c =>
  some c
def mM (a : Int → (List aW) → Option ((List Int))) (_ : dF) (_ : Int) (_ : Int) (b : Int) (c : List aW) : Option ((List Int)) :=
  a (w64 (b + 1)) c
def qL (a : Int → (List aW) → Option ((List Int))) (b : dF) (c : Int) (d : Int) (e : Int) (f : List aW) (g : aW) : Option ((List Int)) :=
  (app 32 f ([g])).bind fun h =>
  mM a b c d e h
def jO (a : Int → (List aW) → Option ((List Int))) (b : dF) (c : Int) (d : Int) (e : Int) (f : List aG) (g : Int) (h : List aW) : Nat → Int → aW → Option ((List Int))
 | 0, _, _ => none
 | j + 1, k, l =>
  bif decide (k < g) then ((idx f k).bind fun i =>
  bif i.Must then ((jO a b c d e f g h j) (w64 (k + 1)) (aW.mk l.player l.points (w64 (l.musts + i.Points)) l.many))
  else ((jO a b c d e f g h j) (w64 (k + 1)) l))
  else (qL a b c d e h l)
def tD (a : List Int) : Option ((List Int)) :=
  some a
def kS (a : Int) (b : List aW) : Nat → Int → (List Int) → Option ((List Int))
 | 0, _, _ => none
 | e + 1, f, g =>
  bif decide (f < a) then ((idx b f).bind fun c =>
  (app 8 g ([c.player])).bind fun d =>
  (kS a b e) (w64 (f + 1)) d)
  else (tD g)
def oG (a : List aW) : Option ((List Int)) :=
  (jX a (fun b c => mO b c)).bind fun d =>
  kS (d.length : Int) d BIG 0 ([] : List Int)
def fW (a : dF) (b : Int) (c : Int) : Nat → Int → (List aW) → Option ((List Int))
 | 0, _, _ => none
 | i + 1, j, k =>
  bif decide (j < c) then ((pR a j b).bind fun d =>
  (qX a.Ledger.Bans j b).bind fun e =>
  (bif e then (some true) else (some (decide ((d.length : Int) = 0)))).bind fun f =>
  bif f then (mM (fW a b c i) a b c j k)
  else ((pT a d).bind fun g =>
  (zE g).bind fun h =>
  jO (fW a b c i) a b c j d (d.length : Int) k BIG 0 (aW.mk j h 0 (d.length : Int))))
  else (oG k)
def jN (a : dF) (b : Int) : Option ((List Int)) :=
  fW a b a.Ledger.Players BIG 0 ([] : List aW)
def qW (a : aU) (b : Int) : Option ((List Int) × Int) :=
  (wE a 0 b).bind fun c =>
  aDu c.1 (bif !decide (c.2 = 0) then (some (([] : List Int), c.2))
  else (none)) fun d =>
  bif !decide (c.2 = 0) then (some (([] : List Int), c.2))
  else ((jN d b).bind fun e =>
  some (e, 0))
def eL (a : Int) (b : Int) (c : Int) (d : Int) (e : Int) : Option aN :=
  some (aN.mk a b c d e)
def lM : Option (bE × (List aN)) :=
  (eL 0 1 1 7 50).bind fun a =>
  (eL 1 2 1 8 20).bind fun b =>
  (eL 2 3 2 9 10).bind fun c =>
  (eL 3 4 2 6 30).bind fun d =>
  (eL 4 5 1 5 70).bind fun e =>
  (eL 5 6 1 4 0).bind fun f =>
  (eL 6 11 1 3 1).bind fun g =>
  (eL 7 12 3 7 0).bind fun h =>
  (eL 8 15 4 8 0).bind fun i =>
  (eL 9 21 5 4 0).bind fun j =>
  (eL 10 22 4 5 0).bind fun k =>
  some ((bE.mk 3 1 1 10 20), [a, b, c, d, e, f, g, h, i, j, k])
def cN (a : Int) (b : Int) (c : Int) : Option Bool :=
  (bif decide (b ≤ a) then (some (decide (a ≤ c))) else (some false)).bind fun d =>
  some d
def rL (a : bE) : Option Bool :=
  (cN a.Places 1 32).bind fun b =>
  (bif b then ((cN a.Wilds 0 32).bind fun c =>
  some c) else (some false)).bind fun d =>
  (bif d then ((cN a.Guards 0 32).bind fun e =>
  some e) else (some false)).bind fun f =>
  (bif f then ((cN a.Close 0 9999).bind fun g =>
  some g) else (some false)).bind fun h =>
  (bif h then ((cN a.Freeze a.Close 9999).bind fun i =>
  some i) else (some false)).bind fun j =>
  some j
def qN (a : aN) : Option Bool :=
  bif decide (a.Kind = 1) then ((cN a.Id 0 999).bind fun b =>
  (bif b then ((cN a.Player 0 999).bind fun c =>
  some c) else (some false)).bind fun d =>
  (bif d then ((cN a.Hour 0 9999).bind fun e =>
  some e) else (some false)).bind fun f =>
  (bif f then ((cN a.Rank 0 9999).bind fun g =>
  some g) else (some false)).bind fun h =>
  some h)
  else (bif decide (a.Kind = 2) then ((cN a.Id 0 999).bind fun i =>
  (bif i then ((cN a.Player 0 999).bind fun j =>
  some j) else (some false)).bind fun k =>
  (bif k then ((cN a.Hour 0 9999).bind fun l =>
  some l) else (some false)).bind fun m =>
  (bif m then ((cN a.Rank 1 9999).bind fun n =>
  some n) else (some false)).bind fun o =>
  some o)
  else (bif decide (a.Kind = 3) then (bif decide (a.Kind = 3) then ((cN a.Id 0 999).bind fun p =>
  (bif p then ((cN a.Player 0 999).bind fun q =>
  some q) else (some false)).bind fun r =>
  (bif r then ((cN a.Hour 0 9999).bind fun s =>
  some s) else (some false)).bind fun t =>
  (bif t then ((cN a.Rank 0 0).bind fun u =>
  some u) else (some false)).bind fun v =>
  some v)
  else (some false))
  else (bif decide (a.Kind = 4) then (bif decide (a.Kind = 4) then ((cN a.Id 0 999).bind fun w =>
  (bif w then ((cN a.Player 0 999).bind fun x =>
  some x) else (some false)).bind fun y =>
  (bif y then ((cN a.Hour 0 9999).bind fun z =>
  some z) else (some false)).bind fun a0 =>
  (bif a0 then ((cN a.Rank 0 0).bind fun a1 =>
  some a1) else (some false)).bind fun a2 =>
  some a2)
  else (some false))
  else (bif decide (a.Kind = 5) then ((cN a.Id 0 999).bind fun a3 =>
  (bif a3 then ((cN a.Player 0 999).bind fun a4 =>
  some a4) else (some false)).bind fun a5 =>
  (bif a5 then ((cN a.Hour 0 9999).bind fun a6 =>
  some a6) else (some false)).bind fun a7 =>
  (bif a7 then ((cN a.Rank 0 0).bind fun a8 =>
  some a8) else (some false)).bind fun a9 =>
  some a9)
  else (some false)))))
def vQ : Option Int :=
  some 0
def lN (a : List aN) (b : Int) : Nat → Int → (List (Int × aN)) → Option Int
 | 0, _, _ => none
 | g + 1, h, i =>
  bif decide (h < b) then ((idx a h).bind fun c =>
  (qN c).bind fun d =>
  (bif !d then (some true) else ((bif lS c.Id i then (some (!decide ((aH c.Id (aN.mk 0 0 0 0 0) i) = c))) else (some false)).bind fun e =>
  some e)).bind fun f =>
  bif f then (some 51)
  else ((lN a b g) (w64 (h + 1)) (dS c.Id c i)))
  else (vQ)
def tK (a : bE) (b : List aN) : Option Int :=
  (rL a).bind fun c =>
  bif !c then (some 50)
  else (bif decide (60 < (b.length : Int)) then (some 51)
  else (lN b (b.length : Int) BIG 0 ([] : List (Int × aN))))
def mF (_ : List aN) : Option Unit :=
  some ()
def jG {S : Type} (_ : S → aN → Option (S × Bool)) (a : S) : Option (S × Bool) :=
  some (a, true)
def dD {S : Type} (a : S → aN → Option (S × Bool)) (b : List aN) (c : Int) : Nat → Int → S → Option (S × Bool)
 | 0, _, _ => none
 | f + 1, g, h =>
  bif decide (g < c) then ((idx b g).bind fun d =>
  (a h d).bind fun e =>
  bif !e.2 then (some e)
  else ((dD a b c f) (w64 (g + 1)) e.1))
  else (jG a h)
def gT {S : Type} (a : S → aN → Option (S × Bool)) (b : List aN) (c : S) : Option (S × Bool) :=
  dD a b (b.length : Int) BIG 0 c
def kX (a : List aN) : Option ((List aN)) :=
  (gT (S := (List aN)) (fun b c =>
  (app 40 b ([c])).bind fun d =>
  some (d, true)) a ([] : List aN)).bind fun e =>
  bif e.2 then (some e.1)
  else (none)
def jV (a : List aN) : Option ((List aN)) :=
  (kX a).bind fun b =>
  some b
def oD (x : List aN) (a : aN → aN → Option Int) : Option (List aN) := uA x a
def iU (a : List aN) (b : aN → aN → Option Int) : Option ((List aN)) :=
  (jV a).bind fun c =>
  (oD c b).bind fun d =>
  some d
def eX (a : aN) (b : aN) : Option Int :=
  (lD ([w64 (a.Hour - b.Hour), w64 (a.Id - b.Id)])).bind fun c =>
  some c
def nE (_ : Int → (List aN) → Option ((List aN))) (a : Int) (b : List aN) : Option ((List aN)) :=
  (chk (decide (0 ≤ a) && decide (a ≤ (b.length : Int)))).bind fun _ =>
  (chk (decide (a.toNat ≤ b.length))).bind fun _ =>
  (chk (decide (0 ≤ a))).bind fun _ =>
  some (b.take a.toNat)
def eF (a : Int → (List aN) → Option ((List aN))) (b : Int) : Nat → Int → Int → (List aN) → Option ((List aN))
 | 0, _, _, _ => none
 | f + 1, g, h, i =>
  bif decide (h < ((i.drop b.toNat).length : Int)) then ((idx (i.drop b.toNat) h).bind fun c =>
  (idx (i.drop b.toNat) (w64 (h - 1))).bind fun d =>
  bif !decide (c = d) then ((idx (i.drop b.toNat) h).bind fun e =>
  (idx i g).bind fun _ =>
  (eF a b f) (w64 (g + 1)) (w64 (h + 1)) (i.set g.toNat e))
  else ((eF a b f) g (w64 (h + 1)) i))
  else (nE a g i)
def nD (a : Int → (List aN) → Option ((List aN))) (b : Int) (c : List aN) : Option ((List aN)) :=
  a (w64 (b + 1)) c
def nC (a : List aN) : Option ((List aN)) :=
  some a
def dH : Nat → Int → (List aN) → Option ((List aN))
 | 0, _, _ => none
 | c + 1, d, e =>
  bif decide (d < (e.length : Int)) then ((idx e d).bind fun a =>
  (idx e (w64 (d - 1))).bind fun b =>
  bif decide (a = b) then ((chk (decide (0 ≤ d) && decide (d ≤ (e.length : Int)))).bind fun _ =>
  eF (dH c) d BIG d 1 e)
  else (nD (dH c) d e))
  else (nC e)
def iJ (a : List aN) : Option ((List aN)) :=
  bif decide ((a.length : Int) < 2) then (some a)
  else (dH BIG 1 a)
def iO (a : aO) : Option Int :=
  some (w64 (a.Field.Places + a.more))
def rA (a : Int) : Option Int :=
  some a
def hZ (a : aO) (b : List Int) (c : Int) : Nat → Int → Int → Option Int
 | 0, _, _ => none
 | e + 1, f, g =>
  bif decide (g < c) then ((idx b g).bind fun d =>
  bif (aH d (aA.mk false false 0 0 false false false false) a.players).guard then ((hZ a b c e) (w64 (f + 1)) (w64 (g + 1)))
  else ((hZ a b c e) f (w64 (g + 1))))
  else (rA f)
def mK (a : aO) (b : List Int) : Option Int :=
  hZ a b (b.length : Int) BIG 0 0
def iA (a : List (Int × aA)) (b : Int) : Option Bool :=
  (bif (aH b (aA.mk false false 0 0 false false false false) a).entered then (some (!((aH b (aA.mk false false 0 0 false false false false) a).quit))) else (some false)).bind fun c =>
  (bif c then (some (!((aH b (aA.mk false false 0 0 false false false false) a).had))) else (some false)).bind fun d =>
  some d
def sC (x : List Int) (a : Int → Int → Option Int) : Option (List Int) := uA x a
def jL (a : aA) : Option Int :=
  bif decide (a.rank = 0) then (some 1)
  else (some 0)
def eY (a : Int) (b : Int) (c : aO) : Option Int :=
  (jL (aH a (aA.mk false false 0 0 false false false false) c.players)).bind fun d =>
  (jL (aH b (aA.mk false false 0 0 false false false false) c.players)).bind fun e =>
  (lD ([w64 (d - e), w64 (((aH a (aA.mk false false 0 0 false false false false) c.players).rank) - ((aH b (aA.mk false false 0 0 false false false false) c.players).rank)), w64 (((aH a (aA.mk false false 0 0 false false false false) c.players).turn) - ((aH b (aA.mk false false 0 0 false false false false) c.players).turn))])).bind fun f =>
  some f
def nV (a : ((List Int)) → Prop) (b : aO) (c : List Int) : Prop :=
  nb (sC c (fun d e => eY d e b)) fun f =>
  a f
def iR (a : ((List Int)) → Prop) (b : aO) : Nat → (List Int) → (List (Int × aA)) → Prop
 | 0, _, _ => False
 | g + 1, h, i =>
  aQq i (nV a b h)
  (fun c d =>
  nb (iA b.players c.1) fun e =>
  bif e then (nb (app 8 h ([c.1])) fun f =>
  (iR a b g) f d)
  else ((iR a b g) h d))
def pO (a : aO) (Q : ((List Int)) → Prop) : Prop :=
  aIp a.players fun b =>
  iR Q a BIG ([] : List Int) b
def gG (l : aO) : Option (List Int) := if l.players.length < 4294967296 then uA ((l.players.filter fun p => (iA l.players p.1).getD false).map Prod.fst) (fun a b => eY a b l) else none
def rB (a : List Int) : Option ((List Int)) :=
  some a
def iB (a : aO) (b : List Int) (c : Int) : Nat → Int → (List Int) → Option ((List Int))
 | 0, _, _ => none
 | j + 1, k, l =>
  bif decide (k < c) then ((idx b k).bind fun d =>
  (iO a).bind fun e =>
  (bif decide ((l.length : Int) < e) then ((bif !((aH d (aA.mk false false 0 0 false false false false) a.players).guard) then (some true) else ((mK a l).bind fun f =>
  some (decide (f < a.Field.Guards)))).bind fun g =>
  some g) else (some false)).bind fun h =>
  bif h then ((app 8 l ([d])).bind fun i =>
  (iB a b c j) (w64 (k + 1)) i)
  else ((iB a b c j) (w64 (k + 1)) l))
  else (rB l)
def mL (a : aO) : Option ((List Int)) :=
  (gG a).bind fun b =>
  iB a b (b.length : Int) BIG 0 ([] : List Int)
def mJ (a : aO) : Option aO :=
  bif !a.frozen then ((mL a).bind fun b =>
  some (aO.mk a.Field a.players a.wilds true b a.late a.more a.entered))
  else (some a)
def pJ : Option Int :=
  some (-1)
def gX (a : List Int) (b : Int → Option Bool) (c : Int) : Nat → Int → Option Int
 | 0, _ => none
 | f + 1, g =>
  bif decide (g < c) then ((idx a g).bind fun d =>
  (b d).bind fun e =>
  bif e then (some g)
  else ((gX a b c f) (w64 (g + 1))))
  else (pJ)
def jF (a : List Int) (b : Int → Option Bool) : Option Int :=
  gX a b (a.length : Int) BIG 0
def pE (a : Int) (b : List Int) : Option ((List Int)) :=
  (chk (decide (0 ≤ a) && decide (a ≤ (b.length : Int)))).bind fun _ =>
  (chk (decide (a.toNat ≤ b.length))).bind fun _ =>
  (chk (decide (0 ≤ a))).bind fun _ =>
  some (b.take a.toNat)
def fE (a : Int → Option Bool) : Nat → Int → Int → (List Int) → Option ((List Int))
 | 0, _, _, _ => none
 | d + 1, e, f, g =>
  bif decide (f < (g.length : Int)) then ((idx g f).bind fun b =>
  (a b).bind fun c =>
  bif !c then ((idx g e).bind fun _ =>
  (fE a d) (w64 (e + 1)) (w64 (f + 1)) (g.set e.toNat b))
  else ((fE a d) e (w64 (f + 1)) g))
  else (pE e g)
def dE (a : List Int) (b : Int → Option Bool) : Option ((List Int)) :=
  (jF a b).bind fun c =>
  bif decide (c = (-1)) then (some a)
  else (fE b BIG c (w64 (c + 1)) a)
def fV (a : Int) (b : aN) : Option Bool :=
  some (decide (a = b.Player))
def lX (a : aO) (b : aN) : Option aO :=
  bif decide (b.Kind = 1) then (bif decide (b.Kind = 1) then ((bif decide (b.Hour ≤ a.Field.Close) then (some (!((aH b.Player (aA.mk false false 0 0 false false false false) a.players).entered))) else (some false)).bind fun c =>
  bif c then (some (aO.mk a.Field (dS b.Player (aA.mk true (decide (b.Kind = 2)) b.Rank (w64 (a.entered + 1)) ((aH b.Player (aA.mk false false 0 0 false false false false) a.players).quit) ((aH b.Player (aA.mk false false 0 0 false false false false) a.players).signed) ((aH b.Player (aA.mk false false 0 0 false false false false) a.players).wild) ((aH b.Player (aA.mk false false 0 0 false false false false) a.players).had)) a.players) a.wilds a.frozen a.first a.late a.more (w64 (a.entered + 1))))
  else (some (aO.mk a.Field (dS b.Player (aH b.Player (aA.mk false false 0 0 false false false false) a.players) a.players) a.wilds a.frozen a.first a.late a.more a.entered)))
  else (bif decide (b.Kind = 3) then ((bif decide (b.Hour ≤ a.Field.Freeze) then (some (!((aH b.Player (aA.mk false false 0 0 false false false false) a.players).wild))) else (some false)).bind fun d =>
  (bif d then (some (!((aH b.Player (aA.mk false false 0 0 false false false false) a.players).quit))) else (some false)).bind fun e =>
  (bif e then (some (decide ((a.wilds.length : Int) < a.Field.Wilds))) else (some false)).bind fun f =>
  bif f then ((app 8 a.wilds ([b.Player])).bind fun g =>
  some (aO.mk a.Field (dS b.Player (aA.mk ((aH b.Player (aA.mk false false 0 0 false false false false) a.players).entered) ((aH b.Player (aA.mk false false 0 0 false false false false) a.players).guard) ((aH b.Player (aA.mk false false 0 0 false false false false) a.players).rank) ((aH b.Player (aA.mk false false 0 0 false false false false) a.players).turn) ((aH b.Player (aA.mk false false 0 0 false false false false) a.players).quit) ((aH b.Player (aA.mk false false 0 0 false false false false) a.players).signed) true true) a.players) g a.frozen a.first a.late a.more a.entered))
  else (some (aO.mk a.Field (dS b.Player (aH b.Player (aA.mk false false 0 0 false false false false) a.players) a.players) a.wilds a.frozen a.first a.late a.more a.entered)))
  else (bif decide (b.Kind = 4) then ((bif (aH b.Player (aA.mk false false 0 0 false false false false) a.players).wild then (some (decide (a.Field.Freeze < b.Hour))) else (some false)).bind fun h =>
  bif h then ((dE a.wilds (fun i => fV i b)).bind fun j =>
  some (aO.mk a.Field (dS b.Player (aA.mk ((aH b.Player (aA.mk false false 0 0 false false false false) a.players).entered) ((aH b.Player (aA.mk false false 0 0 false false false false) a.players).guard) ((aH b.Player (aA.mk false false 0 0 false false false false) a.players).rank) ((aH b.Player (aA.mk false false 0 0 false false false false) a.players).turn) true ((aH b.Player (aA.mk false false 0 0 false false false false) a.players).signed) false ((aH b.Player (aA.mk false false 0 0 false false false false) a.players).had)) a.players) j a.frozen a.first a.late (w64 (a.more + 1)) a.entered))
  else ((dE a.wilds (fun k => fV k b)).bind fun l =>
  some (aO.mk a.Field (dS b.Player (aA.mk ((aH b.Player (aA.mk false false 0 0 false false false false) a.players).entered) ((aH b.Player (aA.mk false false 0 0 false false false false) a.players).guard) ((aH b.Player (aA.mk false false 0 0 false false false false) a.players).rank) ((aH b.Player (aA.mk false false 0 0 false false false false) a.players).turn) true ((aH b.Player (aA.mk false false 0 0 false false false false) a.players).signed) false ((aH b.Player (aA.mk false false 0 0 false false false false) a.players).had)) a.players) l a.frozen a.first a.late a.more a.entered)))
  else (bif decide (b.Kind = 5) then (some (aO.mk a.Field (dS b.Player (aA.mk ((aH b.Player (aA.mk false false 0 0 false false false false) a.players).entered) ((aH b.Player (aA.mk false false 0 0 false false false false) a.players).guard) ((aH b.Player (aA.mk false false 0 0 false false false false) a.players).rank) ((aH b.Player (aA.mk false false 0 0 false false false false) a.players).turn) ((aH b.Player (aA.mk false false 0 0 false false false false) a.players).quit) true ((aH b.Player (aA.mk false false 0 0 false false false false) a.players).wild) ((aH b.Player (aA.mk false false 0 0 false false false false) a.players).had)) a.players) a.wilds a.frozen a.first a.late a.more a.entered))
  else (some (aO.mk a.Field (dS b.Player (aH b.Player (aA.mk false false 0 0 false false false false) a.players) a.players) a.wilds a.frozen a.first a.late a.more a.entered))))))
  else (bif decide (b.Kind = 2) then ((bif decide (b.Hour ≤ a.Field.Close) then (some (!((aH b.Player (aA.mk false false 0 0 false false false false) a.players).entered))) else (some false)).bind fun m =>
  bif m then (some (aO.mk a.Field (dS b.Player (aA.mk true (decide (b.Kind = 2)) b.Rank (w64 (a.entered + 1)) ((aH b.Player (aA.mk false false 0 0 false false false false) a.players).quit) ((aH b.Player (aA.mk false false 0 0 false false false false) a.players).signed) ((aH b.Player (aA.mk false false 0 0 false false false false) a.players).wild) ((aH b.Player (aA.mk false false 0 0 false false false false) a.players).had)) a.players) a.wilds a.frozen a.first a.late a.more (w64 (a.entered + 1))))
  else (some (aO.mk a.Field (dS b.Player (aH b.Player (aA.mk false false 0 0 false false false false) a.players) a.players) a.wilds a.frozen a.first a.late a.more a.entered)))
  else (bif decide (b.Kind = 3) then ((bif decide (b.Hour ≤ a.Field.Freeze) then (some (!((aH b.Player (aA.mk false false 0 0 false false false false) a.players).wild))) else (some false)).bind fun n =>
  (bif n then (some (!((aH b.Player (aA.mk false false 0 0 false false false false) a.players).quit))) else (some false)).bind fun o =>
  (bif o then (some (decide ((a.wilds.length : Int) < a.Field.Wilds))) else (some false)).bind fun p =>
  bif p then ((app 8 a.wilds ([b.Player])).bind fun q =>
  some (aO.mk a.Field (dS b.Player (aA.mk ((aH b.Player (aA.mk false false 0 0 false false false false) a.players).entered) ((aH b.Player (aA.mk false false 0 0 false false false false) a.players).guard) ((aH b.Player (aA.mk false false 0 0 false false false false) a.players).rank) ((aH b.Player (aA.mk false false 0 0 false false false false) a.players).turn) ((aH b.Player (aA.mk false false 0 0 false false false false) a.players).quit) ((aH b.Player (aA.mk false false 0 0 false false false false) a.players).signed) true true) a.players) q a.frozen a.first a.late a.more a.entered))
  else (some (aO.mk a.Field (dS b.Player (aH b.Player (aA.mk false false 0 0 false false false false) a.players) a.players) a.wilds a.frozen a.first a.late a.more a.entered)))
  else (bif decide (b.Kind = 4) then ((bif (aH b.Player (aA.mk false false 0 0 false false false false) a.players).wild then (some (decide (a.Field.Freeze < b.Hour))) else (some false)).bind fun r =>
  bif r then ((dE a.wilds (fun s => fV s b)).bind fun t =>
  some (aO.mk a.Field (dS b.Player (aA.mk ((aH b.Player (aA.mk false false 0 0 false false false false) a.players).entered) ((aH b.Player (aA.mk false false 0 0 false false false false) a.players).guard) ((aH b.Player (aA.mk false false 0 0 false false false false) a.players).rank) ((aH b.Player (aA.mk false false 0 0 false false false false) a.players).turn) true ((aH b.Player (aA.mk false false 0 0 false false false false) a.players).signed) false ((aH b.Player (aA.mk false false 0 0 false false false false) a.players).had)) a.players) t a.frozen a.first a.late (w64 (a.more + 1)) a.entered))
  else ((dE a.wilds (fun u => fV u b)).bind fun v =>
  some (aO.mk a.Field (dS b.Player (aA.mk ((aH b.Player (aA.mk false false 0 0 false false false false) a.players).entered) ((aH b.Player (aA.mk false false 0 0 false false false false) a.players).guard) ((aH b.Player (aA.mk false false 0 0 false false false false) a.players).rank) ((aH b.Player (aA.mk false false 0 0 false false false false) a.players).turn) true ((aH b.Player (aA.mk false false 0 0 false false false false) a.players).signed) false ((aH b.Player (aA.mk false false 0 0 false false false false) a.players).had)) a.players) v a.frozen a.first a.late a.more a.entered)))
  else (bif decide (b.Kind = 5) then (some (aO.mk a.Field (dS b.Player (aA.mk ((aH b.Player (aA.mk false false 0 0 false false false false) a.players).entered) ((aH b.Player (aA.mk false false 0 0 false false false false) a.players).guard) ((aH b.Player (aA.mk false false 0 0 false false false false) a.players).rank) ((aH b.Player (aA.mk false false 0 0 false false false false) a.players).turn) ((aH b.Player (aA.mk false false 0 0 false false false false) a.players).quit) true ((aH b.Player (aA.mk false false 0 0 false false false false) a.players).wild) ((aH b.Player (aA.mk false false 0 0 false false false false) a.players).had)) a.players) a.wilds a.frozen a.first a.late a.more a.entered))
  else (some (aO.mk a.Field (dS b.Player (aH b.Player (aA.mk false false 0 0 false false false false) a.players) a.players) a.wilds a.frozen a.first a.late a.more a.entered))))))
def gR (a : Int) (b : List (Int × aA)) : Option Bool :=
  (iA b a).bind fun c =>
  some (!c)
def pZ (a : Int) : Option ((List Int)) :=
  bif decide (a < 0) then (none)
  else (bif decide (0 < (w64 (a - (w64 (0 - 0))))) then ((chk (decide (0 ≤ 0))).bind fun _ =>
  (chk (decide (0 < (w64 (a - (w64 (0 - 0))))) && decide ((w64 (a - (w64 (0 - 0)))) * ((8 : Nat) : Int) ≤ 140737488355328))).bind fun _ =>
  (chk (decide (0 ≤ 0))).bind fun _ =>
  some ([] : List Int))
  else (some ([] : List Int)))
def vH (a : List Int) : Option ((List Int)) :=
  some a
def iD (a : List (List Int)) (b : Int) : Nat → Int → (List Int) → Option ((List Int))
 | 0, _, _ => none
 | e + 1, f, g =>
  bif decide (f < b) then ((idx a f).bind fun c =>
  (app 8 g c).bind fun d =>
  (iD a b e) (w64 (f + 1)) d)
  else (vH g)
def rG (a : List (List Int)) (b : Int) : Option ((List Int)) :=
  (pZ b).bind fun c =>
  iD a (a.length : Int) BIG 0 c
def jE (a : List (List Int)) (b : List (List Int)) (c : Int) : Nat → Int → Int → Option ((List Int))
 | 0, _, _ => none
 | e + 1, f, g =>
  bif decide (g < c) then ((idx b g).bind fun d =>
  bif decide ((w64 (f + (d.length : Int))) < 0) then (none)
  else ((jE a b c e) (w64 (f + (d.length : Int))) (w64 (g + 1))))
  else (rG a f)
def oI (a : List (List Int)) : Option ((List Int)) :=
  jE a a (a.length : Int) BIG 0 0
def fH (a : aO) : Option ((List Int)) :=
  bif !a.frozen then ((mL a).bind fun b =>
  some b)
  else ((oI ([a.first, a.late])).bind fun c =>
  some c)
def mY : Option Int :=
  some (-1)
def eB (a : List Int) (b : Int) (c : Int) : Nat → Int → Option Int
 | 0, _ => none
 | e + 1, f =>
  bif decide (f < c) then ((idx a f).bind fun d =>
  bif decide (b = d) then (some f)
  else ((eB a b c e) (w64 (f + 1))))
  else (mY)
def iH (a : List Int) (b : Int) : Option Int :=
  eB a b (a.length : Int) BIG 0
def fO (a : List Int) (b : Int) : Option Bool :=
  (iH a b).bind fun c =>
  some (decide (0 ≤ c))
def mI (a : Int) (b : aO) (c : List Int) : Option Bool :=
  (bif (aH a (aA.mk false false 0 0 false false false false) b.players).signed then ((fO c a).bind fun d =>
  some (!d)) else (some false)).bind fun e =>
  (bif e then ((bif !((aH a (aA.mk false false 0 0 false false false false) b.players).guard) then (some true) else ((mK b c).bind fun f =>
  some (decide (f < b.Field.Guards)))).bind fun g =>
  some g) else (some false)).bind fun h =>
  some h
def pP (a : List (Int × aA)) (b : List Int) (c : List Int) (d : List Int) (e : bE) (f : Bool) (g : Int) (h : Int) : Option aO :=
  some (aO.mk e a b f c d g h)
def kB (a : List (Int × aA)) (b : List Int) (c : List Int) : Nat → (List Int) → bE → Bool → Int → Int → (List Int) → Option aO
 | 0, _, _, _, _, _, _ => none
 | l + 1, m, n, o, p, q, r =>
  (iO (aO.mk n a b o c m p q)).bind fun d =>
  bif decide ((r.length : Int) < d) then ((gG (aO.mk n a b o c m p q)).bind fun e =>
  (jF e (fun f => mI f (aO.mk n a b o c m p q) r)).bind fun g =>
  bif decide (g < 0) then (some (aO.mk n a b o c m p q))
  else ((gG (aO.mk n a b o c m p q)).bind fun h =>
  (idx h g).bind fun i =>
  (app 8 m ([i])).bind fun j =>
  (fH (aO.mk n a b o c j p q)).bind fun k =>
  (kB a b c l) j n o p q k))
  else (pP a b c m n o p q)
def lW (a : aO) : Option aO :=
  (dE a.first (fun b => gR b a.players)).bind fun c =>
  (dE a.late (fun d => gR d a.players)).bind fun e =>
  (fH (aO.mk a.Field a.players a.wilds a.frozen c e a.more a.entered)).bind fun f =>
  kB a.players a.wilds c BIG e a.Field a.frozen a.more a.entered f
def oP (a : Int) (b : bE) (c : List (Int × aA)) (d : List Int) (e : List Int) (f : List Int) (g : bE) (h : Bool) (i : Int) (j : Int) : Option ((Option aO)) :=
  bif decide (b.Freeze < a) then ((mJ (aO.mk g c d h e f i j)).bind fun k =>
  some (some k))
  else (some (some (aO.mk g c d h e f i j)))
def gZ (a : Int) (b : Int) (c : bE) (d : List aN) : Nat → Int → (List (Int × aA)) → (List Int) → (List Int) → (List Int) → bE → Bool → Int → Int → Option ((Option aO))
 | 0, _, _, _, _, _, _, _, _, _ => none
 | k + 1, l, m, n, o, p, q, r, s, t =>
  bif decide (l < b) then ((idx d l).bind fun e =>
  bif decide (a < e.Hour) then (oP a c m n o p q r s t)
  else (bif decide (c.Freeze < e.Hour) then ((mJ (aO.mk q m n r o p s t)).bind fun f =>
  (lX f e).bind fun g =>
  bif g.frozen then ((lW g).bind fun h =>
  (gZ a b c d k) (w64 (l + 1)) h.players h.wilds h.first h.late h.Field h.frozen h.more h.entered)
  else ((gZ a b c d k) (w64 (l + 1)) g.players g.wilds g.first g.late g.Field g.frozen g.more g.entered))
  else ((lX (aO.mk q m n r o p s t) e).bind fun i =>
  bif i.frozen then ((lW i).bind fun j =>
  (gZ a b c d k) (w64 (l + 1)) j.players j.wilds j.first j.late j.Field j.frozen j.more j.entered)
  else ((gZ a b c d k) (w64 (l + 1)) i.players i.wilds i.first i.late i.Field i.frozen i.more i.entered))))
  else (oP a c m n o p q r s t)
def tL (a : bE) (b : List aN) (c : Int) : Option ((Option aO)) :=
  (mF b).bind fun _ =>
  (iU b (fun d e => eX d e)).bind fun f =>
  (iJ f).bind fun g =>
  gZ c (g.length : Int) a g BIG 0 ([] : List (Int × aA)) ([] : List Int) ([] : List Int) ([] : List Int) a false 0 0
def sW (a : bE) (b : List aN) (c : Int) (d : Int) : Option ((Option aO) × Int) :=
  (tK a b).bind fun e =>
  bif !decide (e = 0) then (some ((none : Option aO), e))
  else ((cN c 0 9999).bind fun f =>
  (bif !f then (some true) else ((cN d 0 999).bind fun g =>
  some (!g))).bind fun h =>
  bif h then (some ((none : Option aO), 1))
  else ((tL a b c).bind fun i =>
  some (i, 0)))
def oX (a : Int) (b : List Int) : Option Bool :=
  (fO b a).bind fun c =>
  some c
def qO (a : aO) : Option ((List Int)) :=
  (fH a).bind fun b =>
  (gG a).bind fun c =>
  (dE c (fun d => oX d b)).bind fun e =>
  some e
def qZ (a : bE) (b : List aN) (c : Int) : Option (eR × Int) :=
  (sW a b c 0).bind fun d =>
  bif !decide (d.2 = 0) then (some ((eR.mk ([] : List Int) ([] : List Int) ([] : List Int) 0), d.2))
  else ((d.1).bind fun e =>
  (fH e).bind fun f =>
  (d.1).bind fun g =>
  (qO g).bind fun h =>
  (iO g).bind fun i =>
  some ((eR.mk f g.wilds h (w64 (i - (f.length : Int)))), 0))
def jD : Option Bool :=
  (nJ).bind fun a =>
  (qW a 40).bind fun b =>
  (lM).bind fun c =>
  (qZ c.1 c.2 12).bind fun d =>
  (bif decide (b.2 = 0) then (some (decide (d.2 = 0))) else (some false)).bind fun e =>
  (bif e then (some (decide ((b.1.length : Int) = 3))) else (some false)).bind fun f =>
  (bif f then ((idx b.1 1).bind fun g =>
  some (decide (g = 2))) else (some false)).bind fun h =>
  (bif h then (some (decide ((d.1.Main.length : Int) = 3))) else (some false)).bind fun i =>
  (bif i then ((idx d.1.Main 2).bind fun j =>
  some (decide (j = 5))) else (some false)).bind fun k =>
  some k
def uB : Option Bool :=
  some false
def lH (a : List Int) (b : Int) : Nat → Int → Option Bool
 | 0, _ => none
 | d + 1, e =>
  bif decide (e < (a.length : Int)) then ((idx a e).bind fun c =>
  bif decide (c = b) then (some true)
  else ((lH a b d) (w64 (e + 1))))
  else (uB)
def nZ (a : List Int) (b : Int) : Option Bool :=
  lH a b BIG 0
def pS (a : dF) (b : Int) (c : Int) : Option Int :=
  (jN a c).bind fun d =>
  (iH d b).bind fun e =>
  some (w64 (e + 1))
def sZ (a : aU) (b : Int) (c : Int) : Option (Int × Int) :=
  (wE a b c).bind fun d =>
  aDu d.1 (bif !decide (d.2 = 0) then (some (0, d.2))
  else (none)) fun e =>
  bif !decide (d.2 = 0) then (some (0, d.2))
  else ((pS e b c).bind fun f =>
  bif decide (f = 0) then (some (0, 3))
  else (some (f, 0)))
def mX (_ : List Int) : Option Unit :=
  some ()
def qS {S : Type} (_ : S → Int → Int → Option (S × Bool)) (a : S) : Option (S × Bool) :=
  some (a, true)
def gF {S : Type} (a : S → Int → Int → Option (S × Bool)) (b : List Int) : Nat → Int → S → Option (S × Bool)
 | 0, _, _ => none
 | e + 1, f, g =>
  bif decide (0 ≤ f) then ((idx b f).bind fun c =>
  (a g f c).bind fun d =>
  bif !d.2 then (some d)
  else ((gF a b e) (w64 (f - 1)) d.1))
  else (qS a g)
def iI {S : Type} (a : S → Int → Int → Option (S × Bool)) (b : List Int) (c : S) : Option (S × Bool) :=
  gF a b BIG (w64 ((b.length : Int) - 1)) c
def wT (a : bE) (b : List aN) (c : Int) : Option (Int × Int) :=
  (sW a b c 0).bind fun d =>
  bif !decide (d.2 = 0) then (some (0, d.2))
  else ((d.1).bind fun e =>
  (fH e).bind fun f =>
  (d.1).bind fun g =>
  (gG g).bind fun h =>
  (mX h).bind fun _ =>
  (iI (S := Int × Int) (fun i _ j =>
  (d.1).bind fun k =>
  (bif !((aH j (aA.mk false false 0 0 false false false false) k.players).guard) then ((fO f j).bind fun l =>
  some l) else (some false)).bind fun m =>
  bif m then (some (((aH j (aA.mk false false 0 0 false false false false) k.players).rank, 0), false))
  else (some ((i.1, i.2), true))) h (0, 0)).bind fun n =>
  bif n.2 then (some (0, 3))
  else (some (n.1.1, n.1.2)))
def nU (a : List aN) (b : aU) (c : bE) (d : eJ) (e : eR) : Option Bool :=
  (wT c a c.Close).bind fun f =>
  bif decide ((e.Main.length : Int) = 0) then ((bif decide (f.2 = 3) then ((jD).bind fun g =>
  some g) else (some false)).bind fun h =>
  some h)
  else ((idx e.Main (w64 ((e.Main.length : Int) - 1))).bind fun i =>
  (sZ b i d.Week).bind fun j =>
  bif decide (j.2 = 3) then ((bif decide (f.2 = 0) then (some (decide (f.1 = 0))) else (some false)).bind fun k =>
  (bif k then ((jD).bind fun l =>
  some l) else (some false)).bind fun m =>
  some m)
  else ((bif decide (f.2 = 0) then (some (decide (f.1 = j.1))) else (some false)).bind fun n =>
  (bif n then ((jD).bind fun o =>
  some o) else (some false)).bind fun p =>
  some p))
def iQ (a : List aN) (b : List Int) (c : aU) (d : bE) (e : eJ) (f : eR) (g : List Int) : Nat → Int → Option Bool
 | 0, _ => none
 | j + 1, k =>
  bif decide (k < (b.length : Int)) then ((idx b k).bind fun h =>
  (idx g k).bind fun i =>
  bif !decide (h = i) then (some false)
  else ((iQ a b c d e f g j) (w64 (k + 1))))
  else (nU a c d e f)
def nT (a : List aN) (b : aU) (c : bE) (d : eJ) (e : eR) (f : List Int) : Option Bool :=
  (app 8 ([] : List Int) e.Main).bind fun g =>
  (app 8 g e.Out).bind fun h =>
  (bif !decide ((h.length : Int) = (f.length : Int)) then (some true) else (some (!decide ((e.Main.length : Int) = (min c.Places (f.length : Int)))))).bind fun i =>
  (bif i then (some true) else (some (decide (0 < (e.Wilds.length : Int))))).bind fun j =>
  (bif j then (some true) else (some (!decide (e.Open = (w64 (c.Places - (e.Main.length : Int))))))).bind fun k =>
  bif k then (some false)
  else (iQ a h b c d e f BIG 0)
def gO (a : List aN) (b : List Int) (c : aU) (d : bE) (e : eJ) (f : eR) : Nat → Int → (List Int) → Option Bool
 | 0, _, _ => none
 | k + 1, l, m =>
  bif decide (l < (e.Players.length : Int)) then ((idx e.Players l).bind fun g =>
  (nZ b g).bind fun h =>
  bif !h then ((idx e.Players l).bind fun i =>
  (app 8 m ([i])).bind fun j =>
  (gO a b c d e f k) (w64 (l + 1)) j)
  else ((gO a b c d e f k) (w64 (l + 1)) m))
  else (nT a c d e f m)
def nS (a : List aN) (b : List Int) (c : aU) (d : bE) (e : eJ) (f : eR) (g : List Int) : Option Bool :=
  gO a b c d e f BIG 0 g
def gN (a : List aN) (b : List Int) (c : aU) (d : bE) (e : eJ) (f : eR) : Nat → Int → (List Int) → Option Bool
 | 0, _, _ => none
 | k + 1, l, m =>
  bif decide (l < (b.length : Int)) then ((idx b l).bind fun g =>
  (nZ e.Players g).bind fun h =>
  bif h then ((idx b l).bind fun i =>
  (app 8 m ([i])).bind fun j =>
  (gN a b c d e f k) (w64 (l + 1)) j)
  else ((gN a b c d e f k) (w64 (l + 1)) m))
  else (nS a b c d e f m)
def nR (a : aU) (b : bE) (c : eJ) (d : List aN) : Option Bool :=
  (qW a c.Week).bind fun e =>
  (qZ b d b.Close).bind fun f =>
  (bif !decide (e.2 = 0) then (some true) else (some (!decide (f.2 = 0)))).bind fun g =>
  bif g then (some false)
  else (gN d e.1 a b c f.1 BIG 0 ([] : List Int))
def fG (a : aU) (b : bE) (c : eJ) : Nat → Int → (List aN) → Option Bool
 | 0, _, _ => none
 | t + 1, u, v =>
  bif decide (u < (c.Players.length : Int)) then ((idx c.Players u).bind fun d =>
  (bif decide (d < 0) then (some true) else ((idx c.Players u).bind fun e =>
  some (decide (a.Players ≤ e)))).bind fun f =>
  (bif f then (some true) else ((sub c.Players 0 u).bind fun g =>
  (idx c.Players u).bind fun h =>
  (nZ g h).bind fun i =>
  some i)).bind fun j =>
  bif j then ((jD).bind fun k =>
  some k)
  else ((idx c.Players u).bind fun l =>
  (sZ a l c.Week).bind fun m =>
  bif decide (m.2 = 3) then ((idx c.Players u).bind fun n =>
  (app 40 v ([(aN.mk u 0 1 n 0)])).bind fun o =>
  (fG a b c t) (w64 (u + 1)) o)
  else ((bif !decide (m.2 = 0) then (some true) else (some (decide (m.1 < 1)))).bind fun p =>
  (bif p then (some true) else (some (decide (a.Players < m.1)))).bind fun q =>
  bif q then (some false)
  else ((idx c.Players u).bind fun r =>
  (app 40 v ([(aN.mk u 0 1 r m.1)])).bind fun s =>
  (fG a b c t) (w64 (u + 1)) s))))
  else (nR a b c v)
def pM (a : aU) (b : bE) (c : eJ) : Option Bool :=
  (kJ a).bind fun d =>
  (bif d then (some true) else ((mZ a).bind fun e =>
  some (!decide (e = 0)))).bind fun f =>
  (bif f then (some true) else (some (decide (c.Week < 0)))).bind fun g =>
  (bif g then (some true) else (some (decide (250 < c.Week)))).bind fun h =>
  (bif h then (some true) else (some (decide (10 < (c.Players.length : Int))))).bind fun i =>
  (bif i then (some true) else ((oW b ([] : List aN)).bind fun j =>
  some (!decide (j = 0)))).bind fun k =>
  bif k then ((jD).bind fun l =>
  some l)
  else (fG a b c BIG 0 ([] : List aN))
end Go.Am
