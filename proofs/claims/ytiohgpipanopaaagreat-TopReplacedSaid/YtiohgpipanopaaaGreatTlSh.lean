/- Shallow functions, printed by program. -/
import Derived.Test.YtiohgpipanopaaaGreatTaSh
import Derived.Test.YtiohgpipanopaaaGreatAmNd
import Derived.Test.YtiohgpipanopaaaGreatAmSort
import Derived.Test.YtiohgpipanopaaaGreatAmBox
import Derived.Test.YtiohgpipanopaaaGreatAmSortF0
namespace Go.Am
structure aP where
 Player : Int
 Nation : Int
 Qualified : Bool
 deriving DecidableEq, Inhabited
def aL (x : aP) : List D := [.lit (.int .i64 x.Player), .lit (.int .i64 x.Nation), .lit (.bool x.Qualified)]
def aFr (x : List aP) : List D := [.sl 3 (x.map aL)]
structure aU where
 Size : Int
 Seeds : Int
 Persons : List aP
 Lots : List Int
 deriving DecidableEq, Inhabited
def aK (x : aU) : List D := [.lit (.int .i64 x.Size), .lit (.int .i64 x.Seeds), .sl 3 (x.Persons.map aL), .sl 1 (x.Lots.map aG)]
structure aD where
 round : Int
 place : Int
 deriving DecidableEq, Inhabited
def aH (x : aD) : List D := [.lit (.int .i64 x.round), .lit (.int .i64 x.place)]
structure aX where
 Tree : aJ
 players : List Int
 won : List (aD × Int)
 deriving DecidableEq, Inhabited
def bA (x : aX) : List D := [.lit (.int .i64 x.Tree.Rounds), .sl 1 (x.Tree.Slots.map aG), .sl 1 (x.players.map aG), .mp false (x.won.map fun p : aD × Int => ((fun a : aD => Value.agg ((aH a).map bN).toArray) p.1, aG p.2))]
structure A3 (α : Type) where
 x0 : α
 x1 : α
 x2 : α
 deriving DecidableEq, Inhabited
def A3.at {α : Type} (a : A3 α) (p : Int) : α := if p = 0 then a.x0 else if p = 1 then a.x1 else a.x2
def A3.set {α : Type} (a : A3 α) (p : Int) (v : α) : A3 α := if p = 0 then { a with x0 := v } else if p = 1 then { a with x1 := v } else { a with x2 := v }
structure A6 (α : Type) where
 x0 : α
 x1 : α
 x2 : α
 x3 : α
 x4 : α
 x5 : α
 deriving DecidableEq, Inhabited
def A6.at {α : Type} (a : A6 α) (p : Int) : α := if p = 0 then a.x0 else if p = 1 then a.x1 else if p = 2 then a.x2 else if p = 3 then a.x3 else if p = 4 then a.x4 else a.x5
def A6.set {α : Type} (a : A6 α) (p : Int) (v : α) : A6 α := if p = 0 then { a with x0 := v } else if p = 1 then { a with x1 := v } else if p = 2 then { a with x2 := v } else if p = 3 then { a with x3 := v } else if p = 4 then { a with x4 := v } else { a with x5 := v }
structure eU where
 Sets : Int
 Games : Int
 NoAd : Bool
 Tie : Int
 To : Int
 LastTie : Int
 LastTo : Int
 First : Int
 Then : Int
 Doubles : Bool
 deriving DecidableEq, Inhabited
def cU (x : eU) : List D := [.lit (.int .i64 x.Sets), .lit (.int .i64 x.Games), .lit (.bool x.NoAd), .lit (.int .i64 x.Tie), .lit (.int .i64 x.To), .lit (.int .i64 x.LastTie), .lit (.int .i64 x.LastTo), .lit (.int .i64 x.First), .lit (.int .i64 x.Then), .lit (.bool x.Doubles)]
structure gI where
 Format : eU
 deriving DecidableEq, Inhabited
def cQ (x : gI) : List D := [.lit (.int .i64 x.Format.Sets), .lit (.int .i64 x.Format.Games), .lit (.bool x.Format.NoAd), .lit (.int .i64 x.Format.Tie), .lit (.int .i64 x.Format.To), .lit (.int .i64 x.Format.LastTie), .lit (.int .i64 x.Format.LastTo), .lit (.int .i64 x.Format.First), .lit (.int .i64 x.Format.Then), .lit (.bool x.Format.Doubles)]
structure bH where
 A : Int
 B : Int
 deriving DecidableEq, Inhabited
def aN (x : bH) : List D := [.lit (.int .i64 x.A), .lit (.int .i64 x.B)]
structure gA where
 tie : Int
 to : Int
 deriving DecidableEq, Inhabited
def cB (x : gA) : List D := [.lit (.int .i64 x.tie), .lit (.int .i64 x.to)]
structure dI where
 Sets : List bH
 Games : bH
 Points : bH
 deriving DecidableEq, Inhabited
structure cP where
 Board : dI
 Server : Int
 Ends : Int
 Balls : Int
 Winner : Int
 deriving DecidableEq, Inhabited
def jF (x : cP) : List D := [.sl 2 (x.Board.Sets.map aN), .lit (.int .i64 x.Board.Games.A), .lit (.int .i64 x.Board.Games.B), .lit (.int .i64 x.Board.Points.A), .lit (.int .i64 x.Board.Points.B), .lit (.int .i64 x.Server), .lit (.int .i64 x.Ends), .lit (.int .i64 x.Balls), .lit (.int .i64 x.Winner)]
structure mV where
 Set : Int
 Tie : Bool
 Server : Int
 Winner : Int
 Points : bH
 Fresh : Bool
 deriving DecidableEq, Inhabited
def bD (x : mV) : List D := [.lit (.int .i64 x.Set), .lit (.bool x.Tie), .lit (.int .i64 x.Server), .lit (.int .i64 x.Winner), .lit (.int .i64 x.Points.A), .lit (.int .i64 x.Points.B), .lit (.bool x.Fresh)]
structure bL where
 rules : gI
 Score : cP
 first : Int
 won : bH
 ties : List Bool
 games : List mV
 deriving DecidableEq, Inhabited
def eG (x : bL) : List D := [.lit (.int .i64 x.rules.Format.Sets), .lit (.int .i64 x.rules.Format.Games), .lit (.bool x.rules.Format.NoAd), .lit (.int .i64 x.rules.Format.Tie), .lit (.int .i64 x.rules.Format.To), .lit (.int .i64 x.rules.Format.LastTie), .lit (.int .i64 x.rules.Format.LastTo), .lit (.int .i64 x.rules.Format.First), .lit (.int .i64 x.rules.Format.Then), .lit (.bool x.rules.Format.Doubles), .sl 2 (x.Score.Board.Sets.map aN), .lit (.int .i64 x.Score.Board.Games.A), .lit (.int .i64 x.Score.Board.Games.B), .lit (.int .i64 x.Score.Board.Points.A), .lit (.int .i64 x.Score.Board.Points.B), .lit (.int .i64 x.Score.Server), .lit (.int .i64 x.Score.Ends), .lit (.int .i64 x.Score.Balls), .lit (.int .i64 x.Score.Winner), .lit (.int .i64 x.first), .lit (.int .i64 x.won.A), .lit (.int .i64 x.won.B), .sl 1 (x.ties.map cL), .sl 7 (x.games.map bD)]
structure eX where
 Sheet : List Int
 Players : List Int
 Lucky : List Int
 deriving DecidableEq, Inhabited
def fC (x : eX) : List D := [.sl 1 (x.Sheet.map aG), .sl 1 (x.Players.map aG), .sl 1 (x.Lucky.map aG)]
def yG (x : aP) : Prop := okI x.Player ∧ okI x.Nation ∧ okB x.Qualified
def aIb (x : aU) : Prop := okI x.Size ∧ okI x.Seeds ∧ (okL yG) x.Persons ∧ (okL okI) x.Lots
def uT (x : eX) : Prop := (okL okI) x.Sheet ∧ (okL okI) x.Players ∧ (okL okI) x.Lucky
def eA (a : Int) (b : Int) (c : Int) : Option Bool :=
  (bif decide (b ≤ a) then (some (decide (a ≤ c))) else (some false)).bind fun d =>
  some d
def pP (a : Int → Option Int) (_ : Int) (b : Int) (_ : aU) : Option Int :=
  a (w64 (b + 1))
def pQ (a : Int → Option Int) (b : Int) (c : Int) (d : aU) : Option Int :=
  pP a b c d
def gC (a : Int → Option Int) (b : Int) (c : Int) (d : aU) (e : aP) : Nat → Int → Option Int
 | 0, _ => none
 | g + 1, h =>
  bif decide (h < c) then ((idx d.Persons h).bind fun f =>
  bif decide (f.Player = e.Player) then (some 60)
  else ((gC a b c d e g) (w64 (h + 1))))
  else (pQ a b c d)
def pR : Option Int :=
  some 0
def gD (a : aU) : Nat → Int → Option Int
 | 0, _ => none
 | d + 1, e =>
  bif decide (e < (a.Lots.length : Int)) then ((idx a.Lots e).bind fun b =>
  (eA b 0 999999).bind fun c =>
  bif !c then (some 60)
  else ((gD a d) (w64 (e + 1))))
  else (pR)
def mO (a : aU) : Option Int :=
  gD a BIG 0
def dV (a : Int) (b : aU) : Nat → Int → Option Int
 | 0, _ => none
 | i + 1, j =>
  bif decide (j < a) then ((idx b.Persons j).bind fun c =>
  (eA c.Player 0 999).bind fun d =>
  (bif !d then (some true) else ((eA c.Nation 0 9).bind fun e =>
  some (!e))).bind fun f =>
  (bif f then (some true) else ((bif decide (j < b.Seeds) then (some c.Qualified) else (some false)).bind fun g =>
  some g)).bind fun h =>
  bif h then (some 60)
  else (gC (dV a b i) a j b c BIG 0))
  else (mO b)
def mI (a : aU) : Option Int :=
  (bif !decide (a.Size = 4) then (some (!decide (a.Size = 8))) else (some false)).bind fun b =>
  (bif b then (some true) else ((eA (a.Persons.length : Int) 2 a.Size).bind fun c =>
  some (!c))).bind fun d =>
  (bif d then (some true) else ((eA a.Seeds 0 (min (a.Persons.length : Int) (w64 (a.Size.tdiv 2)))).bind fun e =>
  some (!e))).bind fun f =>
  (bif f then (some true) else (some (decide ((w64 (a.Size.tdiv 2)) < (w64 (a.Size - (a.Persons.length : Int))))))).bind fun g =>
  (bif g then (some true) else (some (decide (10 < (a.Lots.length : Int))))).bind fun h =>
  bif h then (some 60)
  else (dV (a.Persons.length : Int) a BIG 0)
def rW : Option Bool :=
  some false
def iT (a : List Int) (b : Int) : Nat → Int → Option Bool
 | 0, _ => none
 | d + 1, e =>
  bif decide (e < (a.length : Int)) then ((idx a e).bind fun c =>
  bif decide (c = b) then (some true)
  else ((iT a b d) (w64 (e + 1))))
  else (rW)
def mW (a : List Int) (b : Int) : Option Bool :=
  iT a b BIG 0
def oS : Option Bool :=
  some true
def fP (a : List Int) (b : aU) : Nat → Int → Option Bool
 | 0, _ => none
 | e + 1, f =>
  bif decide (f < (b.Persons.length : Int)) then ((idx b.Persons f).bind fun c =>
  (mW a c.Player).bind fun d =>
  bif !d then (some false)
  else ((fP a b e) (w64 (f + 1))))
  else (oS)
def lO (a : aU) (b : List Int) : Option Bool :=
  fP b a BIG 0
def oQ : Option Int :=
  some (-1)
def fO (a : Int) (b : aU) : Nat → Int → Option Int
 | 0, _ => none
 | d + 1, e =>
  bif decide (e < (b.Persons.length : Int)) then ((idx b.Persons e).bind fun c =>
  bif decide (c.Player = a) then (some e)
  else ((fO a b d) (w64 (e + 1))))
  else (oQ)
def fX (a : aU) (b : Int) : Option Int :=
  fO b a BIG 0
def kX (a : aU) (b : Int) (c : Int) : Option Bool :=
  (bif decide (b = (-1)) then (some true) else (some (decide (c = (-1))))).bind fun d =>
  bif d then (some (!decide (b = c)))
  else ((fX a b).bind fun e =>
  (idx a.Persons e).bind fun f =>
  (fX a c).bind fun g =>
  (idx a.Persons g).bind fun h =>
  (bif decide (f.Nation = 0) then (some true) else (some (!decide (f.Nation = h.Nation)))).bind fun i =>
  (bif i then ((bif f.Qualified then (some h.Qualified) else (some false)).bind fun j =>
  some (!j)) else (some false)).bind fun k =>
  some k)
def qF : Option Int :=
  some (-1)
def gO (a : List Int) (b : Int) : Nat → Int → Option Int
 | 0, _ => none
 | d + 1, e =>
  bif decide (e < (a.length : Int)) then ((idx a e).bind fun c =>
  bif decide (c = b) then (some e)
  else ((gO a b d) (w64 (e + 1))))
  else (qF)
def nB (a : List Int) (b : Int) : Option Int :=
  gO a b BIG 0
def oR (a : Int) : Option Int :=
  some (aDv a 1)
def pS : Option Bool :=
  some true
def gF (a : List Int) (b : Int) (c : aU) : Nat → Int → Option Bool
 | 0, _ => none
 | n + 1, o =>
  bif decide (o < c.Seeds) then ((idx c.Persons o).bind fun d =>
  (nB a d.Player).bind fun e =>
  (bif decide (o = 0) then (some (!decide (e = 0))) else (some false)).bind fun f =>
  (bif f then (some true) else ((bif decide (o = 1) then (some (!decide (e = (w64 (c.Size - 1))))) else (some false)).bind fun g =>
  some g)).bind fun h =>
  (bif h then (some true) else ((bif decide (2 ≤ o) then (some (!decide (e = (w64 (c.Size.tdiv 4))))) else (some false)).bind fun i =>
  (bif i then (some (!decide (e = (w64 ((w64 (c.Size - 1)) - (w64 (c.Size.tdiv 4))))))) else (some false)).bind fun j =>
  some j)).bind fun k =>
  bif k then (some false)
  else ((oR e).bind fun l =>
  (idx a l).bind fun m =>
  bif !decide ((decide (o < b)) = (decide (m = (-1)))) then (some false)
  else ((gF a b c n) (w64 (o + 1)))))
  else (pS)
def kG (a : List Int) (b : aU) : Option Bool :=
  gF a (w64 (b.Size - (b.Persons.length : Int))) b BIG 0
def gE (a : List Int) (b : aU) : Nat → Int → Option Bool
 | 0, _ => none
 | f + 1, g =>
  bif decide (g < b.Size) then ((idx a g).bind fun c =>
  (idx a (w64 (g + 1))).bind fun d =>
  (kX b c d).bind fun e =>
  bif !e then (some false)
  else ((gE a b f) (w64 (g + 2))))
  else (kG a b)
def mJ (a : aU) (b : List Int) : Option Bool :=
  (lO a b).bind fun c =>
  bif !c then (some false)
  else (gE b a BIG 0)
def nA : Option (aU × aU) :=
  some ((aU.mk 4 1 ([(aP.mk 10 1 false), (aP.mk 20 2 false), (aP.mk 30 1 false)]) ([5, 4])), (aU.mk 4 0 ([(aP.mk 1 1 false), (aP.mk 2 1 false), (aP.mk 3 2 false), (aP.mk 4 0 false)]) ([] : List Int)))
def fS (a : Int) (b : Int) (c : Int) : Option Bool :=
  (bif decide (b ≤ a) then (some (decide (a ≤ c))) else (some false)).bind fun d =>
  some d
def jS : Option Int :=
  some (-1)
def dF (a : List aP) (b : aP → Option Bool) (c : Int) : Nat → Int → Option Int
 | 0, _ => none
 | f + 1, g =>
  bif decide (g < c) then ((idx a g).bind fun d =>
  (b d).bind fun e =>
  bif e then (some g)
  else ((dF a b c f) (w64 (g + 1))))
  else (jS)
def eN (a : List aP) (b : aP → Option Bool) : Option Int :=
  dF a b (a.length : Int) BIG 0
def eW (a : List aP) (b : aP → Option Bool) : Option Bool :=
  (eN a b).bind fun c =>
  some (decide (0 ≤ c))
def rN (a : aP) (b : aP) : Option Bool :=
  some (decide (a.Player = b.Player))
def mU : Option Int :=
  some (-1)
def eQ (a : List Int) (b : Int → Option Bool) (c : Int) : Nat → Int → Option Int
 | 0, _ => none
 | f + 1, g =>
  bif decide (g < c) then ((idx a g).bind fun d =>
  (b d).bind fun e =>
  bif e then (some g)
  else ((eQ a b c f) (w64 (g + 1))))
  else (mU)
def jT (a : List Int) (b : Int → Option Bool) : Option Int :=
  eQ a b (a.length : Int) BIG 0
def iA (a : List Int) (b : Int → Option Bool) : Option Bool :=
  (jT a b).bind fun c =>
  some (decide (0 ≤ c))
def rO (a : Int) : Option Bool :=
  (fS a 0 999999).bind fun b =>
  some (!b)
def qT (a : aU) : Option Int :=
  (iA a.Lots (fun b => rO b)).bind fun c =>
  bif c then (some 60)
  else (some 0)
def kN (a : List aP) (b : Int) (c : aU) : Nat → Int → Option Int
 | 0, _ => none
 | n + 1, o =>
  bif decide (o < b) then ((idx a o).bind fun d =>
  (sub c.Persons 0 o).bind fun e =>
  (eW e (fun f => rN f d)).bind fun g =>
  (bif g then (some true) else ((fS d.Player 0 999).bind fun h =>
  some (!h))).bind fun i =>
  (bif i then (some true) else ((fS d.Nation 0 9).bind fun j =>
  some (!j))).bind fun k =>
  (bif k then (some true) else ((bif decide (o < c.Seeds) then (some d.Qualified) else (some false)).bind fun l =>
  some l)).bind fun m =>
  bif m then (some 60)
  else ((kN a b c n) (w64 (o + 1))))
  else (qT c)
def pK (a : aU) : Option Int :=
  (bif !decide (a.Size = 4) then (some (!decide (a.Size = 8))) else (some false)).bind fun b =>
  (bif b then (some true) else ((fS (a.Persons.length : Int) 2 a.Size).bind fun c =>
  some (!c))).bind fun d =>
  (bif d then (some true) else (some (decide ((w64 (a.Size.tdiv 2)) < (w64 (a.Size - (a.Persons.length : Int))))))).bind fun e =>
  (bif e then (some true) else ((fS a.Seeds 0 (min (w64 (a.Size.tdiv 2)) (a.Persons.length : Int))).bind fun f =>
  some (!f))).bind fun g =>
  (bif g then (some true) else (some (decide (10 < (a.Lots.length : Int))))).bind fun h =>
  bif h then (some 60)
  else (kN a.Persons (a.Persons.length : Int) a BIG 0)
def pW (x : List Int) (a : Int → Int → Option Int) : Option (List Int) := aJd x a
def mY (a : Int) (b : Int) (c : aU) : Option Int :=
  (idx c.Persons a).bind fun d =>
  (idx c.Persons b).bind fun e =>
  some (w64 (d.Player - e.Player))
def qV (a : aU) (b : List Int) : Option (List Int) :=
  (pW b (fun c d => mY c d a)).bind fun e =>
  (app 8 ([(-1)]) e).bind fun f =>
  some f
def qW (a : Int) (b : aU) : Nat → Int → (List Int) → Option (List Int)
 | 0, _, _ => none
 | d + 1, e, f =>
  bif decide (e < a) then ((app 8 f ([e])).bind fun c =>
  (qW a b d) (w64 (e + 1)) c)
  else (qV b f)
def nO (a : aU) : Option (List Int) :=
  qW (a.Persons.length : Int) a BIG 0 ([] : List Int)
def fA (a : List Int) : Option ((List Int)) :=
  (app 8 ([] : List Int) a).bind fun b =>
  some b
def pV : Option Int :=
  some (-1)
def gH (a : List Int) (b : Int) (c : Int) : Nat → Int → Option Int
 | 0, _ => none
 | e + 1, f =>
  bif decide (f < c) then ((idx a f).bind fun d =>
  bif decide (b = d) then (some f)
  else ((gH a b c e) (w64 (f + 1))))
  else (pV)
def gU (a : List Int) (b : Int) : Option Int :=
  gH a b (a.length : Int) BIG 0
def cR (a : List Int) (b : Int) : Option Bool :=
  (gU a b).bind fun c =>
  some (decide (0 ≤ c))
def zK (a : aU) (b : Int) (c : Int) : Option Bool :=
  (bif decide (b = 0) then (some (decide (0 < a.Seeds))) else (some false)).bind fun d =>
  bif d then (some (decide (c = 0)))
  else ((bif decide (b = (w64 (a.Size - 1))) then (some (decide (1 < a.Seeds))) else (some false)).bind fun e =>
  bif e then (some (decide (c = 1)))
  else ((bif decide (c = (-1)) then (some true) else (some (decide (a.Seeds ≤ c)))).bind fun f =>
  bif f then (some true)
  else ((bif decide (1 < c) then ((cR ([w64 (a.Size.tdiv 4), w64 ((w64 (a.Size - 1)) - (w64 (a.Size.tdiv 4)))]) b).bind fun g =>
  some g) else (some false)).bind fun h =>
  some h)))
def yC (a : aU) (b : Int) (c : Int) : Option Bool :=
  (bif decide (b = (-1)) then (some true) else (some (decide (c = (-1))))).bind fun d =>
  bif d then (some (!decide (b = c)))
  else ((idx a.Persons b).bind fun e =>
  (idx a.Persons c).bind fun f =>
  (bif !decide (e.Nation = f.Nation) then (some true) else (some (decide (e.Nation = 0)))).bind fun g =>
  (bif g then ((bif e.Qualified then (some f.Qualified) else (some false)).bind fun h =>
  some (!h)) else (some false)).bind fun i =>
  some i)
def rR (a : Int) (b : Int) (c : aU) (d : Int) : Option Bool :=
  (bif decide (a = (-1)) then (some true) else (some (decide (c.Seeds ≤ a)))).bind fun e =>
  (bif e then (some true) else (some (decide ((decide (b = (-1))) = (decide (a < d)))))).bind fun f =>
  some f
def yD (a : aU) (b : Int) (c : Int) : Option Bool :=
  (bif decide ((w64 (a.Size - (a.Persons.length : Int))) ≤ a.Seeds) then ((bif decide (b = (-1)) then (some (decide (a.Seeds ≤ c))) else (some false)).bind fun d =>
  (bif d then (some true) else ((bif decide (c = (-1)) then (some (decide (a.Seeds ≤ b))) else (some false)).bind fun e =>
  some e)).bind fun f =>
  some f) else (some false)).bind fun g =>
  bif g then (some false)
  else ((yC a b c).bind fun h =>
  (bif h then ((rR b c a (w64 (a.Size - (a.Persons.length : Int)))).bind fun i =>
  some i) else (some false)).bind fun j =>
  (bif j then ((rR c b a (w64 (a.Size - (a.Persons.length : Int)))).bind fun k =>
  some k) else (some false)).bind fun l =>
  some l)
def uP {S : Type} (_ : S → (List Int) → Option (S × Bool)) (_ : (List Int) → Int → aU → (List Int) → S → Option (S × Bool)) (_ : List Int) (a : S) (_ : aU) (_ : List Int) : Option (S × Bool) :=
  some (a, true)
def lB {S : Type} (a : S → (List Int) → Option (S × Bool)) (b : (List Int) → Int → aU → (List Int) → S → Option (S × Bool)) (c : Int) (d : aU) (e : Int) (f : List Int) (g : Int) (h : List Int) (i : aU) (j : List Int) : Nat → Int → S → Option (S × Bool)
 | 0, _, _ => none
 | x + 1, y, z =>
  bif decide (y < g) then ((idx f y).bind fun k =>
  (bif decide (k = (-1)) then (some (w64 (c - 1)))
  else (some c)).bind fun l =>
  (bif decide (l < 0) then (some true) else ((bif !decide (k = (-1)) then ((cR h k).bind fun m =>
  some m) else (some false)).bind fun n =>
  some n)).bind fun o =>
  (bif o then (some true) else ((zK d e k).bind fun p =>
  some (!p))).bind fun q =>
  (bif q then (some true) else ((bif decide ((e.tmod 2) = 1) then ((idx h (w64 (e - 1))).bind fun r =>
  (yD d r k).bind fun s =>
  some (!s)) else (some false)).bind fun t =>
  some t)).bind fun u =>
  bif u then ((lB a b c d e f g h i j x) (w64 (y + 1)) z)
  else ((aHg i.Size h ([k])).bind fun v =>
  (b v l i j z).bind fun w =>
  bif !w.2 then (some (w.1, false))
  else ((lB a b c d e f g h i j x) (w64 (y + 1)) w.1)))
  else (uP a b h z i j)
def lQ {S : Type} (a : S → (List Int) → Option (S × Bool)) : Nat → (List Int) → Int → aU → (List Int) → S → Option (S × Bool)
 | 0, _, _, _, _, _ => none
 | d + 1, e, f, g, h, i =>
  bif decide ((e.length : Int) = g.Size) then ((fA e).bind fun b =>
  (a i b).bind fun c =>
  some c)
  else (lB a (lQ a d) f g (e.length : Int) h (h.length : Int) e g h BIG 0 i)
def xG {S : Type} (a : S → (List Int) → Option (S × Bool)) : (List Int) → Int → aU → (List Int) → S → Option (S × Bool) := lQ a BIG
def rQ {S : Type} (a : S → (List Int) → Option (S × Bool)) (b : aU) (c : List Int) (d : S) : Option (S × Bool) :=
  (mk0 8 b.Size).bind fun _ =>
  (xG a ([] : List Int) (w64 (b.Size - (b.Persons.length : Int))) b c d).bind fun e =>
  some e
def rK (a : aU) : Option (Int × Int) :=
  (pK a).bind fun b =>
  bif !decide (b = 0) then (some (0, b))
  else ((nO a).bind fun c =>
  (rQ (S := Int) (fun d _ =>
  some ((w64 (d + 1)), true)) a c 0).bind fun e =>
  bif e.2 then (some (e.1, 0))
  else (none))
def yR (a : List Int) : Option ((List Int)) :=
  some a
def oD (a : List Int) (b : Int) (c : aU) : Nat → Int → (List Int) → Option ((List Int))
 | 0, _, _ => none
 | h + 1, i, j =>
  bif decide (i < b) then ((idx a i).bind fun d =>
  bif decide (d = (-1)) then ((app 8 j ([(-1)])).bind fun e =>
  (oD a b c h) (w64 (i + 1)) e)
  else ((idx c.Persons d).bind fun f =>
  (app 8 j ([f.Player])).bind fun g =>
  (oD a b c h) (w64 (i + 1)) g))
  else (yR j)
def yE (a : aU) (b : List Int) : Option ((List Int)) :=
  oD b (b.length : Int) a BIG 0 ([] : List Int)
def tF (a : aU) (b : Int) : Option ((List Int) × Bool) :=
  (nO a).bind fun c =>
  (rQ (S := Int × (List Int) × Bool) (fun d e =>
  bif decide (d.1 = 0) then ((yE a e).bind fun f =>
  some ((d.1, f, true), false))
  else (some ((w64 (d.1 - 1), d.2.1, d.2.2), true))) a c (b, ([] : List Int), false)).bind fun g =>
  bif g.2 then (some (([] : List Int), false))
  else (some (g.1.2.1, g.1.2.2))
def rP (a : Int) (b : Int) (c : aU) : Option ((List Int) × Int) :=
  (chk (!decide (a = 0))).bind fun _ =>
  (tF c (b.tmod a)).bind fun d =>
  some (d.1, 0)
def mX (a : Int) (b : List Int) (c : Int) (d : aU) : Nat → Int → Int → Option ((List Int) × Int)
 | 0, _, _ => none
 | f + 1, g, h =>
  bif decide (h < c) then ((idx b h).bind fun e =>
  (mX a b c d f) (w64 (g + e)) (w64 (h + 1)))
  else (rP a g d)
def qU (a : aU) : Option ((List Int) × Int) :=
  (rK a).bind fun b =>
  bif !decide (b.2 = 0) then (some (([] : List Int), b.2))
  else (bif decide (b.1 = 0) then (some (([] : List Int), 3))
  else (mX b.1 a.Lots (a.Lots.length : Int) a BIG 0 0))
def qE : Option (aJ × (List aE)) :=
  some ((aJ.mk 3 ([1, (-1), 2, 3, 4, 5, 6, 7])), [(aE.mk 1 1 0 2 0), (aE.mk 3 0 3 7 0), (aE.mk 5 0 4 8 4)])
def eR (a : Int) (b : Int) (c : Int) : Option Bool :=
  (bif decide (b ≤ a) then (some (decide (a ≤ c))) else (some false)).bind fun d =>
  some d
def rB : Option Bool :=
  some true
def fW (a : List Int) (b : Int) (c : aJ) : Nat → Int → (List (Int × Int)) → Option Bool
 | 0, _, _ => none
 | h + 1, i, j =>
  bif decide (i < b) then ((idx a i).bind fun d =>
  bif decide (d = (-1)) then ((idx c.Slots (aDv i 1)).bind fun e =>
  bif decide (e = (-1)) then (some false)
  else ((fW a b c h) (w64 (i + 1)) j))
  else ((bif decide (1 < (cG d 0 (eP d (w64 ((cG d 0 j) + 1)) j))) then (some true) else ((eR d 0 999).bind fun f =>
  some (!f))).bind fun g =>
  bif g then (some false)
  else ((fW a b c h) (w64 (i + 1)) (eP d (w64 ((cG d 0 j) + 1)) j))))
  else (rB)
def mD (a : aJ) : Option Bool :=
  (eR a.Rounds 1 5).bind fun b =>
  (bif !b then (some true) else ((chk (decide (0 ≤ a.Rounds))).bind fun _ =>
  some (!decide ((a.Slots.length : Int) = (w64 (1 * 2 ^ (min a.Rounds.toNat 64))))))).bind fun c =>
  bif c then (some false)
  else (fW a.Slots (a.Slots.length : Int) a BIG 0 ([] : List (Int × Int)))
def kT : Option Int :=
  some (-1)
def dQ (a : List aE) (b : aE → Option Bool) (c : Int) : Nat → Int → Option Int
 | 0, _ => none
 | f + 1, g =>
  bif decide (g < c) then ((idx a g).bind fun d =>
  (b d).bind fun e =>
  bif e then (some g)
  else ((dQ a b c f) (w64 (g + 1))))
  else (kT)
def gK (a : List aE) (b : aE → Option Bool) : Option Int :=
  dQ a b (a.length : Int) BIG 0
def fI (a : List aE) (b : aE → Option Bool) : Option Bool :=
  (gK a b).bind fun c =>
  some (decide (0 ≤ c))
def kK (a : aD) (b : aJ) : Option Bool :=
  (eR a.round 0 (w64 (b.Rounds - 1))).bind fun c =>
  (bif c then ((chk (decide (0 ≤ (w64 (a.round + 1))))).bind fun _ =>
  (eR a.place 0 (w64 (((b.Slots.length : Int).fdiv (2 ^ (min (w64 (a.round + 1)).toNat 64))) - 1))).bind fun d =>
  some d) else (some false)).bind fun e =>
  some e
def nY (a : aJ) (b : aE) : Option Bool :=
  (eR b.Player 0 999).bind fun c =>
  bif !c then (some false)
  else (bif decide (b.Kind = 5) then ((bif decide (b.Round = 0) then ((eR b.Place 0 (w64 ((a.Slots.length : Int) - 1))).bind fun d =>
  some d) else (some false)).bind fun e =>
  (bif e then ((eR b.Old 0 999).bind fun f =>
  some f) else (some false)).bind fun g =>
  some g)
  else ((eR b.Kind 1 4).bind fun h =>
  (bif !h then (some true) else (some (!decide (b.Old = 0)))).bind fun i =>
  (bif i then (some true) else ((kK (aD.mk b.Round b.Place) a).bind fun j =>
  some (!j))).bind fun k =>
  bif k then (some false)
  else ((bif decide (0 < b.Round) then (some true) else ((sub a.Slots (w64 (2 * b.Place)) (w64 ((w64 (2 * b.Place)) + 2))).bind fun l =>
  (cR l (-1)).bind fun m =>
  some (!m))).bind fun n =>
  some n)))
def mE (a : aE) (b : aJ) : Option Bool :=
  (nY b a).bind fun c =>
  some (!c)
def lT (a : (aE × Bool) → Prop) (_ : List Int) (_ : aJ) (_ : List (aE × Int)) (_ : aE) : Prop :=
  a ((aE.mk 0 0 0 0 0), false)
def fM (a : (aE × Bool) → Prop) (b : Int) (c : List Int) (d : aJ) (e : List (aE × Int)) : Nat → aE → (List (aE × Int)) → Prop
 | 0, _, _ => False
 | j + 1, k, l =>
  aKn l (lT a c d e k)
  (fun f g =>
  nb (bif decide (f.1.Place = b) then ((idx c b).bind fun h =>
  some (decide (f.1.Old = h))) else (some false)) fun i =>
  bif i then (a (f.1, true))
  else ((fM a b c d e j) k g))
def fV (a : aJ) (b : List Int) (c : List (aE × Int)) (d : Int) (Q : (aE × Bool) → Prop) : Prop :=
  yV c fun e =>
  fM Q d b a c BIG (aE.mk 0 0 0 0 0) e
def kC (_ : (Bool × (List Int) × (List (aE × Int))) → Prop) (a : Int → (List Int) → (List (aE × Int)) → (List Int) → Prop) (_ : Int) (b : Int) (c : List Int) (_ : aJ) (d : List (aE × Int)) (e : List Int) : Prop :=
  a (w64 (b + 1)) c d e
def kD (a : (Bool × (List Int) × (List (aE × Int))) → Prop) (b : Int → (List Int) → (List (aE × Int)) → (List Int) → Prop) (c : Int) (d : Int) (e : List Int) (f : aJ) (g : List (aE × Int)) (h : List Int) : Prop :=
  kC a b c d e f g h
def cZ (a : (Bool × (List Int) × (List (aE × Int))) → Prop) (b : Int → (List Int) → (List (aE × Int)) → (List Int) → Prop) (c : Int) (d : Int) (e : Int) (f : aJ) : Nat → Bool → (List Int) → (List (aE × Int)) → aE → (List Int) → Prop
 | 0, _, _, _, _, _ => False
 | j + 1, k, l, m, n, o =>
  bif k then (nb (cR o n.Player) fun g =>
  bif g then (a (false, l, m))
  else (nb (idx l c) fun _ =>
  nb (app 8 o ([n.Player])) fun h =>
  fV f (l.set c.toNat n.Player) (nP n m) c fun i =>
  (cZ a b c d e f j) i.2 (l.set c.toNat n.Player) (nP n m) i.1 h))
  else (kD a b d e l f m o)
def kB (a : (Bool × (List Int) × (List (aE × Int))) → Prop) (b : List Int) (_ : aJ) (c : List (aE × Int)) : Prop :=
  a (decide ((c.length : Int) = 0), b, c)
def cI (a : (Bool × (List Int) × (List (aE × Int))) → Prop) (b : Int) (c : aJ) : Nat → Int → (List Int) → (List (aE × Int)) → (List Int) → Prop
 | 0, _, _, _, _ => False
 | e + 1, f, g, h, i =>
  bif decide (f < b) then (fV c g h f fun d =>
  cZ a (cI a b c e) f b f c BIG d.2 g h d.1 i)
  else (kB a g c h)
def jJ (a : aJ) (b : List Int) (c : List (aE × Int)) (Q : (Bool × (List Int) × (List (aE × Int))) → Prop) : Prop :=
  nb (fA a.Slots) fun d =>
  cI Q (b.length : Int) a BIG 0 b c d
def lU (a : Int) (b : Int) : Option aD :=
  (chk (decide (0 ≤ (w64 (a + 1))))).bind fun _ =>
  some (aD.mk a (b.fdiv (2 ^ (min (w64 (a + 1)).toNat 64))))
def oO (_ : List Int) (a : List (aD × Int)) (_ : aJ) : Option (Bool × (List (aD × Int))) :=
  some (true, a)
def fN (a : Int) (b : Int) (c : List Int) (d : aJ) : Nat → Int → (List (aD × Int)) → Option (Bool × (List (aD × Int)))
 | 0, _, _ => none
 | i + 1, j, k =>
  bif decide (j < b) then ((lU j a).bind fun e =>
  (bif cX e k then ((idx c a).bind fun f =>
  some (!decide ((cG e 0 k) = f))) else (some false)).bind fun g =>
  bif g then (some (false, k))
  else ((idx c a).bind fun h =>
  (fN a b c d i) (w64 (j + 1)) (eP e h k)))
  else (oO c k d)
def jY (a : aJ) (b : List Int) (c : List (aD × Int)) (d : Int) (e : Int) : Option (Bool × (List (aD × Int))) :=
  fN d (w64 (e + 1)) b a BIG 0 c
def rV (a : ((Option aX) × Bool) → Prop) (b : List Int) (c : List (aD × Int)) (d : aJ) : Prop :=
  a ((some (aX.mk d b c)), true)
def iS (a : ((Option aX) × Bool) → Prop) (b : List Int) (c : aJ) (d : List (aD × aE)) : Nat → (List (aD × Int)) → (List (aD × aE)) → Prop
 | 0, _, _ => False
 | k + 1, l, m =>
  aKn m (rV a b l c)
  (fun e f =>
  nb (gU b e.2.Player) fun g =>
  nb (bif decide (g < 0) then (some true) else ((lU e.1.round g).bind fun h =>
  some (!decide (h = e.1)))) fun i =>
  bif i then (a ((none : Option aX), false))
  else (nb (jY c b l g e.1.round) fun j =>
  bif !j.1 then (a ((none : Option aX), false))
  else ((iS a b c d k) j.2 f)))
def oM (a : ((Option aX) × Bool) → Prop) (b : List Int) (c : List (aD × Int)) (d : aJ) (e : List (aD × aE)) : Prop :=
  yV e fun f =>
  iS a b d e BIG c f
def fL (a : ((Option aX) × Bool) → Prop) (b : Int) (c : List Int) (d : aJ) (e : List (aD × aE)) : Nat → Int → (List (aD × Int)) → Prop
 | 0, _, _ => False
 | h + 1, i, j =>
  bif decide (i < b) then (nb (idx c i) fun f =>
  bif decide (f = (-1)) then (nb (jY d c j (aDv i 1) 0) fun g =>
  (fL a b c d e h) (w64 (i + 1)) g.2)
  else ((fL a b c d e h) (w64 (i + 1)) j))
  else (oM a c j d e)
def oL (a : ((Option aX) × Bool) → Prop) (b : List Int) (c : List (aD × Int)) (d : aJ) (e : List (aE × Int)) (f : List (aD × aE)) : Prop :=
  jJ d b e fun g =>
  bif !g.1 then (a ((none : Option aX), false))
  else (fL a (g.2.1.length : Int) g.2.1 d f BIG 0 c)
def fK (a : ((Option aX) × Bool) → Prop) (b : List aE) (c : Int) (d : List Int) (e : List (aD × Int)) (f : aJ) : Nat → Int → (List (aE × Int)) → (List (aD × aE)) → Prop
 | 0, _, _, _ => False
 | i + 1, j, k, l =>
  bif decide (j < c) then (nb (idx b j) fun g =>
  bif decide (g.Kind = 5) then ((fK a b c d e f i) (w64 (j + 1)) (eP g (w64 ((cG g 0 k) + 1)) k) l)
  else (nb (bif cX (aD.mk g.Round g.Place) l then (some (!decide ((cG (aD.mk g.Round g.Place) (aE.mk 0 0 0 0 0) l) = g))) else (some false)) fun h =>
  bif h then (a ((none : Option aX), false))
  else ((fK a b c d e f i) (w64 (j + 1)) k (eP (aD.mk g.Round g.Place) g l))))
  else (oL a d e f k l)
def pD (a : aJ) (b : List aE) (Q : ((Option aX) × Bool) → Prop) : Prop :=
  nb (fA a.Slots) fun c =>
  fK Q b (b.length : Int) c ([] : List (aD × Int)) a BIG 0 ([] : List (aE × Int)) ([] : List (aD × aE))
def kV (a : aJ) (b : List aE) (Q : ((Option aX) × Int) → Prop) : Prop :=
  nb (mD a) fun c =>
  bif !c then (Q ((none : Option aX), 70))
  else (nb (bif decide (60 < (b.length : Int)) then (some true) else ((fI b (fun d => mE d a)).bind fun e =>
  some e)) fun f =>
  bif f then (Q ((none : Option aX), 71))
  else (pD a b fun g =>
  bif !g.2 then (Q ((none : Option aX), 72))
  else (Q (g.1, 0))))
def vJ (a : Int) : Option Int :=
  some a
def lS (a : List Int) : Nat → Int → Int → Option Int
 | 0, _, _ => none
 | c + 1, d, e =>
  bif decide (e < (a.length : Int)) then ((idx a e).bind fun b =>
  (lS a c) (min d b) (w64 (e + 1)))
  else (vJ d)
def yY (a : List Int) : Option Int :=
  bif decide ((a.length : Int) < 1) then (none)
  else ((idx a 0).bind fun b =>
  lS a BIG b 1)
def pO (a : aX) : Option Int :=
  some a.Tree.Rounds
def gB (a : aX) (b : Int) (c : Int) : Nat → Int → Option Int
 | 0, _ => none
 | g + 1, h =>
  bif decide (h < c) then ((lU h b).bind fun d =>
  (bif cX d a.won then ((idx a.players b).bind fun e =>
  some (!decide ((cG d 0 a.won) = e))) else (some false)).bind fun f =>
  bif f then (some h)
  else ((gB a b c g) (w64 (h + 1))))
  else (pO a)
def mH (a : aX) (b : Int) : Option Int :=
  gB a b a.Tree.Rounds BIG 0
def jX (a : aX) (b : aD) (c : Int) : Option Int :=
  bif decide (b.round = 0) then ((idx a.players (w64 ((w64 (2 * b.place)) + c))).bind fun d =>
  some d)
  else (bif cX (aD.mk (w64 (b.round - 1)) (w64 ((w64 (2 * b.place)) + c))) a.won then (some (cG (aD.mk (w64 (b.round - 1)) (w64 ((w64 (2 * b.place)) + c))) 0 a.won))
  else (some (-2)))
def mS {S : Type} (_ : S → aD → bX → Option S) (a : Int → S → Option S) (_ : aX) (_ : Int) (b : Int) (c : S) : Option S :=
  a (w64 (b + 1)) c
def hZ {S : Type} (a : S → aD → bX → Option S) (b : Int → S → Option S) (c : aX) (d : Int) (e : Int) (f : S) : Option S :=
  mS a b c d e f
def dX {S : Type} (a : S → aD → bX → Option S) (b : Int → S → Option S) (c : aX) (d : Int) (e : Int) (f : Int) (g : Int) : Nat → Int → S → Option S
 | 0, _, _ => none
 | k + 1, l, m =>
  bif decide (l < g) then ((jX c (aD.mk d l) 0).bind fun h =>
  (jX c (aD.mk d l) 1).bind fun i =>
  (a m (aD.mk d l) (bX.mk d l h i)).bind fun j =>
  (dX a b c d e f g k) (w64 (l + 1)) j)
  else (hZ a b c e f m)
def mR {S : Type} (_ : S → aD → bX → Option S) (a : S) : Option S :=
  some a
def cM {S : Type} (a : S → aD → bX → Option S) (b : aX) (c : Int) : Nat → Int → S → Option S
 | 0, _, _ => none
 | d + 1, e, f =>
  bif decide (e < c) then ((chk (decide (0 ≤ (w64 (e + 1))))).bind fun _ =>
  dX a (cM a b c d) b e c e ((b.Tree.Slots.length : Int).fdiv (2 ^ (min (w64 (e + 1)).toNat 64))) BIG 0 f)
  else (mR a f)
def jI {S : Type} (a : aX) (b : S → aD → bX → Option S) (c : S) : Option S :=
  cM b a a.Tree.Rounds BIG 0 c
def pC (a : aJ) (b : List aE) (Q : ((List bX) × Int) → Prop) : Prop :=
  kV a b fun c =>
  bif !decide (c.2 = 0) then (Q (([] : List bX), c.2))
  else (nb (c.1) fun d =>
  nb (jI (S := (List bX)) d (fun e _ f =>
  (app 32 e ([f])).bind fun g =>
  some g) ([] : List bX)) fun h =>
  Q (h, 0))
def oN (a : aJ) (b : List aE) (c : Int) (d : Int) (Q : ((Option aX) × aD × Int) → Prop) : Prop :=
  kV a b fun e =>
  nb (bif decide (e.2 = 0) then ((kK (aD.mk c d) a).bind fun f =>
  some (!f)) else (some false)) fun g =>
  bif g then (Q (e.1, (aD.mk c d), 1))
  else (Q (e.1, (aD.mk c d), e.2))
def pX (a : aJ) (b : List aE) : Option ((List bX) × Int) := kL a b
def slices_Sort_int (x : List Int) : Option (List Int) := if x.length < 4611686018427387904 then some (iQ x) else none
def uC (a : ((List Int) × Int) → Prop) (b : List Int) : Prop :=
  nb (slices_Sort_int b) fun c =>
  a (c, 0)
def gW (a : ((List Int) × Int) → Prop) (b : Int) (c : Option aX) (d : List Int) (e : Int) (f : aD) : Nat → Int → (List Int) → Prop
 | 0, _, _ => False
 | n + 1, o, p =>
  bif decide (o < e) then (nb (idx d o) fun g =>
  nb (c) fun h =>
  nb (bif !decide (g = (-1)) then ((lU b o).bind fun i =>
  some (decide (i = f))) else (some false)) fun j =>
  nb (bif j then ((mH h o).bind fun k =>
  some (decide (b < k))) else (some false)) fun l =>
  bif l then (nb (app 8 p ([g])) fun m =>
  (gW a b c d e f n) (w64 (o + 1)) m)
  else ((gW a b c d e f n) (w64 (o + 1)) p))
  else (uC a p)
def rI (a : aJ) (b : List aE) (c : Int) (d : Int) (Q : ((List Int) × Int) → Prop) : Prop :=
  oN a b c d fun e =>
  bif !decide (e.2.2 = 0) then (Q (([] : List Int), e.2.2))
  else (nb (e.1) fun f =>
  gW Q c e.1 f.players (f.players.length : Int) e.2.1 BIG 0 ([] : List Int))
def qD : Option (eU × (List Int)) :=
  some ((eU.mk 2 2 false 2 3 0 4 2 2 false), [0, 0, 0, 0, 1, 1, 1, 1, 0, 0, 0, 0, 0, 0, 0, 0, 1, 1, 1, 1])
def lF (a : Int) (b : Int) (c : Int) : Option Bool :=
  (bif decide (b ≤ a) then (some (decide (a ≤ c))) else (some false)).bind fun d =>
  some d
def rS (a : Int) (b : eU) : Option Bool :=
  (bif decide (a = (-1)) then (some true) else (some (decide (a = 0)))).bind fun c =>
  (bif c then (some true) else (some (decide (a = (w64 (b.Games - 1)))))).bind fun d =>
  (bif d then (some true) else (some (decide (a = b.Games)))).bind fun e =>
  some e
def yJ (a : eU) : Option Int :=
  (lF a.Sets 1 3).bind fun b =>
  (bif b then ((lF a.Games 1 8).bind fun c =>
  some c) else (some false)).bind fun d =>
  (bif d then ((rS a.Tie a).bind fun e =>
  some e) else (some false)).bind fun f =>
  (bif f then ((rS a.LastTie a).bind fun g =>
  some g) else (some false)).bind fun h =>
  (bif h then ((lF a.To 1 15).bind fun i =>
  some i) else (some false)).bind fun j =>
  (bif j then ((lF a.LastTo 1 15).bind fun k =>
  some k) else (some false)).bind fun l =>
  (bif l then ((lF a.First 0 20).bind fun m =>
  some m) else (some false)).bind fun n =>
  (bif n then ((lF a.Then 0 20).bind fun o =>
  some o) else (some false)).bind fun p =>
  bif p then (some 0)
  else (some 10)
def qA (a : gI) (b : bH) : Option gA :=
  (bif decide (b.A = (w64 (a.Format.Sets - 1))) then (some (decide (b.B = (w64 (a.Format.Sets - 1))))) else (some false)).bind fun c =>
  bif c then (some (gA.mk a.Format.LastTie a.Format.LastTo))
  else (some (gA.mk a.Format.Tie a.Format.To))
def sG (a : gA) (b : bH) : Option Bool :=
  (bif decide (b.A = a.tie) then (some (decide (b.B = a.tie))) else (some false)).bind fun c =>
  some c
def lE (a : bL) : Option Int :=
  some (w64 ((a.ties.length : Int) - 1))
def pZ (a : gI) (b : Int) : Option Bool :=
  (bif decide (0 < a.Format.First) then ((bif decide ((w64 (b - a.Format.First)) = 0) then (some true) else ((bif decide (0 < (w64 (b - a.Format.First))) then (some (decide (0 < a.Format.Then))) else (some false)).bind fun c =>
  (bif c then ((chk (!decide (a.Format.Then = 0))).bind fun _ =>
  some (decide (((w64 (b - a.Format.First)).tmod a.Format.Then) = 0))) else (some false)).bind fun d =>
  some d)).bind fun e =>
  some e) else (some false)).bind fun f =>
  some f
def nV (a : bL) : Option Bool :=
  (lE a).bind fun b =>
  (idx a.ties b).bind fun c =>
  (bif !c then ((pZ a.rules b).bind fun d =>
  some d) else (some false)).bind fun e =>
  (bif e then (some true) else ((bif decide (2 ≤ b) then ((idx a.ties (w64 (b - 2))).bind fun f =>
  some f) else (some false)).bind fun g =>
  (bif g then ((pZ a.rules (w64 (b - 2))).bind fun h =>
  some h) else (some false)).bind fun i =>
  some i)).bind fun j =>
  some j
def gT (a : bL) (b : Int) : Option Int :=
  (lE a).bind fun c =>
  (idx a.ties c).bind fun d =>
  bif d then (bif !a.rules.Format.Doubles then (some ((w64 ((w64 (a.first + c)) + (w64 ((w64 (b + 1)).tdiv 2)))).tmod 2))
  else (some (w64 (((w64 ((w64 (a.first + c)) + (w64 ((w64 (b + 1)).tdiv 2)))).tmod 2) + (w64 (2 * ((w64 ((w64 ((w64 (c + ((w64 ((w64 (b + 1)).tdiv 2)).tmod 2))).tdiv 2)) + (w64 ((w64 ((w64 (b + 1)).tdiv 2)).tdiv 2)))).tmod 2)))))))
  else (bif !a.rules.Format.Doubles then (some ((w64 ((w64 (a.first + c)) + 0)).tmod 2))
  else (some (w64 (((w64 ((w64 (a.first + c)) + 0)).tmod 2) + (w64 (2 * ((w64 ((w64 ((w64 (c + ((0 : Int).tmod 2))).tdiv 2)) + (w64 ((0 : Int).tdiv 2)))).tmod 2)))))))
def fR (a : bL) : Option bL :=
  bif decide (0 ≤ a.Score.Winner) then (some (bL.mk a.rules (cP.mk a.Score.Board (-1) a.Score.Ends a.Score.Balls a.Score.Winner) a.first a.won a.ties a.games))
  else ((qA a.rules a.won).bind fun b =>
  (sG b a.Score.Board.Games).bind fun c =>
  (app 1 a.ties ([c])).bind fun d =>
  (nV (bL.mk a.rules a.Score a.first a.won d a.games)).bind fun e =>
  bif e then ((gT (bL.mk a.rules (cP.mk a.Score.Board a.Score.Server a.Score.Ends (w64 (a.Score.Balls + 1)) a.Score.Winner) a.first a.won d a.games) 0).bind fun f =>
  some (bL.mk a.rules (cP.mk a.Score.Board f a.Score.Ends (w64 (a.Score.Balls + 1)) a.Score.Winner) a.first a.won d a.games))
  else ((gT (bL.mk a.rules a.Score a.first a.won d a.games) 0).bind fun g =>
  some (bL.mk a.rules (cP.mk a.Score.Board g a.Score.Ends a.Score.Balls a.Score.Winner) a.first a.won d a.games)))
def yL (a : gI) (b : Int) : Option bL :=
  (fR (bL.mk a (cP.mk (dI.mk ([] : List bH) (bH.mk 0 0) (bH.mk 0 0)) 0 0 0 (-1)) b (bH.mk 0 0) ([] : List Bool) ([] : List mV))).bind fun c =>
  some c
def uY (a : bH) (b : Int) : Option bH :=
  bif decide (b = 0) then (some (bH.mk (w64 (a.A + 1)) a.B))
  else (some (bH.mk a.A (w64 (a.B + 1))))
def sS (a : bH) : Option Int :=
  some (w64 (a.A + a.B))
def pN (a : bH) (b : Int) (c : Int) : Option Int :=
  (bif decide (b ≤ a.A) then (some (decide (c ≤ (w64 (a.A - a.B))))) else (some false)).bind fun d =>
  bif d then (some 0)
  else ((bif decide (b ≤ a.B) then (some (decide (c ≤ (w64 (a.B - a.A))))) else (some false)).bind fun e =>
  bif e then (some 1)
  else (some (-1)))
def sF (a : gI) (b : gA) (c : Bool) (d : bH) : Option Int :=
  bif c then ((pN d b.to 2).bind fun e =>
  some e)
  else (bif a.Format.NoAd then ((pN d 4 1).bind fun f =>
  some f)
  else ((pN d 4 2).bind fun g =>
  some g))
def rE (a : bL) (b : Int) : Option bL :=
  (qA a.rules a.won).bind fun c =>
  (lE a).bind fun d =>
  (idx a.ties d).bind fun e =>
  (uY a.Score.Board.Points b).bind fun f =>
  (sS f).bind fun g =>
  (sF a.rules c e f).bind fun h =>
  bif decide (h < 0) then ((bif e then (some (decide ((g.tmod 6) = 0))) else (some false)).bind fun i =>
  bif i then ((gT (bL.mk a.rules (cP.mk (dI.mk a.Score.Board.Sets a.Score.Board.Games f) a.Score.Server (w64 (a.Score.Ends + 1)) a.Score.Balls a.Score.Winner) a.first a.won a.ties a.games) g).bind fun j =>
  some (bL.mk a.rules (cP.mk (dI.mk a.Score.Board.Sets a.Score.Board.Games f) j (w64 (a.Score.Ends + 1)) a.Score.Balls a.Score.Winner) a.first a.won a.ties a.games))
  else ((gT (bL.mk a.rules (cP.mk (dI.mk a.Score.Board.Sets a.Score.Board.Games f) a.Score.Server a.Score.Ends a.Score.Balls a.Score.Winner) a.first a.won a.ties a.games) g).bind fun k =>
  some (bL.mk a.rules (cP.mk (dI.mk a.Score.Board.Sets a.Score.Board.Games f) k a.Score.Ends a.Score.Balls a.Score.Winner) a.first a.won a.ties a.games)))
  else ((gT (bL.mk a.rules (cP.mk (dI.mk a.Score.Board.Sets a.Score.Board.Games f) a.Score.Server a.Score.Ends a.Score.Balls a.Score.Winner) a.first a.won a.ties a.games) 0).bind fun l =>
  (nV (bL.mk a.rules (cP.mk (dI.mk a.Score.Board.Sets a.Score.Board.Games f) a.Score.Server a.Score.Ends a.Score.Balls a.Score.Winner) a.first a.won a.ties a.games)).bind fun m =>
  (app 56 a.games ([(mV.mk (a.Score.Board.Sets.length : Int) e l h f m)])).bind fun n =>
  (uY a.Score.Board.Games h).bind fun o =>
  (bif e then (some true) else ((pN o a.rules.Format.Games 2).bind fun p =>
  some (decide (0 ≤ p)))).bind fun q =>
  bif q then ((app 16 a.Score.Board.Sets ([o])).bind fun r =>
  (uY a.won h).bind fun s =>
  bif decide ((max s.A s.B) = a.rules.Format.Sets) then ((sS o).bind fun t =>
  (bif decide ((t.tmod 2) = 1) then (some (decide (h < 0))) else (some false)).bind fun u =>
  bif u then ((fR (bL.mk a.rules (cP.mk (dI.mk r (bH.mk 0 0) (bH.mk 0 0)) a.Score.Server (w64 (a.Score.Ends + 1)) a.Score.Balls h) a.first s a.ties n)).bind fun v =>
  some v)
  else ((fR (bL.mk a.rules (cP.mk (dI.mk r (bH.mk 0 0) (bH.mk 0 0)) a.Score.Server a.Score.Ends a.Score.Balls h) a.first s a.ties n)).bind fun w =>
  some w))
  else ((sS o).bind fun x =>
  (bif decide ((x.tmod 2) = 1) then (some (decide (a.Score.Winner < 0))) else (some false)).bind fun y =>
  bif y then ((fR (bL.mk a.rules (cP.mk (dI.mk r (bH.mk 0 0) (bH.mk 0 0)) a.Score.Server (w64 (a.Score.Ends + 1)) a.Score.Balls a.Score.Winner) a.first s a.ties n)).bind fun z =>
  some z)
  else ((fR (bL.mk a.rules (cP.mk (dI.mk r (bH.mk 0 0) (bH.mk 0 0)) a.Score.Server a.Score.Ends a.Score.Balls a.Score.Winner) a.first s a.ties n)).bind fun a0 =>
  some a0)))
  else ((sS o).bind fun a1 =>
  (bif decide ((a1.tmod 2) = 1) then (some (decide (a.Score.Winner < 0))) else (some false)).bind fun a2 =>
  bif a2 then ((fR (bL.mk a.rules (cP.mk (dI.mk a.Score.Board.Sets o (bH.mk 0 0)) a.Score.Server (w64 (a.Score.Ends + 1)) a.Score.Balls a.Score.Winner) a.first a.won a.ties n)).bind fun a3 =>
  some a3)
  else ((fR (bL.mk a.rules (cP.mk (dI.mk a.Score.Board.Sets o (bH.mk 0 0)) a.Score.Server a.Score.Ends a.Score.Balls a.Score.Winner) a.first a.won a.ties n)).bind fun a4 =>
  some a4)))
def aAw (a : List bH) (b : List Bool) (c : List mV) (d : gI) (e : bH) (f : bH) (g : Int) (h : Int) (i : Int) (j : Int) (k : Int) (l : bH) : Option ((Option bL) × Int) :=
  some ((some (bL.mk d (cP.mk (dI.mk a e f) g h i j) k l b c)), 0)
def rU (a : List Int) (b : Int) : Nat → Int → (List bH) → (List Bool) → (List mV) → gI → bH → bH → Int → Int → Int → Int → Int → bH → Option ((Option bL) × Int)
 | 0, _, _, _, _, _, _, _, _, _, _, _, _, _ => none
 | g + 1, h, i, j, k, l, m, n, o, p, q, r, s, t =>
  bif decide (h < b) then ((idx a h).bind fun c =>
  (bif !decide (c = 0) then (some (!decide (c = 1))) else (some false)).bind fun d =>
  (bif d then (some true) else (some (decide (0 ≤ r)))).bind fun e =>
  bif e then (some ((none : Option bL), 11))
  else ((rE (bL.mk l (cP.mk (dI.mk i m n) o p q r) s t j k) c).bind fun f =>
  (rU a b g) (w64 (h + 1)) f.Score.Board.Sets f.ties f.games f.rules f.Score.Board.Games f.Score.Board.Points f.Score.Server f.Score.Ends f.Score.Balls f.Score.Winner f.first f.won))
  else (aAw i j k l m n o p q r s t)
def aAn (a : eU) (b : Int) (c : List Int) : Option ((Option bL) × Int) :=
  (yJ a).bind fun d =>
  bif !decide (d = 0) then (some ((none : Option bL), d))
  else ((bif !decide (b = 0) then (some (!decide (b = 1))) else (some false)).bind fun e =>
  bif e then (some ((none : Option bL), 1))
  else (bif decide (600 < (c.length : Int)) then (some ((none : Option bL), 2))
  else ((yL (gI.mk a) b).bind fun f =>
  rU c (c.length : Int) BIG 0 f.Score.Board.Sets f.ties f.games f.rules f.Score.Board.Games f.Score.Board.Points f.Score.Server f.Score.Ends f.Score.Balls f.Score.Winner f.first f.won)))
def aAm (a : eU) (b : Int) (c : List Int) : Option (cP × Int) :=
  (aAn a b c).bind fun d =>
  bif !decide (d.2 = 0) then (some ((cP.mk (dI.mk ([] : List bH) (bH.mk 0 0) (bH.mk 0 0)) 0 0 0 0), d.2))
  else ((d.1).bind fun e =>
  some (e.Score, 0))
def vD (a : aJ) (b : List aE) (c : Int) (d : Int) : Option ((List Int) × Int) := iX a b c d
def dS : Option Bool :=
  (nA).bind fun a =>
  (qU a.1).bind fun b =>
  (qE).bind fun c =>
  (vD c.1 c.2 2 0).bind fun d =>
  (qD).bind fun e =>
  (aAm e.1 0 e.2).bind fun f =>
  (bif decide (b.2 = 0) then (some (decide (d.2 = 0))) else (some false)).bind fun g =>
  (bif g then (some (decide (f.2 = 0))) else (some false)).bind fun h =>
  (bif h then (some (decide ((b.1.length : Int) = 4))) else (some false)).bind fun i =>
  (bif i then ((idx b.1 0).bind fun j =>
  some (decide (j = 10))) else (some false)).bind fun k =>
  (bif k then (some (decide ((d.1.length : Int) = 4))) else (some false)).bind fun l =>
  (bif l then (some (decide (f.1.Balls = 2))) else (some false)).bind fun m =>
  some m
def nG (a : aU) : Option Int :=
  bif decide (a.Size = 4) then (some 2)
  else (some 3)
def oA (a : List Int) (b : aU) : Option Bool :=
  some (decide ((a.length : Int) = b.Size))
def fE (a : List Int) (b : aU) : Nat → Int → Option Bool
 | 0, _ => none
 | k + 1, l =>
  bif decide (l < (a.length : Int)) then ((idx a l).bind fun c =>
  (bif !decide (c = (-1)) then ((idx a l).bind fun d =>
  (fX b d).bind fun e =>
  (bif decide (e < 0) then (some true) else ((sub a 0 l).bind fun f =>
  (idx a l).bind fun g =>
  (mW f g).bind fun h =>
  some h)).bind fun i =>
  some i) else (some false)).bind fun j =>
  bif j then (some false)
  else ((fE a b k) (w64 (l + 1))))
  else (oA a b)
def kW (a : aU) (b : List Int) : Option Bool :=
  fE b a BIG 0
def gL (a : aU) (b : List Int) : Option Int :=
  (mI a).bind fun c =>
  bif !decide (c = 0) then (some 60)
  else ((kW a b).bind fun d =>
  bif !d then (some 61)
  else (some 0))
def qX (a : aP) (b : Int) : Option Bool :=
  some (decide (a.Player = b))
def qJ (a : aU) (b : Int) : Option Int :=
  (eN a.Persons (fun c => qX c b)).bind fun d =>
  some d
def rZ (a : aU) (b : List Int) : Option ((List Int) × Bool) :=
  some (b, decide ((b.length : Int) = a.Size))
def gQ (a : List Int) (b : Int) (c : aU) : Nat → Int → (List Int) → Option ((List Int) × Bool)
 | 0, _, _ => none
 | j + 1, k, l =>
  bif decide (k < b) then ((idx a k).bind fun d =>
  bif !decide (d = (-1)) then ((qJ c d).bind fun e =>
  (bif decide (e < 0) then (some true) else ((cR l e).bind fun f =>
  some f)).bind fun g =>
  bif g then (some (([] : List Int), false))
  else ((app 8 l ([e])).bind fun h =>
  (gQ a b c j) (w64 (k + 1)) h))
  else ((app 8 l ([(-1)])).bind fun i =>
  (gQ a b c j) (w64 (k + 1)) i))
  else (rZ c l)
def pF (a : aU) (b : List Int) : Option ((List Int) × Bool) :=
  gQ b (b.length : Int) a BIG 0 ([] : List Int)
def rL (a : aU) (b : List Int) : Option ((List Int) × Int) :=
  (pK a).bind fun c =>
  bif !decide (c = 0) then (some (([] : List Int), c))
  else ((pF a b).bind fun d =>
  bif !d.2 then (some (([] : List Int), 61))
  else (some (d.1, 0)))
def rY (a : List Int) : Option ((List Int) × Int) :=
  some (a, 0)
def fQ (a : List Int) (b : Int) : Nat → (List Int) → Int → (List Int) → Option ((List Int) × Int)
 | 0, _, _, _ => none
 | h + 1, i, j, k =>
  bif decide (j < b) then ((idx k j).bind fun c =>
  (bif decide (c = (-1)) then (some true) else ((cR a c).bind fun d =>
  some (!d))).bind fun e =>
  bif e then ((fQ a b h) i (w64 (j + 1)) k)
  else ((idx k j).bind fun _ =>
  bif decide (0 < (i.length : Int)) then ((idx i 0).bind fun f =>
  (sub i 1 (i.length : Int)).bind fun g =>
  (idx (k.set j.toNat (-1)) j).bind fun _ =>
  (fQ a b h) g (w64 (j + 1)) ((k.set j.toNat (-1)).set j.toNat f))
  else ((fQ a b h) i (w64 (j + 1)) (k.set j.toNat (-1)))))
  else (rY k)
def mM (a : List Int) (b : List Int) (c : List Int) : Option ((List Int) × Int) :=
  (fA a).bind fun d =>
  fQ b (d.length : Int) BIG c 0 d
def iV (a : List Int) (b : List Int) (c : List Int) (d : List Int) (e : Int) : Nat → Int → Option ((List Int) × Int)
 | 0, _ => none
 | m + 1, n =>
  bif decide (n < e) then ((idx d n).bind fun f =>
  (fS f 0 999).bind fun g =>
  (bif !g then (some true) else ((cR a f).bind fun h =>
  some h)).bind fun i =>
  (bif i then (some true) else ((sub c 0 n).bind fun j =>
  (cR j f).bind fun k =>
  some k)).bind fun l =>
  bif l then (some (([] : List Int), 1))
  else ((iV a b c d e m) (w64 (n + 1))))
  else (mM a b c)
def mL (a : List Int) (b : List Int) (c : List Int) : Option ((List Int) × Int) :=
  iV a b c c (c.length : Int) BIG 0
def iU (a : List Int) (b : List Int) (c : List Int) (d : List Int) (e : Int) : Nat → Int → Option ((List Int) × Int)
 | 0, _ => none
 | i + 1, j =>
  bif decide (j < e) then ((idx d j).bind fun f =>
  (bif decide (f = (-1)) then (some true) else ((cR a f).bind fun g =>
  some (!g))).bind fun h =>
  bif h then (some (([] : List Int), 1))
  else ((iU a b c d e i) (w64 (j + 1))))
  else (mL a b c)
def pE (a : aU) (b : List Int) (c : List Int) (d : List Int) : Option ((List Int) × Int) :=
  (rL a b).bind fun e =>
  bif !decide (e.2 = 0) then (some (([] : List Int), e.2))
  else (iU b c d c (c.length : Int) BIG 0)
def mT : Option Bool :=
  (dS).bind fun a =>
  some a
def dK (a : List Int) (b : List bX) : Nat → Int → Option Bool
 | 0, _ => none
 | i + 1, j =>
  bif decide (j < (a.length : Int)) then ((idx b (w64 (j.tdiv 2))).bind fun c =>
  (bif !decide (c.Round = 0) then (some true) else (some (!decide (c.Place = (w64 (j.tdiv 2)))))).bind fun d =>
  (bif d then (some true) else ((idx a j).bind fun e =>
  some (!decide (c.One = e)))).bind fun f =>
  (bif f then (some true) else ((idx a (w64 (j + 1))).bind fun g =>
  some (!decide (c.Two = g)))).bind fun h =>
  bif h then (some false)
  else ((dK a b i) (w64 (j + 2))))
  else (mT)
def kF (a : List Int) (b : aJ) (c : List aE) : Option Bool :=
  (pX b c).bind fun d =>
  (bif !decide (d.2 = 0) then (some true) else (some (!decide ((d.1.length : Int) = (w64 ((a.length : Int) - 1)))))).bind fun e =>
  bif e then (some false)
  else (dK a d.1 BIG 0)
def dZ (a : List Int) (b : eX) (c : aJ) : Nat → Int → (List aE) → Option Bool
 | 0, _, _ => none
 | k + 1, l, m =>
  bif decide (0 ≤ l) then ((idx a l).bind fun d =>
  (idx b.Sheet l).bind fun e =>
  bif decide (d = e) then ((dZ a b c k) (w64 (l - 1)) m)
  else ((idx a l).bind fun f =>
  bif decide (f = (-1)) then ((dS).bind fun g =>
  some g)
  else ((idx a l).bind fun h =>
  (idx b.Sheet l).bind fun i =>
  (app 40 m ([(aE.mk 5 0 l h i)])).bind fun j =>
  (dZ a b c k) (w64 (l - 1)) j)))
  else (kF a c m)
def kE (a : List Int) (b : aU) (c : eX) : Option Bool :=
  (nG b).bind fun d =>
  dZ a c (aJ.mk d c.Sheet) BIG (w64 ((a.length : Int) - 1)) ([] : List aE)
def dY (a : List Int) (b : aU) (c : eX) : Nat → Int → Option Bool
 | 0, _ => none
 | g + 1, h =>
  bif decide (h < (c.Lucky.length : Int)) then ((idx c.Lucky h).bind fun d =>
  (fX b d).bind fun e =>
  bif decide (0 ≤ e) then ((dS).bind fun f =>
  some f)
  else ((dY a b c g) (w64 (h + 1))))
  else (kE a b c)
def lV (a : aU) (b : eX) : Option Bool :=
  (bif decide (40 < (a.Persons.length : Int)) then (some true) else (some (decide (40 < (a.Lots.length : Int))))).bind fun c =>
  (bif c then (some true) else (some (decide (40 < (b.Sheet.length : Int))))).bind fun d =>
  (bif d then (some true) else (some (decide (20 < (b.Players.length : Int))))).bind fun e =>
  (bif e then (some true) else (some (decide (20 < (b.Lucky.length : Int))))).bind fun f =>
  (bif f then (some true) else ((gL a b.Sheet).bind fun g =>
  some (!decide (g = 0)))).bind fun h =>
  (bif h then (some true) else ((mJ a b.Sheet).bind fun i =>
  some (!i))).bind fun j =>
  bif j then ((dS).bind fun k =>
  some k)
  else ((pE a b.Sheet b.Players b.Lucky).bind fun l =>
  bif !decide (l.2 = 0) then ((bif decide (l.2 = 1) then ((dS).bind fun m =>
  some m) else (some false)).bind fun n =>
  some n)
  else (bif !decide ((l.1.length : Int) = (b.Sheet.length : Int)) then (some false)
  else (dY l.1 a b BIG 0)))
end Go.Am
