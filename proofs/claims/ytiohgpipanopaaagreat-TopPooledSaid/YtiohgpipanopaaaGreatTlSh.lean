/- Shallow functions, printed by program. -/
import Derived.Test.YtiohgpipanopaaaGreatTaSh
import Derived.Test.YtiohgpipanopaaaGreatAmNd
import Derived.Test.YtiohgpipanopaaaGreatAmSort
import Derived.Test.YtiohgpipanopaaaGreatAmBox
import Derived.Test.YtiohgpipanopaaaGreatAmSortF0
namespace Go.Am
structure aZ where
 Player : Int
 Nation : Int
 Qualified : Bool
 deriving DecidableEq, Inhabited
def aR (x : aZ) : List D := [.lit (.int .i64 x.Player), .lit (.int .i64 x.Nation), .lit (.bool x.Qualified)]
def aPh (x : List aZ) : List D := [.sl 3 (x.map aR)]
structure bA where
 Size : Int
 Seeds : Int
 Persons : List aZ
 Lots : List Int
 deriving DecidableEq, Inhabited
def aT (x : bA) : List D := [.lit (.int .i64 x.Size), .lit (.int .i64 x.Seeds), .sl 3 (x.Persons.map aR), .sl 1 (x.Lots.map aF)]
structure aD where
 round : Int
 place : Int
 deriving DecidableEq, Inhabited
def aL (x : aD) : List D := [.lit (.int .i64 x.round), .lit (.int .i64 x.place)]
structure bJ where
 Tree : aP
 players : List Int
 won : List (aD × Int)
 deriving DecidableEq, Inhabited
def bF (x : bJ) : List D := [.lit (.int .i64 x.Tree.Rounds), .sl 1 (x.Tree.Slots.map aF), .sl 1 (x.players.map aF), .mp false (x.won.map fun p : aD × Int => ((fun a : aD => Value.agg ((aL a).map bS).toArray) p.1, aF p.2))]
structure A3 (α : Type) where
 x0 : α
 x1 : α
 x2 : α
 deriving DecidableEq, Inhabited
def A3.at {α : Type} (a : A3 α) (p : Int) : α := if p = 0 then a.x0 else if p = 1 then a.x1 else a.x2
def A3.set {α : Type} (a : A3 α) (p : Int) (v : α) : A3 α := if p = 0 then { a with x0 := v } else if p = 1 then { a with x1 := v } else { a with x2 := v }
structure A6 (α : Type) where
 x0 : α
 x1 : α
 x2 : α
 x3 : α
 x4 : α
 x5 : α
 deriving DecidableEq, Inhabited
def A6.at {α : Type} (a : A6 α) (p : Int) : α := if p = 0 then a.x0 else if p = 1 then a.x1 else if p = 2 then a.x2 else if p = 3 then a.x3 else if p = 4 then a.x4 else a.x5
def A6.set {α : Type} (a : A6 α) (p : Int) (v : α) : A6 α := if p = 0 then { a with x0 := v } else if p = 1 then { a with x1 := v } else if p = 2 then { a with x2 := v } else if p = 3 then { a with x3 := v } else if p = 4 then { a with x4 := v } else { a with x5 := v }
structure bR where
 Player : Int
 One : Int
 Two : Int
 deriving DecidableEq, Inhabited
def bQ (x : bR) : List D := [.lit (.int .i64 x.Player), .lit (.int .i64 x.One), .lit (.int .i64 x.Two)]
structure dH where
 Person : Int
 Mille : Int
 deriving DecidableEq, Inhabited
def cM (x : dH) : List D := [.lit (.int .i64 x.Person), .lit (.int .i64 x.Mille)]
structure cS where
 Person : Int
 Num : Int
 Den : Int
 deriving DecidableEq, Inhabited
def cP (x : cS) : List D := [.lit (.int .i64 x.Person), .lit (.int .i64 x.Num), .lit (.int .i64 x.Den)]
structure aN where
 Id : Int
 Kind : Int
 Person : Int
 Amount : Int
 deriving DecidableEq, Inhabited
def aI (x : aN) : List D := [.lit (.int .i64 x.Id), .lit (.int .i64 x.Kind), .lit (.int .i64 x.Person), .lit (.int .i64 x.Amount)]
structure bB where
 Tree : aP
 Slips : List aG
 Prizes : List Int
 Daily : Int
 Teams : List bR
 Levies : List dH
 Rates : List cS
 Items : List aN
 deriving DecidableEq, Inhabited
def aY (x : bB) : List D := [.lit (.int .i64 x.Tree.Rounds), .sl 1 (x.Tree.Slots.map aF), .sl 5 (x.Slips.map aM), .sl 1 (x.Prizes.map aF), .lit (.int .i64 x.Daily), .sl 3 (x.Teams.map bQ), .sl 2 (x.Levies.map cM), .sl 3 (x.Rates.map cP), .sl 4 (x.Items.map aI)]
structure nY where
 First : Int
 Second : Int
 Prizes : List Int
 deriving DecidableEq, Inhabited
def jT (x : nY) : List D := [.lit (.int .i64 x.First), .lit (.int .i64 x.Second), .sl 1 (x.Prizes.map aF)]
def aGm (x : aZ) : Prop := okI x.Player ∧ okI x.Nation ∧ okB x.Qualified
def aSo (x : bA) : Prop := okI x.Size ∧ okI x.Seeds ∧ (okL aGm) x.Persons ∧ (okL okI) x.Lots
def aEr (x : nY) : Prop := okI x.First ∧ okI x.Second ∧ (okL okI) x.Prizes
def fB (a : Int) (b : Int) (c : Int) : Option Bool :=
  (bif decide (b ≤ a) then (some (decide (a ≤ c))) else (some false)).bind fun d =>
  some d
def vT (a : Int → Option Int) (_ : Int) (b : Int) (_ : bA) : Option Int :=
  a (w64 (b + 1))
def vU (a : Int → Option Int) (b : Int) (c : Int) (d : bA) : Option Int :=
  vT a b c d
def jY (a : Int → Option Int) (b : Int) (c : Int) (d : bA) (e : aZ) : Nat → Int → Option Int
 | 0, _ => none
 | g + 1, h =>
  bif decide (h < c) then ((idx d.Persons h).bind fun f =>
  bif decide (f.Player = e.Player) then (some 60)
  else ((jY a b c d e g) (w64 (h + 1))))
  else (vU a b c d)
def vV : Option Int :=
  some 0
def jZ (a : bA) : Nat → Int → Option Int
 | 0, _ => none
 | d + 1, e =>
  bif decide (e < (a.Lots.length : Int)) then ((idx a.Lots e).bind fun b =>
  (fB b 0 999999).bind fun c =>
  bif !c then (some 60)
  else ((jZ a d) (w64 (e + 1))))
  else (vV)
def rQ (a : bA) : Option Int :=
  jZ a BIG 0
def eY (a : Int) (b : bA) : Nat → Int → Option Int
 | 0, _ => none
 | i + 1, j =>
  bif decide (j < a) then ((idx b.Persons j).bind fun c =>
  (fB c.Player 0 999).bind fun d =>
  (bif !d then (some true) else ((fB c.Nation 0 9).bind fun e =>
  some (!e))).bind fun f =>
  (bif f then (some true) else ((bif decide (j < b.Seeds) then (some c.Qualified) else (some false)).bind fun g =>
  some g)).bind fun h =>
  bif h then (some 60)
  else (jY (eY a b i) a j b c BIG 0))
  else (rQ b)
def oD (a : bA) : Option Int :=
  (bif !decide (a.Size = 4) then (some (!decide (a.Size = 8))) else (some false)).bind fun b =>
  (bif b then (some true) else ((fB (a.Persons.length : Int) 2 a.Size).bind fun c =>
  some (!c))).bind fun d =>
  (bif d then (some true) else ((fB a.Seeds 0 (min (a.Persons.length : Int) (w64 (a.Size.tdiv 2)))).bind fun e =>
  some (!e))).bind fun f =>
  (bif f then (some true) else (some (decide ((w64 (a.Size.tdiv 2)) < (w64 (a.Size - (a.Persons.length : Int))))))).bind fun g =>
  (bif g then (some true) else (some (decide (10 < (a.Lots.length : Int))))).bind fun h =>
  bif h then (some 60)
  else (eY (a.Persons.length : Int) a BIG 0)
def yU : Option Bool :=
  some false
def lO (a : List Int) (b : Int) : Nat → Int → Option Bool
 | 0, _ => none
 | d + 1, e =>
  bif decide (e < (a.length : Int)) then ((idx a e).bind fun c =>
  bif decide (c = b) then (some true)
  else ((lO a b d) (w64 (e + 1))))
  else (yU)
def qA (a : List Int) (b : Int) : Option Bool :=
  lO a b BIG 0
def uS : Option Bool :=
  some true
def jI (a : List Int) (b : bA) : Nat → Int → Option Bool
 | 0, _ => none
 | e + 1, f =>
  bif decide (f < (b.Persons.length : Int)) then ((idx b.Persons f).bind fun c =>
  (qA a c.Player).bind fun d =>
  bif !d then (some false)
  else ((jI a b e) (w64 (f + 1))))
  else (uS)
def qG (a : bA) (b : List Int) : Option Bool :=
  jI b a BIG 0
def uQ : Option Int :=
  some (-1)
def jH (a : Int) (b : bA) : Nat → Int → Option Int
 | 0, _ => none
 | d + 1, e =>
  bif decide (e < (b.Persons.length : Int)) then ((idx b.Persons e).bind fun c =>
  bif decide (c.Player = a) then (some e)
  else ((jH a b d) (w64 (e + 1))))
  else (uQ)
def nB (a : bA) (b : Int) : Option Int :=
  jH b a BIG 0
def kI (a : bA) (b : Int) (c : Int) : Option Bool :=
  (bif decide (b = (-1)) then (some true) else (some (decide (c = (-1))))).bind fun d =>
  bif d then (some (!decide (b = c)))
  else ((nB a b).bind fun e =>
  (idx a.Persons e).bind fun f =>
  (nB a c).bind fun g =>
  (idx a.Persons g).bind fun h =>
  (bif decide (f.Nation = 0) then (some true) else (some (!decide (f.Nation = h.Nation)))).bind fun i =>
  (bif i then ((bif f.Qualified then (some h.Qualified) else (some false)).bind fun j =>
  some (!j)) else (some false)).bind fun k =>
  some k)
def wM : Option Int :=
  some (-1)
def kJ (a : List Int) (b : Int) : Nat → Int → Option Int
 | 0, _ => none
 | d + 1, e =>
  bif decide (e < (a.length : Int)) then ((idx a e).bind fun c =>
  bif decide (c = b) then (some e)
  else ((kJ a b d) (w64 (e + 1))))
  else (wM)
def sK (a : List Int) (b : Int) : Option Int :=
  kJ a b BIG 0
def uR (a : Int) : Option Int :=
  some (aHw a 1)
def vW : Option Bool :=
  some true
def kB (a : List Int) (b : Int) (c : bA) : Nat → Int → Option Bool
 | 0, _ => none
 | n + 1, o =>
  bif decide (o < c.Seeds) then ((idx c.Persons o).bind fun d =>
  (sK a d.Player).bind fun e =>
  (bif decide (o = 0) then (some (!decide (e = 0))) else (some false)).bind fun f =>
  (bif f then (some true) else ((bif decide (o = 1) then (some (!decide (e = (w64 (c.Size - 1))))) else (some false)).bind fun g =>
  some g)).bind fun h =>
  (bif h then (some true) else ((bif decide (2 ≤ o) then (some (!decide (e = (w64 (c.Size.tdiv 4))))) else (some false)).bind fun i =>
  (bif i then (some (!decide (e = (w64 ((w64 (c.Size - 1)) - (w64 (c.Size.tdiv 4))))))) else (some false)).bind fun j =>
  some j)).bind fun k =>
  bif k then (some false)
  else ((uR e).bind fun l =>
  (idx a l).bind fun m =>
  bif !decide ((decide (o < b)) = (decide (m = (-1)))) then (some false)
  else ((kB a b c n) (w64 (o + 1)))))
  else (vW)
def nS (a : List Int) (b : bA) : Option Bool :=
  kB a (w64 (b.Size - (b.Persons.length : Int))) b BIG 0
def kA (a : List Int) (b : bA) : Nat → Int → Option Bool
 | 0, _ => none
 | f + 1, g =>
  bif decide (g < b.Size) then ((idx a g).bind fun c =>
  (idx a (w64 (g + 1))).bind fun d =>
  (kI b c d).bind fun e =>
  bif !e then (some false)
  else ((kA a b f) (w64 (g + 2))))
  else (nS a b)
def rD (a : bA) (b : List Int) : Option Bool :=
  (qG a b).bind fun c =>
  bif !c then (some false)
  else (kA b a BIG 0)
def pR (a : (List Int) → Int → Option ((List Int))) (b : List Int) (c : Int) (_ : bA) : Option ((List Int)) :=
  a b (w64 (c + 1))
def kF (a : (List Int) → Int → Option ((List Int))) (b : List Int) (c : Int) (d : Int) (e : Int) (f : bA) : Option ((List Int)) :=
  (sub b e (b.length : Int)).bind fun g =>
  (app 8 ([d]) g).bind fun h =>
  (sub b 0 e).bind fun i =>
  (app 8 ([] : List Int) i).bind fun j =>
  (app 8 j h).bind fun k =>
  pR a k c f
def iL (a : (List Int) → Int → Option ((List Int))) (b : List Int) (c : Int) (d : Int) (e : bA) : Nat → Int → Option ((List Int))
 | 0, _ => none
 | h + 1, i =>
  (bif decide (i < (b.length : Int)) then ((idx b i).bind fun f =>
  some (decide (f < d))) else (some false)).bind fun g =>
  bif g then ((iL a b c d e h) (w64 (i + 1)))
  else (kF a b c d i e)
def tR (a : List Int) : Option ((List Int)) :=
  some a
def dZ (a : bA) : Nat → (List Int) → Int → Option ((List Int))
 | 0, _, _ => none
 | c + 1, d, e =>
  bif decide (e < (a.Persons.length : Int)) then ((idx a.Persons e).bind fun b =>
  iL (dZ a c) d e b.Player a BIG 0)
  else (tR d)
def pC (a : bA) : Option ((List Int)) :=
  dZ a BIG ([] : List Int) 0
def wL (a : Int) : Option Int :=
  some a
def iU (a : List Int) (b : Int) : Nat → Int → Int → Option Int
 | 0, _, _ => none
 | d + 1, e, f =>
  bif decide (f < (a.length : Int)) then ((idx a f).bind fun c =>
  bif decide (c = b) then ((iU a b d) (w64 (e + 1)) (w64 (f + 1)))
  else ((iU a b d) e (w64 (f + 1))))
  else (wL e)
def sJ (a : List Int) (b : Int) : Option Int :=
  iU a b BIG 0 0
def wK : Option Bool :=
  some true
def fH (a : List Int) (b : Int) (c : bA) : Nat → Int → Option Bool
 | 0, _ => none
 | h + 1, i =>
  bif decide (i < c.Seeds) then ((idx a b).bind fun d =>
  (idx c.Persons i).bind fun e =>
  bif decide (i = 0) then (bif !decide ((decide (d = e.Player)) = (decide (b = 0))) then (some false)
  else ((fH a b c h) (w64 (i + 1))))
  else (bif decide (i = 1) then (bif !decide ((decide (d = e.Player)) = (decide (b = (w64 (c.Size - 1))))) then (some false)
  else ((fH a b c h) (w64 (i + 1))))
  else ((bif decide (d = e.Player) then (some (!decide (b = (w64 (c.Size.tdiv 4))))) else (some false)).bind fun f =>
  (bif f then (some (!decide (b = (w64 ((w64 (c.Size - 1)) - (w64 (c.Size.tdiv 4))))))) else (some false)).bind fun g =>
  bif g then (some false)
  else ((fH a b c h) (w64 (i + 1))))))
  else (wK)
def sI (a : bA) (b : List Int) : Option Bool :=
  (bif decide (((w64 ((b.length : Int) - 1)).tmod 2) = 1) then ((idx b (w64 ((w64 ((b.length : Int) - 1)) - 1))).bind fun c =>
  (idx b (w64 ((b.length : Int) - 1))).bind fun d =>
  (kI a c d).bind fun e =>
  some (!e)) else (some false)).bind fun f =>
  bif f then (some false)
  else (fH b (w64 ((b.length : Int) - 1)) a BIG 0)
def zR (_ : bA → (List Int) → Int → Option ((List (List Int)))) (a : List (List Int)) : Option ((List (List Int))) :=
  some a
def fG (a : bA → (List Int) → Int → Option ((List (List Int)))) (b : List Int) (c : Int) (d : List Int) (e : bA) : Nat → Int → (List (List Int)) → Option ((List (List Int)))
 | 0, _, _ => none
 | u + 1, v, w =>
  (bif decide (v < (d.length : Int)) then (some (decide ((w.length : Int) ≤ c))) else (some false)).bind fun f =>
  bif f then ((idx d v).bind fun g =>
  (bif decide (g = (-1)) then ((sJ b (-1)).bind fun h =>
  some (decide (h = (w64 (e.Size - (e.Persons.length : Int)))))) else (some false)).bind fun i =>
  (bif i then (some true) else ((idx d v).bind fun j =>
  (bif !decide (j = (-1)) then ((idx d v).bind fun k =>
  (qA b k).bind fun l =>
  some l) else (some false)).bind fun m =>
  some m)).bind fun n =>
  bif n then ((fG a b c d e u) (w64 (v + 1)) w)
  else ((app 8 ([] : List Int) b).bind fun o =>
  (idx d v).bind fun p =>
  (app 8 o ([p])).bind fun q =>
  (sI e q).bind fun r =>
  bif r then ((a e q (w64 (c - (w.length : Int)))).bind fun s =>
  (app 24 w s).bind fun t =>
  (fG a b c d e u) (w64 (v + 1)) t)
  else ((fG a b c d e u) (w64 (v + 1)) w)))
  else (zR a w)
def fV : Nat → bA → (List Int) → Int → Option ((List (List Int)))
 | 0, _, _, _ => none
 | d + 1, e, f, g =>
  bif decide ((f.length : Int) = e.Size) then ((rD e f).bind fun a =>
  bif a then (some ([f]))
  else (some ([] : List (List Int))))
  else ((pC e).bind fun b =>
  (app 8 ([(-1)]) b).bind fun c =>
  fG (fV d) f g c e BIG 0 ([] : List (List Int)))
def xS : bA → (List Int) → Int → Option ((List (List Int))) := fV BIG
def tQ (a : bA) : Option Bool :=
  (bif decide (40 < (a.Persons.length : Int)) then (some true) else (some (decide (40 < (a.Lots.length : Int))))).bind fun b =>
  (bif b then (some true) else ((oD a).bind fun c =>
  (bif decide (c = 0) then ((xS a ([] : List Int) 300).bind fun d =>
  some (decide (300 < (d.length : Int)))) else (some false)).bind fun e =>
  some e)).bind fun f =>
  some f
def sH : Option (bA × bA) :=
  some ((bA.mk 4 1 ([(aZ.mk 10 1 false), (aZ.mk 20 2 false), (aZ.mk 30 1 false)]) ([5, 4])), (bA.mk 4 0 ([(aZ.mk 1 1 false), (aZ.mk 2 1 false), (aZ.mk 3 2 false), (aZ.mk 4 0 false)]) ([] : List Int)))
def kL (a : Int) (b : Int) (c : Int) : Option Bool :=
  (bif decide (b ≤ a) then (some (decide (a ≤ c))) else (some false)).bind fun d =>
  some d
def mW : Option Int :=
  some (-1)
def eD (a : List aZ) (b : aZ → Option Bool) (c : Int) : Nat → Int → Option Int
 | 0, _ => none
 | f + 1, g =>
  bif decide (g < c) then ((idx a g).bind fun d =>
  (b d).bind fun e =>
  bif e then (some g)
  else ((eD a b c f) (w64 (g + 1))))
  else (mW)
def jA (a : List aZ) (b : aZ → Option Bool) : Option Int :=
  eD a b (a.length : Int) BIG 0
def gK (a : List aZ) (b : aZ → Option Bool) : Option Bool :=
  (jA a b).bind fun c =>
  some (decide (0 ≤ c))
def yN (a : aZ) (b : aZ) : Option Bool :=
  some (decide (a.Player = b.Player))
def rZ : Option Int :=
  some (-1)
def gB (a : List Int) (b : Int → Option Bool) (c : Int) : Nat → Int → Option Int
 | 0, _ => none
 | f + 1, g =>
  bif decide (g < c) then ((idx a g).bind fun d =>
  (b d).bind fun e =>
  bif e then (some g)
  else ((gB a b c f) (w64 (g + 1))))
  else (rZ)
def mX (a : List Int) (b : Int → Option Bool) : Option Int :=
  gB a b (a.length : Int) BIG 0
def kW (a : List Int) (b : Int → Option Bool) : Option Bool :=
  (mX a b).bind fun c =>
  some (decide (0 ≤ c))
def yO (a : Int) : Option Bool :=
  (kL a 0 999999).bind fun b =>
  some (!b)
def xN (a : bA) : Option Int :=
  (kW a.Lots (fun b => yO b)).bind fun c =>
  bif c then (some 60)
  else (some 0)
def oG (a : List aZ) (b : Int) (c : bA) : Nat → Int → Option Int
 | 0, _ => none
 | n + 1, o =>
  bif decide (o < b) then ((idx a o).bind fun d =>
  (sub c.Persons 0 o).bind fun e =>
  (gK e (fun f => yN f d)).bind fun g =>
  (bif g then (some true) else ((kL d.Player 0 999).bind fun h =>
  some (!h))).bind fun i =>
  (bif i then (some true) else ((kL d.Nation 0 9).bind fun j =>
  some (!j))).bind fun k =>
  (bif k then (some true) else ((bif decide (o < c.Seeds) then (some d.Qualified) else (some false)).bind fun l =>
  some l)).bind fun m =>
  bif m then (some 60)
  else ((oG a b c n) (w64 (o + 1))))
  else (xN c)
def tC (a : bA) : Option Int :=
  (bif !decide (a.Size = 4) then (some (!decide (a.Size = 8))) else (some false)).bind fun b =>
  (bif b then (some true) else ((kL (a.Persons.length : Int) 2 a.Size).bind fun c =>
  some (!c))).bind fun d =>
  (bif d then (some true) else (some (decide ((w64 (a.Size.tdiv 2)) < (w64 (a.Size - (a.Persons.length : Int))))))).bind fun e =>
  (bif e then (some true) else ((kL a.Seeds 0 (min (w64 (a.Size.tdiv 2)) (a.Persons.length : Int))).bind fun f =>
  some (!f))).bind fun g =>
  (bif g then (some true) else (some (decide (10 < (a.Lots.length : Int))))).bind fun h =>
  bif h then (some 60)
  else (oG a.Persons (a.Persons.length : Int) a BIG 0)
def rW (x : List Int) (a : Int → Int → Option Int) : Option (List Int) := aQu x a
def iK (a : Int) (b : Int) (c : bA) : Option Int :=
  (idx c.Persons a).bind fun d =>
  (idx c.Persons b).bind fun e =>
  some (w64 (d.Player - e.Player))
def oH (a : bA) (b : List Int) : Option (List Int) :=
  (rW b (fun c d => iK c d a)).bind fun e =>
  (app 8 ([(-1)]) e).bind fun f =>
  some f
def oI (a : Int) (b : bA) : Nat → Int → (List Int) → Option (List Int)
 | 0, _, _ => none
 | d + 1, e, f =>
  bif decide (e < a) then ((app 8 f ([e])).bind fun c =>
  (oI a b d) (w64 (e + 1)) c)
  else (oH b f)
def mL (a : bA) : Option (List Int) :=
  oI (a.Persons.length : Int) a BIG 0 ([] : List Int)
def fA (a : List Int) : Option ((List Int)) :=
  (app 8 ([] : List Int) a).bind fun b =>
  some b
def wA : Option Int :=
  some (-1)
def kC (a : List Int) (b : Int) (c : Int) : Nat → Int → Option Int
 | 0, _ => none
 | e + 1, f =>
  bif decide (f < c) then ((idx a f).bind fun d =>
  bif decide (b = d) then (some f)
  else ((kC a b c e) (w64 (f + 1))))
  else (wA)
def gT (a : List Int) (b : Int) : Option Int :=
  kC a b (a.length : Int) BIG 0
def cO (a : List Int) (b : Int) : Option Bool :=
  (gT a b).bind fun c =>
  some (decide (0 ≤ c))
def zZ (a : bA) (b : Int) (c : Int) : Option Bool :=
  (bif decide (b = 0) then (some (decide (0 < a.Seeds))) else (some false)).bind fun d =>
  bif d then (some (decide (c = 0)))
  else ((bif decide (b = (w64 (a.Size - 1))) then (some (decide (1 < a.Seeds))) else (some false)).bind fun e =>
  bif e then (some (decide (c = 1)))
  else ((bif decide (c = (-1)) then (some true) else (some (decide (a.Seeds ≤ c)))).bind fun f =>
  bif f then (some true)
  else ((bif decide (1 < c) then ((cO ([w64 (a.Size.tdiv 4), w64 ((w64 (a.Size - 1)) - (w64 (a.Size.tdiv 4)))]) b).bind fun g =>
  some g) else (some false)).bind fun h =>
  some h)))
def yK (a : bA) (b : Int) (c : Int) : Option Bool :=
  (bif decide (b = (-1)) then (some true) else (some (decide (c = (-1))))).bind fun d =>
  bif d then (some (!decide (b = c)))
  else ((idx a.Persons b).bind fun e =>
  (idx a.Persons c).bind fun f =>
  (bif !decide (e.Nation = f.Nation) then (some true) else (some (decide (e.Nation = 0)))).bind fun g =>
  (bif g then ((bif e.Qualified then (some f.Qualified) else (some false)).bind fun h =>
  some (!h)) else (some false)).bind fun i =>
  some i)
def sA (a : Int) (b : Int) (c : bA) (d : Int) : Option Bool :=
  (bif decide (a = (-1)) then (some true) else (some (decide (c.Seeds ≤ a)))).bind fun e =>
  (bif e then (some true) else (some (decide ((decide (b = (-1))) = (decide (a < d)))))).bind fun f =>
  some f
def vM (a : bA) (b : Int) (c : Int) : Option Bool :=
  (bif decide ((w64 (a.Size - (a.Persons.length : Int))) ≤ a.Seeds) then ((bif decide (b = (-1)) then (some (decide (a.Seeds ≤ c))) else (some false)).bind fun d =>
  (bif d then (some true) else ((bif decide (c = (-1)) then (some (decide (a.Seeds ≤ b))) else (some false)).bind fun e =>
  some e)).bind fun f =>
  some f) else (some false)).bind fun g =>
  bif g then (some false)
  else ((yK a b c).bind fun h =>
  (bif h then ((sA b c a (w64 (a.Size - (a.Persons.length : Int)))).bind fun i =>
  some i) else (some false)).bind fun j =>
  (bif j then ((sA c b a (w64 (a.Size - (a.Persons.length : Int)))).bind fun k =>
  some k) else (some false)).bind fun l =>
  some l)
def wS {S : Type} (_ : S → (List Int) → Option (S × Bool)) (_ : (List Int) → Int → bA → (List Int) → S → Option (S × Bool)) (_ : List Int) (a : S) (_ : bA) (_ : List Int) : Option (S × Bool) :=
  some (a, true)
def iY {S : Type} (a : S → (List Int) → Option (S × Bool)) (b : (List Int) → Int → bA → (List Int) → S → Option (S × Bool)) (c : Int) (d : bA) (e : Int) (f : List Int) (g : Int) (h : List Int) (i : bA) (j : List Int) : Nat → Int → S → Option (S × Bool)
 | 0, _, _ => none
 | x + 1, y, z =>
  bif decide (y < g) then ((idx f y).bind fun k =>
  (bif decide (k = (-1)) then (some (w64 (c - 1)))
  else (some c)).bind fun l =>
  (bif decide (l < 0) then (some true) else ((bif !decide (k = (-1)) then ((cO h k).bind fun m =>
  some m) else (some false)).bind fun n =>
  some n)).bind fun o =>
  (bif o then (some true) else ((zZ d e k).bind fun p =>
  some (!p))).bind fun q =>
  (bif q then (some true) else ((bif decide ((e.tmod 2) = 1) then ((idx h (w64 (e - 1))).bind fun r =>
  (vM d r k).bind fun s =>
  some (!s)) else (some false)).bind fun t =>
  some t)).bind fun u =>
  bif u then ((iY a b c d e f g h i j x) (w64 (y + 1)) z)
  else ((aLy i.Size h ([k])).bind fun v =>
  (b v l i j z).bind fun w =>
  bif !w.2 then (some (w.1, false))
  else ((iY a b c d e f g h i j x) (w64 (y + 1)) w.1)))
  else (wS a b h z i j)
def iG {S : Type} (a : S → (List Int) → Option (S × Bool)) : Nat → (List Int) → Int → bA → (List Int) → S → Option (S × Bool)
 | 0, _, _, _, _, _ => none
 | d + 1, e, f, g, h, i =>
  bif decide ((e.length : Int) = g.Size) then ((fA e).bind fun b =>
  (a i b).bind fun c =>
  some c)
  else (iY a (iG a d) f g (e.length : Int) h (h.length : Int) e g h BIG 0 i)
def zY {S : Type} (a : S → (List Int) → Option (S × Bool)) : (List Int) → Int → bA → (List Int) → S → Option (S × Bool) := iG a BIG
def vE {S : Type} (a : S → (List Int) → Option (S × Bool)) (b : bA) (c : List Int) (d : S) : Option (S × Bool) :=
  (mk0 8 b.Size).bind fun _ =>
  (zY a ([] : List Int) (w64 (b.Size - (b.Persons.length : Int))) b c d).bind fun e =>
  some e
def aBb (a : List Int) : Option ((List Int)) :=
  some a
def mB (a : List Int) (b : Int) (c : bA) : Nat → Int → (List Int) → Option ((List Int))
 | 0, _, _ => none
 | h + 1, i, j =>
  bif decide (i < b) then ((idx a i).bind fun d =>
  bif decide (d = (-1)) then ((app 8 j ([(-1)])).bind fun e =>
  (mB a b c h) (w64 (i + 1)) e)
  else ((idx c.Persons d).bind fun f =>
  (app 8 j ([f.Player])).bind fun g =>
  (mB a b c h) (w64 (i + 1)) g))
  else (aBb j)
def tD (a : bA) (b : List Int) : Option ((List Int)) :=
  mB b (b.length : Int) a BIG 0 ([] : List Int)
def sO (a : bA) (b : Int) : Option ((List Int) × Bool) :=
  (mL a).bind fun c =>
  (vE (S := Int × (List Int) × Bool) (fun d e =>
  bif decide (d.1 = 0) then ((tD a e).bind fun f =>
  some ((d.1, f, true), false))
  else (some ((w64 (d.1 - 1), d.2.1, d.2.2), true))) a c (b, ([] : List Int), false)).bind fun g =>
  bif g.2 then (some (([] : List Int), false))
  else (some (g.1.2.1, g.1.2.2))
def fL (a : Int) (b : Int) (c : Int) : Option Bool :=
  (bif decide (b ≤ a) then (some (decide (a ≤ c))) else (some false)).bind fun d =>
  some d
def xR : Option Bool :=
  some true
def jR (a : List Int) (b : Int) (c : aP) : Nat → Int → (List (Int × Int)) → Option Bool
 | 0, _, _ => none
 | h + 1, i, j =>
  bif decide (i < b) then ((idx a i).bind fun d =>
  bif decide (d = (-1)) then ((idx c.Slots (aHw i 1)).bind fun e =>
  bif decide (e = (-1)) then (some false)
  else ((jR a b c h) (w64 (i + 1)) j))
  else ((bif decide (1 < (cW d 0 (gA d (w64 ((cW d 0 j) + 1)) j))) then (some true) else ((fL d 0 999).bind fun f =>
  some (!f))).bind fun g =>
  bif g then (some false)
  else ((jR a b c h) (w64 (i + 1)) (gA d (w64 ((cW d 0 j) + 1)) j))))
  else (xR)
def qY (a : aP) : Option Bool :=
  (fL a.Rounds 1 5).bind fun b =>
  (bif !b then (some true) else ((chk (decide (0 ≤ a.Rounds))).bind fun _ =>
  some (!decide ((a.Slots.length : Int) = (w64 (1 * 2 ^ (min a.Rounds.toNat 64))))))).bind fun c =>
  bif c then (some false)
  else (jR a.Slots (a.Slots.length : Int) a BIG 0 ([] : List (Int × Int)))
def oO : Option Int :=
  some (-1)
def eP (a : List aG) (b : aG → Option Bool) (c : Int) : Nat → Int → Option Int
 | 0, _ => none
 | f + 1, g =>
  bif decide (g < c) then ((idx a g).bind fun d =>
  (b d).bind fun e =>
  bif e then (some g)
  else ((eP a b c f) (w64 (g + 1))))
  else (oO)
def kE (a : List aG) (b : aG → Option Bool) : Option Int :=
  eP a b (a.length : Int) BIG 0
def iP (a : List aG) (b : aG → Option Bool) : Option Bool :=
  (kE a b).bind fun c =>
  some (decide (0 ≤ c))
def oB (a : aD) (b : aP) : Option Bool :=
  (fL a.round 0 (w64 (b.Rounds - 1))).bind fun c =>
  (bif c then ((chk (decide (0 ≤ (w64 (a.round + 1))))).bind fun _ =>
  (fL a.place 0 (w64 (((b.Slots.length : Int).fdiv (2 ^ (min (w64 (a.round + 1)).toNat 64))) - 1))).bind fun d =>
  some d) else (some false)).bind fun e =>
  some e
def tP (a : aP) (b : aG) : Option Bool :=
  (fL b.Player 0 999).bind fun c =>
  bif !c then (some false)
  else (bif decide (b.Kind = 5) then ((bif decide (b.Round = 0) then ((fL b.Place 0 (w64 ((a.Slots.length : Int) - 1))).bind fun d =>
  some d) else (some false)).bind fun e =>
  (bif e then ((fL b.Old 0 999).bind fun f =>
  some f) else (some false)).bind fun g =>
  some g)
  else ((fL b.Kind 1 4).bind fun h =>
  (bif !h then (some true) else (some (!decide (b.Old = 0)))).bind fun i =>
  (bif i then (some true) else ((oB (aD.mk b.Round b.Place) a).bind fun j =>
  some (!j))).bind fun k =>
  bif k then (some false)
  else ((bif decide (0 < b.Round) then (some true) else ((sub a.Slots (w64 (2 * b.Place)) (w64 ((w64 (2 * b.Place)) + 2))).bind fun l =>
  (cO l (-1)).bind fun m =>
  some (!m))).bind fun n =>
  some n)))
def qZ (a : aG) (b : aP) : Option Bool :=
  (tP b a).bind fun c =>
  some (!c)
def qO (a : (aG × Bool) → Prop) (_ : List Int) (_ : aP) (_ : List (aG × Int)) (_ : aG) : Prop :=
  a ((aG.mk 0 0 0 0 0), false)
def jF (a : (aG × Bool) → Prop) (b : Int) (c : List Int) (d : aP) (e : List (aG × Int)) : Nat → aG → (List (aG × Int)) → Prop
 | 0, _, _ => False
 | j + 1, k, l =>
  aVb l (qO a c d e k)
  (fun f g =>
  nb (bif decide (f.1.Place = b) then ((idx c b).bind fun h =>
  some (decide (f.1.Old = h))) else (some false)) fun i =>
  bif i then (a (f.1, true))
  else ((jF a b c d e j) k g))
def jQ (a : aP) (b : List Int) (c : List (aG × Int)) (d : Int) (Q : (aG × Bool) → Prop) : Prop :=
  aHd c fun e =>
  jF Q d b a c BIG (aG.mk 0 0 0 0 0) e
def nP (_ : (Bool × (List Int) × (List (aG × Int))) → Prop) (a : Int → (List Int) → (List (aG × Int)) → (List Int) → Prop) (_ : Int) (b : Int) (c : List Int) (_ : aP) (d : List (aG × Int)) (e : List Int) : Prop :=
  a (w64 (b + 1)) c d e
def nQ (a : (Bool × (List Int) × (List (aG × Int))) → Prop) (b : Int → (List Int) → (List (aG × Int)) → (List Int) → Prop) (c : Int) (d : Int) (e : List Int) (f : aP) (g : List (aG × Int)) (h : List Int) : Prop :=
  nP a b c d e f g h
def dY (a : (Bool × (List Int) × (List (aG × Int))) → Prop) (b : Int → (List Int) → (List (aG × Int)) → (List Int) → Prop) (c : Int) (d : Int) (e : Int) (f : aP) : Nat → Bool → (List Int) → (List (aG × Int)) → aG → (List Int) → Prop
 | 0, _, _, _, _, _ => False
 | j + 1, k, l, m, n, o =>
  bif k then (nb (cO o n.Player) fun g =>
  bif g then (a (false, l, m))
  else (nb (idx l c) fun _ =>
  nb (app 8 o ([n.Player])) fun h =>
  jQ f (l.set c.toNat n.Player) (tE n m) c fun i =>
  (dY a b c d e f j) i.2 (l.set c.toNat n.Player) (tE n m) i.1 h))
  else (nQ a b d e l f m o)
def nO (a : (Bool × (List Int) × (List (aG × Int))) → Prop) (b : List Int) (_ : aP) (c : List (aG × Int)) : Prop :=
  a (decide ((c.length : Int) = 0), b, c)
def dA (a : (Bool × (List Int) × (List (aG × Int))) → Prop) (b : Int) (c : aP) : Nat → Int → (List Int) → (List (aG × Int)) → (List Int) → Prop
 | 0, _, _, _, _ => False
 | e + 1, f, g, h, i =>
  bif decide (f < b) then (jQ c g h f fun d =>
  dY a (dA a b c e) f b f c BIG d.2 g h d.1 i)
  else (nO a g c h)
def mO (a : aP) (b : List Int) (c : List (aG × Int)) (Q : (Bool × (List Int) × (List (aG × Int))) → Prop) : Prop :=
  nb (fA a.Slots) fun d =>
  dA Q (b.length : Int) a BIG 0 b c d
def oP (a : Int) (b : Int) : Option aD :=
  (chk (decide (0 ≤ (w64 (a + 1))))).bind fun _ =>
  some (aD.mk a (b.fdiv (2 ^ (min (w64 (a + 1)).toNat 64))))
def uP (_ : List Int) (a : List (aD × Int)) (_ : aP) : Option (Bool × (List (aD × Int))) :=
  some (true, a)
def jG (a : Int) (b : Int) (c : List Int) (d : aP) : Nat → Int → (List (aD × Int)) → Option (Bool × (List (aD × Int)))
 | 0, _, _ => none
 | i + 1, j, k =>
  bif decide (j < b) then ((oP j a).bind fun e =>
  (bif dO e k then ((idx c a).bind fun f =>
  some (!decide ((cW e 0 k) = f))) else (some false)).bind fun g =>
  bif g then (some (false, k))
  else ((idx c a).bind fun h =>
  (jG a b c d i) (w64 (j + 1)) (gA e h k)))
  else (uP c k d)
def nA (a : aP) (b : List Int) (c : List (aD × Int)) (d : Int) (e : Int) : Option (Bool × (List (aD × Int))) :=
  jG d (w64 (e + 1)) b a BIG 0 c
def yT (a : ((Option bJ) × Bool) → Prop) (b : List Int) (c : List (aD × Int)) (d : aP) : Prop :=
  a ((some (bJ.mk d b c)), true)
def lN (a : ((Option bJ) × Bool) → Prop) (b : List Int) (c : aP) (d : List (aD × aG)) : Nat → (List (aD × Int)) → (List (aD × aG)) → Prop
 | 0, _, _ => False
 | k + 1, l, m =>
  aVb m (yT a b l c)
  (fun e f =>
  nb (gT b e.2.Player) fun g =>
  nb (bif decide (g < 0) then (some true) else ((oP e.1.round g).bind fun h =>
  some (!decide (h = e.1)))) fun i =>
  bif i then (a ((none : Option bJ), false))
  else (nb (nA c b l g e.1.round) fun j =>
  bif !j.1 then (a ((none : Option bJ), false))
  else ((lN a b c d k) j.2 f)))
def uN (a : ((Option bJ) × Bool) → Prop) (b : List Int) (c : List (aD × Int)) (d : aP) (e : List (aD × aG)) : Prop :=
  aHd e fun f =>
  lN a b d e BIG c f
def jE (a : ((Option bJ) × Bool) → Prop) (b : Int) (c : List Int) (d : aP) (e : List (aD × aG)) : Nat → Int → (List (aD × Int)) → Prop
 | 0, _, _ => False
 | h + 1, i, j =>
  bif decide (i < b) then (nb (idx c i) fun f =>
  bif decide (f = (-1)) then (nb (nA d c j (aHw i 1) 0) fun g =>
  (jE a b c d e h) (w64 (i + 1)) g.2)
  else ((jE a b c d e h) (w64 (i + 1)) j))
  else (uN a c j d e)
def uM (a : ((Option bJ) × Bool) → Prop) (b : List Int) (c : List (aD × Int)) (d : aP) (e : List (aG × Int)) (f : List (aD × aG)) : Prop :=
  mO d b e fun g =>
  bif !g.1 then (a ((none : Option bJ), false))
  else (jE a (g.2.1.length : Int) g.2.1 d f BIG 0 c)
def jD (a : ((Option bJ) × Bool) → Prop) (b : List aG) (c : Int) (d : List Int) (e : List (aD × Int)) (f : aP) : Nat → Int → (List (aG × Int)) → (List (aD × aG)) → Prop
 | 0, _, _, _ => False
 | i + 1, j, k, l =>
  bif decide (j < c) then (nb (idx b j) fun g =>
  bif decide (g.Kind = 5) then ((jD a b c d e f i) (w64 (j + 1)) (gA g (w64 ((cW g 0 k) + 1)) k) l)
  else (nb (bif dO (aD.mk g.Round g.Place) l then (some (!decide ((cW (aD.mk g.Round g.Place) (aG.mk 0 0 0 0 0) l) = g))) else (some false)) fun h =>
  bif h then (a ((none : Option bJ), false))
  else ((jD a b c d e f i) (w64 (j + 1)) k (gA (aD.mk g.Round g.Place) g l))))
  else (uM a d e f k l)
def vA (a : aP) (b : List aG) (Q : ((Option bJ) × Bool) → Prop) : Prop :=
  nb (fA a.Slots) fun c =>
  jD Q b (b.length : Int) c ([] : List (aD × Int)) a BIG 0 ([] : List (aG × Int)) ([] : List (aD × aG))
def lH (a : aP) (b : List aG) (Q : ((Option bJ) × Int) → Prop) : Prop :=
  nb (qY a) fun c =>
  bif !c then (Q ((none : Option bJ), 70))
  else (nb (bif decide (60 < (b.length : Int)) then (some true) else ((iP b (fun d => qZ d a)).bind fun e =>
  some e)) fun f =>
  bif f then (Q ((none : Option bJ), 71))
  else (vA a b fun g =>
  bif !g.2 then (Q ((none : Option bJ), 72))
  else (Q (g.1, 0))))
def wH (b : aP) (c : List aG) (Q : (Int × Int) → Prop) : Prop :=
  lH b c fun d =>
  bif !decide (d.2 = 0) then (Q (0, d.2))
  else (nb (d.1) fun e =>
  nb (d.1) fun f =>
  Q (w64 ((w64 ((e.Tree.Slots.length : Int) - 1)) - (((f.won.map fun p : aD × Int => ((fun a : aD => Value.agg ((aL a).map bS).toArray) p.1, aF p.2))).length : Int)), 0))
def aBa (a : aP) (b : List aG) : Option (Int × Int) := pS a b
def mR (a : Int) : Option Int :=
  bif decide (a = 4) then (some 2)
  else (some 3)
def uZ (a : aP) (b : List aG) (Q : Int → Prop) : Prop :=
  lH a b fun c =>
  Q c.2
def aAz (a : ((Option bJ) × (List Int) × Int) → Prop) (b : Option bJ) (c : List Int) : Prop :=
  a (b, c, 0)
def oC (a : ((Option bJ) × (List Int) × Int) → Prop) (b : List Int) (c : Int) : Nat → (Option bJ) → Int → (List Int) → Prop
 | 0, _, _, _ => False
 | i + 1, j, k, l =>
  bif decide (k < c) then (nb (idx b k) fun d =>
  nb (fL d 0 999) fun e =>
  bif !e then (a ((none : Option bJ), ([] : List Int), 1))
  else (nb (j) fun f =>
  nb (gT f.players d) fun g =>
  nb (app 8 l ([g])) fun h =>
  (oC a b c i) j (w64 (k + 1)) h))
  else (aAz a j l)
def sX (a : aP) (b : List aG) (c : List Int) (Q : ((Option bJ) × (List Int) × Int) → Prop) : Prop :=
  lH a b fun d =>
  bif !decide (d.2 = 0) then (Q ((none : Option bJ), ([] : List Int), d.2))
  else (oC Q c (c.length : Int) BIG d.1 0 ([] : List Int))
def aDb (a : Int) : Option Int :=
  some a
def qJ (a : List Int) : Nat → Int → Int → Option Int
 | 0, _, _ => none
 | c + 1, d, e =>
  bif decide (e < (a.length : Int)) then ((idx a e).bind fun b =>
  (qJ a c) (min d b) (w64 (e + 1)))
  else (aDb d)
def aHm (a : List Int) : Option Int :=
  bif decide ((a.length : Int) < 1) then (none)
  else ((idx a 0).bind fun b =>
  qJ a BIG b 1)
def vR (a : bJ) : Option Int :=
  some a.Tree.Rounds
def jW (a : bJ) (b : Int) (c : Int) : Nat → Int → Option Int
 | 0, _ => none
 | g + 1, h =>
  bif decide (h < c) then ((oP h b).bind fun d =>
  (bif dO d a.won then ((idx a.players b).bind fun e =>
  some (!decide ((cW d 0 a.won) = e))) else (some false)).bind fun f =>
  bif f then (some h)
  else ((jW a b c g) (w64 (h + 1))))
  else (vR a)
def oA (a : bJ) (b : Int) : Option Int :=
  jW a b a.Tree.Rounds BIG 0
def uO (a : aP) (b : List aG) (c : Int) (d : Int) (Q : ((Option bJ) × aD × Int) → Prop) : Prop :=
  lH a b fun e =>
  nb (bif decide (e.2 = 0) then ((oB (aD.mk c d) a).bind fun f =>
  some (!f)) else (some false)) fun g =>
  bif g then (Q (e.1, (aD.mk c d), 1))
  else (Q (e.1, (aD.mk c d), e.2))
def sG (a : aP) (b : List aG) : Option Int := eZ a b
def slices_Sort_int (x : List Int) : Option (List Int) := if x.length < 4611686018427387904 then some (eE x) else none
def aAy (a : ((List Int) × Int) → Prop) (b : List Int) : Prop :=
  nb (slices_Sort_int b) fun c =>
  a (c, 0)
def kS (a : ((List Int) × Int) → Prop) (b : Int) (c : Option bJ) (d : List Int) (e : Int) (f : aD) : Nat → Int → (List Int) → Prop
 | 0, _, _ => False
 | n + 1, o, p =>
  bif decide (o < e) then (nb (idx d o) fun g =>
  nb (c) fun h =>
  nb (bif !decide (g = (-1)) then ((oP b o).bind fun i =>
  some (decide (i = f))) else (some false)) fun j =>
  nb (bif j then ((oA h o).bind fun k =>
  some (decide (b < k))) else (some false)) fun l =>
  bif l then (nb (app 8 p ([g])) fun m =>
  (kS a b c d e f n) (w64 (o + 1)) m)
  else ((kS a b c d e f n) (w64 (o + 1)) p))
  else (aAy a p)
def yB (a : aP) (b : List aG) (c : Int) (d : Int) (Q : ((List Int) × Int) → Prop) : Prop :=
  uO a b c d fun e =>
  bif !decide (e.2.2 = 0) then (Q (([] : List Int), e.2.2))
  else (nb (e.1) fun f =>
  kS Q c e.1 f.players (f.players.length : Int) e.2.1 BIG 0 ([] : List Int))
def vC (a : aP) (b : List aG) (c : Int) (d : Int) : Option ((List Int) × Int) := lT a b c d
def vS (a : bJ) : Option Int :=
  some a.Tree.Rounds
def jX (a : bJ) (b : Int) (c : Int) : Nat → Int → Option Int
 | 0, _ => none
 | g + 1, h =>
  bif decide (h < c) then ((oP h b).bind fun d =>
  (bif !(dO d a.won) then (some true) else ((idx a.players b).bind fun e =>
  some (!decide ((cW d 0 a.won) = e)))).bind fun f =>
  bif f then (some h)
  else ((jX a b c g) (w64 (h + 1))))
  else (vS a)
def rB (a : bJ) (b : Int) : Option Int :=
  jX a b a.Tree.Rounds BIG 0
def sE (a : aP) (b : List aG) (c : Int) (Q : (cH × Int) → Prop) : Prop :=
  sX a b ([c]) fun d =>
  bif !decide (d.2.2 = 0) then (Q ((cH.mk 0 0), d.2.2))
  else (nb (idx d.2.1 0) fun e =>
  bif decide (e < 0) then (Q ((cH.mk 0 0), 3))
  else (nb (d.1) fun f =>
  nb (idx d.2.1 0) fun g =>
  nb (rB f g) fun h =>
  nb (idx d.2.1 0) fun i =>
  nb (oA f i) fun j =>
  Q ((cH.mk h j), 0)))
def tH (a : aP) (b : List aG) (c : Int) : Option (cH × Int) := kK a b c
def lL (a : bA) (b : Int) : Option ((List Int) × Int) :=
  (tC a).bind fun c =>
  bif !decide (c = 0) then (some (([] : List Int), c))
  else (bif decide (b < 0) then (some (([] : List Int), 1))
  else ((sO a b).bind fun d =>
  bif !d.2 then (some (([] : List Int), 1))
  else (some (d.1, 0))))
def pB : Option bB :=
  some (bB.mk (aP.mk 2 ([1, 2, 3, 4])) ([(aG.mk 1 0 0 1 0)]) ([100, 300, 1001]) 40 ([(bR.mk 1 11 12), (bR.mk 2 21 22), (bR.mk 3 31 (-1)), (bR.mk 4 41 (-1))]) ([(dH.mk 11 250)]) ([(cS.mk 21 3 2), (cS.mk 22 1 3)]) ([(aN.mk 1 1 21 30), (aN.mk 2 2 11 2), (aN.mk 3 1 31 160)]))
def vB (a : Int) : Option Bool :=
  some (!decide (a = a))
def wJ (a : Int) (b : Int) : Option Bool :=
  (vB a).bind fun c =>
  (bif c then ((vB b).bind fun d =>
  some (!d)) else (some false)).bind fun e =>
  (bif e then (some true) else (some (decide (a < b)))).bind fun f =>
  some f
def yM : Option Bool :=
  some true
def gU (a : List Int) : Nat → Int → Option Bool
 | 0, _ => none
 | e + 1, f =>
  bif decide (0 < f) then ((idx a f).bind fun b =>
  (idx a (w64 (f - 1))).bind fun c =>
  (wJ b c).bind fun d =>
  bif d then (some false)
  else ((gU a e) (w64 (f - 1))))
  else (yM)
def nW (a : List Int) : Option Bool :=
  gU a BIG (w64 ((a.length : Int) - 1))
def fR (a : Int) (b : Int) (c : Int) : Option Bool :=
  (bif decide (b ≤ a) then (some (decide (a ≤ c))) else (some false)).bind fun d =>
  some d
def sD (a : bB) : Option Bool :=
  (bif !decide ((a.Prizes.length : Int) = (w64 (a.Tree.Rounds + 1))) then (some true) else ((nW a.Prizes).bind fun b =>
  some (!b))).bind fun c =>
  (bif c then (some true) else ((fR a.Daily 0 100000).bind fun d =>
  some (!d))).bind fun e =>
  bif e then (some false)
  else ((idx a.Prizes 0).bind fun f =>
  (bif decide (0 ≤ f) then ((idx a.Prizes (w64 ((a.Prizes.length : Int) - 1))).bind fun g =>
  some (decide (g ≤ 10000000))) else (some false)).bind fun h =>
  some h)
def oN (a : List Int) : Option ((List Int)) :=
  (slices_Sort_int a).bind fun b =>
  some b
def kO (a : List bR) (b : Int) : Nat → Int → (List Int) → Option ((List Int))
 | 0, _, _ => none
 | f + 1, g, h =>
  bif decide (g < b) then ((idx a g).bind fun c =>
  (app 8 h ([c.One])).bind fun d =>
  bif !decide (c.Two = (-1)) then ((app 8 d ([c.Two])).bind fun e =>
  (kO a b f) (w64 (g + 1)) e)
  else ((kO a b f) (w64 (g + 1)) d))
  else (oN h)
def nI (a : bB) : Option ((List Int)) :=
  kO a.Teams (a.Teams.length : Int) BIG 0 ([] : List Int)
def uE (_ : Int → (List Int) → Option ((List Int))) (a : Int) (b : List Int) : Option ((List Int)) :=
  (chk (decide (0 ≤ a) && decide (a ≤ (b.length : Int)))).bind fun _ =>
  (chk (decide (a.toNat ≤ b.length))).bind fun _ =>
  (chk (decide (0 ≤ a))).bind fun _ =>
  some (b.take a.toNat)
def fZ (a : Int → (List Int) → Option ((List Int))) (b : Int) : Nat → Int → Int → (List Int) → Option ((List Int))
 | 0, _, _, _ => none
 | f + 1, g, h, i =>
  bif decide (h < ((i.drop b.toNat).length : Int)) then ((idx (i.drop b.toNat) h).bind fun c =>
  (idx (i.drop b.toNat) (w64 (h - 1))).bind fun d =>
  bif !decide (c = d) then ((idx (i.drop b.toNat) h).bind fun e =>
  (idx i g).bind fun _ =>
  (fZ a b f) (w64 (g + 1)) (w64 (h + 1)) (i.set g.toNat e))
  else ((fZ a b f) g (w64 (h + 1)) i))
  else (uE a g i)
def uD (a : Int → (List Int) → Option ((List Int))) (b : Int) (c : List Int) : Option ((List Int)) :=
  a (w64 (b + 1)) c
def uC (a : List Int) : Option ((List Int)) :=
  some a
def eM : Nat → Int → (List Int) → Option ((List Int))
 | 0, _, _ => none
 | c + 1, d, e =>
  bif decide (d < (e.length : Int)) then ((idx e d).bind fun a =>
  (idx e (w64 (d - 1))).bind fun b =>
  bif decide (a = b) then ((chk (decide (0 ≤ d) && decide (d ≤ (e.length : Int)))).bind fun _ =>
  fZ (eM c) d BIG d 1 e)
  else (uD (eM c) d e))
  else (uC e)
def pN (a : List Int) : Option ((List Int)) :=
  bif decide ((a.length : Int) < 2) then (some a)
  else (eM BIG 1 a)
def pX (a : List Int) : Option Bool :=
  (fA a).bind fun b =>
  (pN b).bind fun c =>
  some (decide ((c.length : Int) = (a.length : Int)))
def xB : Option Bool :=
  some true
def mU (a : List Int) (b : dH → Option (Int × Bool)) (c : List dH) (d : Int) : Nat → Int → (List Int) → Option Bool
 | 0, _, _ => none
 | l + 1, m, n =>
  bif decide (m < d) then ((idx c m).bind fun e =>
  (b e).bind fun f =>
  (bif !f.2 then (some true) else ((cO a f.1).bind fun g =>
  some (!g))).bind fun h =>
  (bif h then (some true) else ((cO n f.1).bind fun i =>
  some i)).bind fun j =>
  bif j then (some false)
  else ((app 8 n ([f.1])).bind fun k =>
  (mU a b c d l) (w64 (m + 1)) k))
  else (xB)
def tY (a : List Int) (b : List dH) (c : dH → Option (Int × Bool)) : Option Bool :=
  mU a c b (b.length : Int) BIG 0 ([] : List Int)
def yZ (a : dH) : Option (Int × Bool) :=
  (fR a.Mille 0 500).bind fun b =>
  some (a.Person, b)
def xC : Option Bool :=
  some true
def mV (a : List Int) (b : cS → Option (Int × Bool)) (c : List cS) (d : Int) : Nat → Int → (List Int) → Option Bool
 | 0, _, _ => none
 | l + 1, m, n =>
  bif decide (m < d) then ((idx c m).bind fun e =>
  (b e).bind fun f =>
  (bif !f.2 then (some true) else ((cO a f.1).bind fun g =>
  some (!g))).bind fun h =>
  (bif h then (some true) else ((cO n f.1).bind fun i =>
  some i)).bind fun j =>
  bif j then (some false)
  else ((app 8 n ([f.1])).bind fun k =>
  (mV a b c d l) (w64 (m + 1)) k))
  else (xC)
def tZ (a : List Int) (b : List cS) (c : cS → Option (Int × Bool)) : Option Bool :=
  mV a c b (b.length : Int) BIG 0 ([] : List Int)
def zA (a : cS) : Option (Int × Bool) :=
  (fR a.Num 1 10000).bind fun b =>
  (bif b then ((fR a.Den 1 10000).bind fun c =>
  some c) else (some false)).bind fun d =>
  some (a.Person, d)
def tM (a : List Int) (b : bB) : Option Bool :=
  (tY a b.Levies (fun c => yZ c)).bind fun d =>
  (bif d then ((tZ a b.Rates (fun e => zA e)).bind fun f =>
  some f) else (some false)).bind fun g =>
  some g
def nE (a : List Int) (b : List aG) (c : Int) (d : bB) (e : List Int) : Nat → Int → Option Bool
 | 0, _ => none
 | i + 1, j =>
  bif decide (j < c) then ((idx b j).bind fun f =>
  (bif decide (f.Kind = 5) then ((cO e f.Player).bind fun g =>
  some (!g)) else (some false)).bind fun h =>
  bif h then (some false)
  else ((nE a b c d e i) (w64 (j + 1))))
  else (tM a d)
def tL (a : List Int) (b : bB) (c : List Int) : Option Bool :=
  nE a b.Slips (b.Slips.length : Int) b c BIG 0
def jV (a : List Int) (b : List Int) (c : Int) (d : bB) (e : List Int) : Nat → Int → Option Bool
 | 0, _ => none
 | i + 1, j =>
  bif decide (j < c) then ((idx b j).bind fun f =>
  (bif !decide (f = (-1)) then ((cO e f).bind fun g =>
  some (!g)) else (some false)).bind fun h =>
  bif h then (some false)
  else ((jV a b c d e i) (w64 (j + 1))))
  else (tL a d e)
def lB (a : bB) (b : List Int) : Option Bool :=
  (slices_Sort_int b).bind fun c =>
  (nI a).bind fun d =>
  (pX c).bind fun e =>
  (bif !e then (some true) else ((pX d).bind fun f =>
  some (!f))).bind fun g =>
  bif g then (some false)
  else (jV d a.Tree.Slots (a.Tree.Slots.length : Int) a c BIG 0)
def lC (a : List bR) (b : Int) (c : bB) : Nat → Int → (List Int) → Option Bool
 | 0, _, _ => none
 | k + 1, l, m =>
  bif decide (l < b) then ((idx a l).bind fun d =>
  (fR d.Player 0 999).bind fun e =>
  (bif !e then (some true) else ((fR d.One 0 999).bind fun f =>
  some (!f))).bind fun g =>
  (bif g then (some true) else ((fR d.Two (-1) 999).bind fun h =>
  some (!h))).bind fun i =>
  bif i then (some false)
  else ((app 8 m ([d.Player])).bind fun j =>
  (lC a b c k) (w64 (l + 1)) j))
  else (lB c m)
def oM (a : bB) : Option Bool :=
  bif decide (64 < (a.Teams.length : Int)) then (some false)
  else (lC a.Teams (a.Teams.length : Int) a BIG 0 ([] : List Int))
def uB (a : List aN) : Option ((List aN)) :=
  (app 32 ([] : List aN) a).bind fun b =>
  some b
def nK (a : Int → (List aN) → Option ((List aN))) (_ : Int) (_ : Int) (_ : aN → aN → Option Int) (b : Int) (c : List aN) : Option ((List aN)) :=
  a (w64 (b + 1)) c
def nL (a : Int → (List aN) → Option ((List aN))) (b : Int) (c : Int) (d : aN → aN → Option Int) (e : Int) (f : List aN) : Option ((List aN)) :=
  nK a b c d e f
def fO (a : Int → (List aN) → Option ((List aN))) (b : Int) (c : Int) (d : aN → aN → Option Int) (e : Int) : Nat → Int → (List aN) → Option ((List aN))
 | 0, _, _ => none
 | l + 1, m, n =>
  (bif decide (b < m) then ((idx n m).bind fun f =>
  (idx n (w64 (m - 1))).bind fun g =>
  (d f g).bind fun h =>
  some (decide (h < 0))) else (some false)).bind fun i =>
  bif i then ((idx n (w64 (m - 1))).bind fun j =>
  (idx n m).bind fun k =>
  (idx n m).bind fun _ =>
  (idx (n.set m.toNat j) (w64 (m - 1))).bind fun _ =>
  (fO a b c d e l) (w64 (m - 1)) ((n.set m.toNat j).set (w64 (m - 1)).toNat k))
  else (nL a b c d e n)
def nJ (a : List aN) : Option ((List aN)) :=
  some a
def eJ (a : Int) (b : Int) (c : aN → aN → Option Int) : Nat → Int → (List aN) → Option ((List aN))
 | 0, _, _ => none
 | d + 1, e, f =>
  bif decide (e < b) then (fO (eJ a b c d) a b c e BIG e f)
  else (nJ f)
def gL (a : List aN) (b : Int) (c : Int) (d : aN → aN → Option Int) : Option ((List aN)) :=
  eJ b c d BIG (w64 (b + 1)) a
def pY (a : List aN) : Option ((List aN)) :=
  some a
def gX (a : Int) (b : Int) (c : Int) : Nat → Int → (List aN) → Option ((List aN))
 | 0, _, _ => none
 | f + 1, g, h =>
  bif decide (g < c) then ((idx h (w64 (b + g))).bind fun d =>
  (idx h (w64 (a + g))).bind fun e =>
  (idx h (w64 (a + g))).bind fun _ =>
  (idx (h.set (w64 (a + g)).toNat d) (w64 (b + g))).bind fun _ =>
  (gX a b c f) (w64 (g + 1)) ((h.set (w64 (a + g)).toNat d).set (w64 (b + g)).toNat e))
  else (pY h)
def fU (a : List aN) (b : Int) (c : Int) (d : Int) (_ : aN → aN → Option Int) : Option ((List aN)) :=
  gX b c d BIG 0 a
def rL (a : Int) (b : aN → aN → Option Int) (c : Int) (d : List aN) : Option ((List aN)) :=
  (fU d (w64 (a - c)) a c b).bind fun e =>
  some e
def fS (a : Int) (b : aN → aN → Option Int) : Nat → Int → Int → (List aN) → Option ((List aN))
 | 0, _, _, _ => none
 | e + 1, f, g, h =>
  bif !decide (f = g) then (bif decide (g < f) then ((fU h (w64 (a - f)) a g b).bind fun c =>
  (fS a b e) (w64 (f - g)) g c)
  else ((fU h (w64 (a - f)) (w64 ((w64 (a + g)) - f)) f b).bind fun d =>
  (fS a b e) f (w64 (g - f)) d))
  else (rL a b f h)
def nM (a : List aN) (b : Int) (c : Int) (d : Int) (e : aN → aN → Option Int) : Option ((List aN)) :=
  fS c e BIG (w64 (c - b)) (w64 (d - c)) a
def qL (_ : (List aN) → Int → Int → Int → Option ((List aN))) (a : List aN) : Option ((List aN)) :=
  some a
def iI (a : (List aN) → Int → Int → Int → Option ((List aN))) (b : Int) : Nat → Int → (List aN) → Option ((List aN))
 | 0, _, _ => none
 | e + 1, f, g =>
  bif decide (f < (w64 (b - 1))) then ((idx g (w64 (f + 1))).bind fun c =>
  (idx g f).bind fun d =>
  (idx g f).bind fun _ =>
  (idx (g.set f.toNat c) (w64 (f + 1))).bind fun _ =>
  (iI a b e) (w64 (f + 1)) ((g.set f.toNat c).set (w64 (f + 1)).toNat d))
  else (qL a g)
def qK (a : (List aN) → Int → Int → Int → Option ((List aN))) (b : Int) (c : Int) (d : List aN) : Option ((List aN)) :=
  iI a c BIG b d
def fD (a : (List aN) → Int → Int → Int → Option ((List aN))) (b : Int) (c : aN → aN → Option Int) (d : List aN) : Nat → Int → Int → Option ((List aN))
 | 0, _, _ => none
 | h + 1, i, j =>
  bif decide (i < j) then ((idx d (w64 ((IntKind.u64.wrap (w64 (i + j))).fdiv (2 ^ (min (1 : Int).toNat 64))))).bind fun e =>
  (idx d b).bind fun f =>
  (c e f).bind fun g =>
  bif decide (g < 0) then ((fD a b c d h) (w64 ((w64 ((IntKind.u64.wrap (w64 (i + j))).fdiv (2 ^ (min (1 : Int).toNat 64)))) + 1)) j)
  else ((fD a b c d h) i (w64 ((IntKind.u64.wrap (w64 (i + j))).fdiv (2 ^ (min (1 : Int).toNat 64))))))
  else (qK a b i d)
def qN (_ : (List aN) → Int → Int → Int → Option ((List aN))) (a : List aN) : Option ((List aN)) :=
  some a
def iJ (a : (List aN) → Int → Int → Int → Option ((List aN))) (b : Int) : Nat → Int → (List aN) → Option ((List aN))
 | 0, _, _ => none
 | e + 1, f, g =>
  bif decide (b < f) then ((idx g (w64 (f - 1))).bind fun c =>
  (idx g f).bind fun d =>
  (idx g f).bind fun _ =>
  (idx (g.set f.toNat c) (w64 (f - 1))).bind fun _ =>
  (iJ a b e) (w64 (f - 1)) ((g.set f.toNat c).set (w64 (f - 1)).toNat d))
  else (qN a g)
def qM (a : (List aN) → Int → Int → Int → Option ((List aN))) (b : Int) (c : Int) (d : List aN) : Option ((List aN)) :=
  iJ a c BIG b d
def fE (a : (List aN) → Int → Int → Int → Option ((List aN))) (b : Int) (c : aN → aN → Option Int) (d : List aN) : Nat → Int → Int → Option ((List aN))
 | 0, _, _ => none
 | h + 1, i, j =>
  bif decide (i < j) then ((idx d b).bind fun e =>
  (idx d (w64 ((IntKind.u64.wrap (w64 (i + j))).fdiv (2 ^ (min (1 : Int).toNat 64))))).bind fun f =>
  (c e f).bind fun g =>
  bif !(decide (g < 0)) then ((fE a b c d h) (w64 ((w64 ((IntKind.u64.wrap (w64 (i + j))).fdiv (2 ^ (min (1 : Int).toNat 64)))) + 1)) j)
  else ((fE a b c d h) i (w64 ((IntKind.u64.wrap (w64 (i + j))).fdiv (2 ^ (min (1 : Int).toNat 64))))))
  else (qM a b i d)
def lE (a : (List aN) → Int → Int → Int → Option ((List aN))) (b : Int) (c : Int) (d : Int) (e : aN → aN → Option Int) (f : Int) (g : Int) (h : Int) (i : List aN) : Option ((List aN)) :=
  (bif decide (h < c) then (some (decide (c < (w64 (g - h))))) else (some false)).bind fun j =>
  bif j then ((nM i h c (w64 (g - h)) e).bind fun k =>
  (bif decide (b < h) then (some (decide (h < f))) else (some false)).bind fun l =>
  bif l then ((a k b h f).bind fun m =>
  (bif decide (f < (w64 (g - h))) then (some (decide ((w64 (g - h)) < d))) else (some false)).bind fun n =>
  bif n then ((a m f (w64 (g - h)) d).bind fun o =>
  some o)
  else (some m))
  else ((bif decide (f < (w64 (g - h))) then (some (decide ((w64 (g - h)) < d))) else (some false)).bind fun p =>
  bif p then ((a k f (w64 (g - h)) d).bind fun q =>
  some q)
  else (some k)))
  else ((bif decide (b < h) then (some (decide (h < f))) else (some false)).bind fun r =>
  bif r then ((a i b h f).bind fun s =>
  (bif decide (f < (w64 (g - h))) then (some (decide ((w64 (g - h)) < d))) else (some false)).bind fun t =>
  bif t then ((a s f (w64 (g - h)) d).bind fun u =>
  some u)
  else (some s))
  else ((bif decide (f < (w64 (g - h))) then (some (decide ((w64 (g - h)) < d))) else (some false)).bind fun v =>
  bif v then ((a i f (w64 (g - h)) d).bind fun w =>
  some w)
  else (some i)))
def dC (a : (List aN) → Int → Int → Int → Option ((List aN))) (b : Int) (c : Int) (d : Int) (e : aN → aN → Option Int) (f : Int) (g : Int) (h : Int) (i : List aN) : Nat → Int → Int → Option ((List aN))
 | 0, _, _ => none
 | m + 1, n, o =>
  bif decide (n < o) then ((idx i (w64 (h - (w64 ((IntKind.u64.wrap (w64 (n + o))).fdiv (2 ^ (min (1 : Int).toNat 64))))))).bind fun j =>
  (idx i (w64 ((IntKind.u64.wrap (w64 (n + o))).fdiv (2 ^ (min (1 : Int).toNat 64))))).bind fun k =>
  (e j k).bind fun l =>
  bif !(decide (l < 0)) then ((dC a b c d e f g h i m) (w64 ((w64 ((IntKind.u64.wrap (w64 (n + o))).fdiv (2 ^ (min (1 : Int).toNat 64)))) + 1)) o)
  else ((dC a b c d e f g h i m) n (w64 ((IntKind.u64.wrap (w64 (n + o))).fdiv (2 ^ (min (1 : Int).toNat 64))))))
  else (lE a b c d e f g n i)
def cE (a : aN → aN → Option Int) : Nat → (List aN) → Int → Int → Int → Option ((List aN))
 | 0, _, _, _, _ => none
 | b + 1, c, d, e, f =>
  bif decide ((w64 (e - d)) = 1) then (fD (cE a b) d a c BIG e f)
  else (bif decide ((w64 (f - e)) = 1) then (fE (cE a b) e a c BIG d e)
  else (bif decide ((w64 ((IntKind.u64.wrap (w64 (d + f))).fdiv (2 ^ (min (1 : Int).toNat 64)))) < e) then (dC (cE a b) d e f a (w64 ((IntKind.u64.wrap (w64 (d + f))).fdiv (2 ^ (min (1 : Int).toNat 64)))) (w64 ((w64 ((IntKind.u64.wrap (w64 (d + f))).fdiv (2 ^ (min (1 : Int).toNat 64)))) + e)) (w64 ((w64 ((w64 ((IntKind.u64.wrap (w64 (d + f))).fdiv (2 ^ (min (1 : Int).toNat 64)))) + e)) - 1)) c BIG (w64 ((w64 ((w64 ((IntKind.u64.wrap (w64 (d + f))).fdiv (2 ^ (min (1 : Int).toNat 64)))) + e)) - f)) (w64 ((IntKind.u64.wrap (w64 (d + f))).fdiv (2 ^ (min (1 : Int).toNat 64)))))
  else (dC (cE a b) d e f a (w64 ((IntKind.u64.wrap (w64 (d + f))).fdiv (2 ^ (min (1 : Int).toNat 64)))) (w64 ((w64 ((IntKind.u64.wrap (w64 (d + f))).fdiv (2 ^ (min (1 : Int).toNat 64)))) + e)) (w64 ((w64 ((w64 ((IntKind.u64.wrap (w64 (d + f))).fdiv (2 ^ (min (1 : Int).toNat 64)))) + e)) - 1)) c BIG d e)))
def mK (a : List aN) (b : Int) (c : Int) (d : Int) (e : aN → aN → Option Int) : Option ((List aN)) := cE e BIG a b c d
def jK (a : Int → (List aN) → Option ((List aN))) (_ : Int) (_ : aN → aN → Option Int) (b : Int) (c : List aN) : Option ((List aN)) :=
  a b c
def rO (a : Int → (List aN) → Option ((List aN))) (b : Int) (c : aN → aN → Option Int) (d : Int) (e : Int) (f : List aN) : Option ((List aN)) :=
  bif decide ((w64 (e + d)) < b) then ((mK f e (w64 (e + d)) b c).bind fun g =>
  jK a b c (w64 (d * 2)) g)
  else (jK a b c (w64 (d * 2)) f)
def jM (a : Int → (List aN) → Option ((List aN))) (b : Int) (c : aN → aN → Option Int) (d : Int) : Nat → Int → Int → (List aN) → Option ((List aN))
 | 0, _, _, _ => none
 | f + 1, g, h, i =>
  bif decide (h ≤ b) then ((mK i g (w64 (g + d)) h c).bind fun e =>
  (jM a b c d f) h (w64 (h + (w64 (2 * d)))) e)
  else (rO a b c d g i)
def rN (a : List aN) : Option ((List aN)) :=
  some a
def fT (a : Int) (b : aN → aN → Option Int) : Nat → Int → (List aN) → Option ((List aN))
 | 0, _, _ => none
 | c + 1, d, e =>
  bif decide (d < a) then (jM (fT a b c) a b d BIG 0 (w64 (2 * d)) e)
  else (rN e)
def rM (a : Int) (b : aN → aN → Option Int) (c : Int) (d : Int) (e : List aN) : Option ((List aN)) :=
  (gL e d a b).bind fun f =>
  fT a b BIG c f
def jL (a : Int) (b : aN → aN → Option Int) (c : Int) : Nat → Int → Int → (List aN) → Option ((List aN))
 | 0, _, _, _ => none
 | e + 1, f, g, h =>
  bif decide (g ≤ a) then ((gL h f g b).bind fun d =>
  (jL a b c e) g (w64 (g + c)) d)
  else (rM a b c f h)
def nN (a : List aN) (b : Int) (c : aN → aN → Option Int) : Option ((List aN)) :=
  jL b c 20 BIG 0 20 a
def mY (a : List aN) (b : aN → aN → Option Int) : Option ((List aN)) :=
  (nN a (a.length : Int) b).bind fun c =>
  some c
def aAf (a : aN) (b : aN) : Option Int :=
  some (w64 (a.Id - b.Id))
def vK (_ : Int → (List aN) → Option ((List aN))) (a : Int) (b : List aN) : Option ((List aN)) :=
  (chk (decide (0 ≤ a) && decide (a ≤ (b.length : Int)))).bind fun _ =>
  (chk (decide (a.toNat ≤ b.length))).bind fun _ =>
  (chk (decide (0 ≤ a))).bind fun _ =>
  some (b.take a.toNat)
def jN (a : Int → (List aN) → Option ((List aN))) (b : Int) : Nat → Int → Int → (List aN) → Option ((List aN))
 | 0, _, _, _ => none
 | f + 1, g, h, i =>
  bif decide (h < ((i.drop b.toNat).length : Int)) then ((idx (i.drop b.toNat) h).bind fun c =>
  (idx (i.drop b.toNat) (w64 (h - 1))).bind fun d =>
  bif !decide (c = d) then ((idx (i.drop b.toNat) h).bind fun e =>
  (idx i g).bind fun _ =>
  (jN a b f) (w64 (g + 1)) (w64 (h + 1)) (i.set g.toNat e))
  else ((jN a b f) g (w64 (h + 1)) i))
  else (vK a g i)
def vJ (a : Int → (List aN) → Option ((List aN))) (b : Int) (c : List aN) : Option ((List aN)) :=
  a (w64 (b + 1)) c
def vI (a : List aN) : Option ((List aN)) :=
  some a
def gD : Nat → Int → (List aN) → Option ((List aN))
 | 0, _, _ => none
 | c + 1, d, e =>
  bif decide (d < (e.length : Int)) then ((idx e d).bind fun a =>
  (idx e (w64 (d - 1))).bind fun b =>
  bif decide (a = b) then ((chk (decide (0 ≤ d) && decide (d ≤ (e.length : Int)))).bind fun _ =>
  jN (gD c) d BIG d 1 e)
  else (vJ (gD c) d e))
  else (vI e)
def rY (a : List aN) : Option ((List aN)) :=
  bif decide ((a.length : Int) < 2) then (some a)
  else (gD BIG 1 a)
def aJq (a : List aN) : Option ((List aN) × Bool) :=
  (rY a).bind fun b =>
  some (b, true)
def yR (a : List aN) : Nat → Int → Option ((List aN) × Bool)
 | 0, _ => none
 | g + 1, h =>
  bif decide (h < (a.length : Int)) then ((idx a h).bind fun b =>
  (idx a (w64 (h - 1))).bind fun c =>
  (bif decide (b.Id = c.Id) then ((idx a h).bind fun d =>
  (idx a (w64 (h - 1))).bind fun e =>
  some (!decide (d = e))) else (some false)).bind fun f =>
  bif f then (some (([] : List aN), false))
  else ((yR a g) (w64 (h + 1))))
  else (aJq a)
def aJa (a : List aN) : Option ((List aN) × Bool) :=
  (uB a).bind fun b =>
  (mY b (fun c d => aAf c d)).bind fun e =>
  yR e BIG 1
def tK (a : bB) : Option Bool :=
  (aJa a.Items).bind fun b =>
  (bif b.2 then (some (decide ((a.Items.length : Int) ≤ 40))) else (some false)).bind fun c =>
  some c
def lA (a : List Int) (b : List aN) (c : Int) (d : bB) : Nat → Int → Option Bool
 | 0, _ => none
 | t + 1, u =>
  bif decide (u < c) then ((idx b u).bind fun e =>
  bif decide (e.Kind = 2) then ((bif !decide (e.Kind = 1) then (some (!decide (e.Kind = 2))) else (some false)).bind fun f =>
  (bif f then (some true) else ((fR e.Id 0 99).bind fun g =>
  some (!g))).bind fun h =>
  (bif h then (some true) else ((cO a e.Person).bind fun i =>
  some (!i))).bind fun j =>
  (bif j then (some true) else ((fR e.Amount 0 30).bind fun k =>
  some (!k))).bind fun l =>
  bif l then (some false)
  else ((lA a b c d t) (w64 (u + 1))))
  else ((bif !decide (e.Kind = 1) then (some (!decide (e.Kind = 2))) else (some false)).bind fun m =>
  (bif m then (some true) else ((fR e.Id 0 99).bind fun n =>
  some (!n))).bind fun o =>
  (bif o then (some true) else ((cO a e.Person).bind fun p =>
  some (!p))).bind fun q =>
  (bif q then (some true) else ((fR e.Amount 0 10000000).bind fun r =>
  some (!r))).bind fun s =>
  bif s then (some false)
  else ((lA a b c d t) (w64 (u + 1)))))
  else (tK d)
def oL (a : bB) : Option Bool :=
  (nI a).bind fun b =>
  lA b a.Items (a.Items.length : Int) a BIG 0
def lJ (a : bB) : Option Int :=
  (sG a.Tree a.Slips).bind fun b =>
  bif !decide (b = 0) then (some b)
  else ((sD a).bind fun c =>
  bif !c then (some 100)
  else ((oM a).bind fun d =>
  bif !d then (some 101)
  else ((oL a).bind fun e =>
  bif !e then (some 102)
  else (some 0))))
def aJp (a : Int) : Option (Int × Int) :=
  some (a, 0)
def nH (a : List Int) (b : Int) (c : bB) : Nat → Int → Int → Option (Int × Int)
 | 0, _, _ => none
 | f + 1, g, h =>
  bif decide (h < b) then ((idx a h).bind fun d =>
  bif decide (d = (-1)) then ((idx c.Prizes 0).bind fun e =>
  (nH a b c f) (w64 (g - e)) (w64 (h + 1)))
  else ((nH a b c f) g (w64 (h + 1))))
  else (aJp g)
def yQ (a : Int) (b : bB) : Option (Int × Int) :=
  nH b.Tree.Slots (b.Tree.Slots.length : Int) b BIG a 0
def nG (a : Int) (b : bB) : Nat → Int → Int → Option (Int × Int)
 | 0, _, _ => none
 | d + 1, e, f =>
  bif decide (f < a) then ((idx b.Prizes f).bind fun c =>
  (chk (decide (0 ≤ (w64 ((w64 (b.Tree.Rounds - 1)) - f))))).bind fun _ =>
  (nG a b d) (w64 (e + (w64 (c * 2 ^ (min (w64 ((w64 (b.Tree.Rounds - 1)) - f)).toNat 64))))) (w64 (f + 1)))
  else (yQ e b)
def oX (a : bB) : Option (Int × Int) :=
  (lJ a).bind fun b =>
  bif !decide (b = 0) then (some (0, b))
  else ((idx a.Prizes a.Tree.Rounds).bind fun c =>
  nG a.Tree.Rounds a BIG c 0)
def iS : Option Bool :=
  (sH).bind fun a =>
  (lL a.1 1).bind fun b =>
  (pB).bind fun c =>
  (oX c).bind fun d =>
  (aBa (aP.mk 2 ([1, 2, 3, 4])) ([] : List aG)).bind fun e =>
  (bif decide (b.2 = 0) then (some (decide (d.2 = 0))) else (some false)).bind fun f =>
  (bif f then (some (decide (e.2 = 0))) else (some false)).bind fun g =>
  (bif g then (some (decide ((b.1.length : Int) = 4))) else (some false)).bind fun h =>
  (bif h then ((idx b.1 2).bind fun i =>
  some (decide (i = 30))) else (some false)).bind fun j =>
  (bif j then (some (decide (d.1 = 1501))) else (some false)).bind fun k =>
  (bif k then (some (decide (e.1 = 3))) else (some false)).bind fun l =>
  some l
def xV (_ : bB) (a : List bR) (b : aP) (c : List aG) (d : List Int) (e : Int) (f : List dH) (g : List cS) (h : List aN) : Option bB :=
  some (bB.mk b c d e a f g h)
def kY (a : bA) (b : bB) : Nat → Int → (List bR) → aP → (List aG) → (List Int) → Int → (List dH) → (List cS) → (List aN) → Option bB
 | 0, _, _, _, _, _, _, _, _, _ => none
 | f + 1, g, h, i, j, k, l, m, n, o =>
  bif decide (g < (a.Persons.length : Int)) then ((idx a.Persons g).bind fun c =>
  (idx a.Persons g).bind fun d =>
  (app 24 h ([(bR.mk c.Player d.Player (-1))])).bind fun e =>
  (kY a b f) (w64 (g + 1)) e i j k l m n o)
  else (xV b h i j k l m n o)
def oF (a : bA) (b : List Int) (c : List Int) : Option bB :=
  (mR a.Size).bind fun d =>
  kY a (bB.mk (aP.mk 0 ([] : List Int)) ([] : List aG) ([] : List Int) 0 ([] : List bR) ([] : List dH) ([] : List cS) ([] : List aN)) BIG 0 ([] : List bR) (aP.mk d b) ([] : List aG) c 0 ([] : List dH) ([] : List cS) ([] : List aN)
def dM (a : Int) (b : Int) (c : Int) : Option Bool :=
  (bif decide (b ≤ a) then (some (decide (a ≤ c))) else (some false)).bind fun d =>
  some d
def zI : Option Bool :=
  some false
def iM (a : Int) (b : bB) : Nat → Int → Option Bool
 | 0, _ => none
 | d + 1, e =>
  bif decide (e < (b.Teams.length : Int)) then ((idx b.Teams e).bind fun c =>
  bif decide (c.Player = a) then (some true)
  else ((iM a b d) (w64 (e + 1))))
  else (zI)
def mA (a : bB) (b : Int) : Option Bool :=
  iM b a BIG 0
def sZ (a : Int → Option Bool) (b : Int) (_ : bB) : Option Bool :=
  a (w64 (b + 1))
def tA (a : Int → Option Bool) (b : Int) (c : bB) : Option Bool :=
  sZ a b c
def fJ (a : Int → Option Bool) (b : Int) (c : bB) (d : bR) : Nat → Int → Option Bool
 | 0, _ => none
 | k + 1, l =>
  bif decide (l < b) then ((idx c.Teams l).bind fun e =>
  (bif decide (e.Player = d.Player) then (some true) else (some (decide (e.One = d.One)))).bind fun f =>
  (bif f then (some true) else (some (decide (e.Two = d.One)))).bind fun g =>
  (bif g then (some true) else ((bif decide (0 ≤ d.Two) then ((bif decide (e.One = d.Two) then (some true) else (some (decide (e.Two = d.Two)))).bind fun h =>
  some h) else (some false)).bind fun i =>
  some i)).bind fun j =>
  bif j then (some false)
  else ((fJ a b c d k) (w64 (l + 1))))
  else (tA a b c)
def tB (a : bB) : Option Bool :=
  some (decide ((a.Teams.length : Int) ≤ 64))
def jP (a : bB) : Nat → Int → Option Bool
 | 0, _ => none
 | f + 1, g =>
  bif decide (g < (a.Slips.length : Int)) then ((idx a.Slips g).bind fun b =>
  (bif decide (b.Kind = 5) then ((idx a.Slips g).bind fun c =>
  (mA a c.Player).bind fun d =>
  some (!d)) else (some false)).bind fun e =>
  bif e then (some false)
  else ((jP a f) (w64 (g + 1))))
  else (tB a)
def oV (a : bB) : Option Bool :=
  jP a BIG 0
def gQ (a : bB) : Nat → Int → Option Bool
 | 0, _ => none
 | f + 1, g =>
  bif decide (g < (a.Tree.Slots.length : Int)) then ((idx a.Tree.Slots g).bind fun b =>
  (bif !decide (b = (-1)) then ((idx a.Tree.Slots g).bind fun c =>
  (mA a c).bind fun d =>
  some (!d)) else (some false)).bind fun e =>
  bif e then (some false)
  else ((gQ a f) (w64 (g + 1))))
  else (oV a)
def lI (a : bB) : Option Bool :=
  gQ a BIG 0
def fI (a : bB) : Nat → Int → Option Bool
 | 0, _ => none
 | i + 1, j =>
  bif decide (j < (a.Teams.length : Int)) then ((idx a.Teams j).bind fun b =>
  (dM b.Player 0 999).bind fun c =>
  (bif !c then (some true) else ((dM b.One 0 999).bind fun d =>
  some (!d))).bind fun e =>
  (bif e then (some true) else ((dM b.Two (-1) 999).bind fun f =>
  some (!f))).bind fun g =>
  (bif g then (some true) else (some (decide (b.One = b.Two)))).bind fun h =>
  bif h then (some false)
  else (fJ (fI a i) j a b BIG 0))
  else (lI a)
def lG (a : bB) : Option Bool :=
  fI a BIG 0
def aCa (_ : bR) : Option (bR × Bool × Bool) :=
  some ((bR.mk 0 0 0), false, false)
def sM (a : Int) (b : bB) : Nat → Int → bR → Option (bR × Bool × Bool)
 | 0, _, _ => none
 | i + 1, j, k =>
  bif decide (j < (b.Teams.length : Int)) then ((idx b.Teams j).bind fun c =>
  (bif decide (c.One = a) then (some true) else ((idx b.Teams j).bind fun d =>
  (bif decide (d.Two = a) then (some (decide (0 ≤ a))) else (some false)).bind fun e =>
  some e)).bind fun f =>
  bif f then ((idx b.Teams j).bind fun g =>
  (idx b.Teams j).bind fun h =>
  some (g, decide (h.Two = a), true))
  else ((sM a b i) (w64 (j + 1)) k))
  else (aCa k)
def zW (a : bB) (b : Int) : Option (bR × Bool × Bool) :=
  sM b a BIG 0 (bR.mk 0 0 0)
def nV (a : bB) (b : Int) : Option Bool :=
  (zW a b).bind fun c =>
  (bif c.2.2 then (some (decide (0 ≤ b))) else (some false)).bind fun d =>
  some d
def yE (a : Int → Option Bool) (b : Int) (_ : bB) : Option Bool :=
  a (w64 (b + 1))
def yF (a : Int → Option Bool) (b : Int) (c : bB) : Option Bool :=
  yE a b c
def oS (a : Int → Option Bool) (b : Int) (c : bB) : Nat → Int → Option Bool
 | 0, _ => none
 | f + 1, g =>
  bif decide (g < b) then ((idx c.Levies g).bind fun d =>
  (idx c.Levies b).bind fun e =>
  bif decide (d.Person = e.Person) then (some false)
  else ((oS a b c f) (w64 (g + 1))))
  else (yF a b c)
def yH (a : Int → Option Bool) (b : Int) (_ : bB) : Option Bool :=
  a (w64 (b + 1))
def yI (a : Int → Option Bool) (b : Int) (c : bB) : Option Bool :=
  yH a b c
def oU (a : Int → Option Bool) (b : Int) (c : bB) (d : cS) : Nat → Int → Option Bool
 | 0, _ => none
 | f + 1, g =>
  bif decide (g < b) then ((idx c.Rates g).bind fun e =>
  bif decide (e.Person = d.Person) then (some false)
  else ((oU a b c d f) (w64 (g + 1))))
  else (yI a b c)
def yG : Option Bool :=
  some true
def gP (a : bB) : Nat → Int → Option Bool
 | 0, _ => none
 | h + 1, i =>
  bif decide (i < (a.Rates.length : Int)) then ((idx a.Rates i).bind fun b =>
  (nV a b.Person).bind fun c =>
  (bif !c then (some true) else ((dM b.Num 1 10000).bind fun d =>
  some (!d))).bind fun e =>
  (bif e then (some true) else ((dM b.Den 1 10000).bind fun f =>
  some (!f))).bind fun g =>
  bif g then (some false)
  else (oU (gP a h) i a b BIG 0))
  else (yG)
def sY (a : bB) : Option Bool :=
  gP a BIG 0
def gO (a : bB) : Nat → Int → Option Bool
 | 0, _ => none
 | g + 1, h =>
  bif decide (h < (a.Levies.length : Int)) then ((idx a.Levies h).bind fun b =>
  (nV a b.Person).bind fun c =>
  (bif !c then (some true) else ((idx a.Levies h).bind fun d =>
  (dM d.Mille 0 500).bind fun e =>
  some (!e))).bind fun f =>
  bif f then (some false)
  else (oS (gO a g) h a BIG 0))
  else (sY a)
def rT (a : bB) : Option Bool :=
  gO a BIG 0
def yC (a : Int → Option Bool) (b : Int) (_ : bB) : Option Bool :=
  a (w64 (b + 1))
def yD (a : Int → Option Bool) (b : Int) (c : bB) : Option Bool :=
  yC a b c
def oR (a : Int → Option Bool) (b : Int) (c : bB) (d : aN) : Nat → Int → Option Bool
 | 0, _ => none
 | h + 1, i =>
  bif decide (i < b) then ((idx c.Items i).bind fun e =>
  (bif decide (e.Id = d.Id) then ((idx c.Items i).bind fun f =>
  some (!decide (f = d))) else (some false)).bind fun g =>
  bif g then (some false)
  else ((oR a b c d h) (w64 (i + 1))))
  else (yD a b c)
def oQ (a : bB) : Option Bool :=
  some (decide ((a.Items.length : Int) ≤ 40))
def gN (a : bB) : Nat → Int → Option Bool
 | 0, _ => none
 | l + 1, m =>
  bif decide (m < (a.Items.length : Int)) then ((idx a.Items m).bind fun b =>
  (dM b.Id 0 99).bind fun c =>
  (bif !c then (some true) else ((nV a b.Person).bind fun d =>
  some (!d))).bind fun e =>
  (bif e then (some true) else ((bif decide (b.Kind = 1) then ((dM b.Amount 0 10000000).bind fun f =>
  some f) else (some false)).bind fun g =>
  (bif g then (some true) else ((bif decide (b.Kind = 2) then ((dM b.Amount 0 30).bind fun h =>
  some h) else (some false)).bind fun i =>
  some i)).bind fun j =>
  some (!j))).bind fun k =>
  bif k then (some false)
  else (oR (gN a l) m a b BIG 0))
  else (oQ a)
def rS (a : bB) : Option Bool :=
  gN a BIG 0
def rR (a : bB) : Option Int :=
  (bif !decide ((a.Prizes.length : Int) = (w64 (a.Tree.Rounds + 1))) then (some true) else ((dM a.Daily 0 100000).bind fun b =>
  some (!b))).bind fun c =>
  bif c then (some 100)
  else ((lG a).bind fun d =>
  (bif !d then (some true) else ((rT a).bind fun e =>
  some (!e))).bind fun f =>
  bif f then (some 101)
  else ((rS a).bind fun g =>
  bif !g then (some 102)
  else (some 0)))
def iC (a : bB) : Nat → Int → Option Int
 | 0, _ => none
 | h + 1, i =>
  bif decide (i < (a.Prizes.length : Int)) then ((idx a.Prizes i).bind fun b =>
  (dM b 0 10000000).bind fun c =>
  (bif !c then (some true) else ((bif decide (0 < i) then ((idx a.Prizes i).bind fun d =>
  (idx a.Prizes (w64 (i - 1))).bind fun e =>
  some (decide (d < e))) else (some false)).bind fun f =>
  some f)).bind fun g =>
  bif g then (some 100)
  else ((iC a h) (w64 (i + 1))))
  else (rR a)
def oE (a : bB) : Option Int :=
  (eZ a.Tree a.Slips).bind fun b =>
  bif !decide (b = 0) then (some b)
  else (iC a BIG 0)
def uF : Option Int :=
  some (-1)
def eQ (a : List bR) (b : bR → Option Bool) (c : Int) : Nat → Int → Option Int
 | 0, _ => none
 | f + 1, g =>
  bif decide (g < c) then ((idx a g).bind fun d =>
  (b d).bind fun e =>
  bif e then (some g)
  else ((eQ a b c f) (w64 (g + 1))))
  else (uF)
def mJ (a : List bR) (b : bR → Option Bool) : Option Int :=
  eQ a b (a.length : Int) BIG 0
def vG (a : bR) (b : Int) : Option Bool :=
  (bif decide (a.One = b) then (some true) else ((bif decide (a.Two = b) then (some (!decide (a.Two = (-1)))) else (some false)).bind fun c =>
  some c)).bind fun d =>
  some d
def sC (a : Int) (b : bR) (c : Int) : Option Int :=
  bif decide (b.Two = (-1)) then (some a)
  else (bif decide (b.One = c) then (some (w64 ((w64 (a + 1)).tdiv 2)))
  else (some (w64 (a.tdiv 2))))
def yL (a : bB) (b : Int) : Option (cH × Bool) :=
  (mJ a.Teams (fun c => vG c b)).bind fun d =>
  bif decide (d < 0) then (some ((cH.mk 0 0), false))
  else ((idx a.Teams d).bind fun e =>
  (tH a.Tree a.Slips e.Player).bind fun f =>
  bif !decide (f.2 = 0) then (some ((cH.mk 0 0), true))
  else ((idx a.Prizes f.1.Low).bind fun g =>
  (sC g e b).bind fun h =>
  (idx a.Prizes f.1.High).bind fun i =>
  (sC i e b).bind fun j =>
  some ((cH.mk h j), true)))
def vO (a : bB) (b : Int) : Option (cH × Int) :=
  (lJ a).bind fun c =>
  bif !decide (c = 0) then (some ((cH.mk 0 0), c))
  else ((yL a b).bind fun d =>
  bif !d.2 then (some ((cH.mk 0 0), 1))
  else (some (d.1, 0)))
def tV : Option Bool :=
  (iS).bind fun a =>
  some a
def eC (a : List Int) (b : nY) (c : bB) : Nat → Int → Option Bool
 | 0, _ => none
 | p + 1, q =>
  bif decide (q < (a.length : Int)) then ((idx a q).bind fun d =>
  bif decide (d = (-1)) then ((eC a b c p) (w64 (q + 1)))
  else ((idx a q).bind fun e =>
  (vO c e).bind fun f =>
  (idx b.Prizes 0).bind fun g =>
  (idx a (aHw q 1)).bind fun h =>
  bif decide (h = (-1)) then ((idx b.Prizes 1).bind fun i =>
  (bif !decide (f.2 = 0) then (some true) else (some (!decide (f.1.Low = i)))).bind fun j =>
  (bif j then (some true) else ((idx b.Prizes (w64 ((b.Prizes.length : Int) - 1))).bind fun k =>
  some (!decide (f.1.High = k)))).bind fun l =>
  bif l then (some false)
  else ((eC a b c p) (w64 (q + 1))))
  else ((bif !decide (f.2 = 0) then (some true) else (some (!decide (f.1.Low = g)))).bind fun m =>
  (bif m then (some true) else ((idx b.Prizes (w64 ((b.Prizes.length : Int) - 1))).bind fun n =>
  some (!decide (f.1.High = n)))).bind fun o =>
  bif o then (some false)
  else ((eC a b c p) (w64 (q + 1))))))
  else (tV)
def sN (a : bA) (b : nY) : Option Bool :=
  (tQ a).bind fun c =>
  (bif c then (some true) else ((oD a).bind fun d =>
  some (!decide (d = 0)))).bind fun e =>
  (bif e then (some true) else (some (decide (10 < (b.Prizes.length : Int))))).bind fun f =>
  bif f then ((iS).bind fun g =>
  some g)
  else ((lL a b.First).bind fun h =>
  (lL a b.Second).bind fun i =>
  (bif !decide (h.2 = 0) then (some true) else (some (!decide (i.2 = 0)))).bind fun j =>
  bif j then ((bif decide (h.2 = 0) then (some true) else (some (decide (h.2 = 1)))).bind fun k =>
  (bif k then ((bif decide (i.2 = 0) then (some true) else (some (decide (i.2 = 1)))).bind fun l =>
  some l) else (some false)).bind fun m =>
  (bif m then ((iS).bind fun n =>
  some n) else (some false)).bind fun o =>
  some o)
  else ((bif !decide ((h.1.length : Int) = a.Size) then (some true) else (some (!decide ((i.1.length : Int) = a.Size)))).bind fun p =>
  bif p then (some false)
  else ((oF a h.1 b.Prizes).bind fun q =>
  (oF a i.1 b.Prizes).bind fun r =>
  (oE q).bind fun s =>
  bif !decide (s = 0) then ((bif decide (s = 100) then ((lJ q).bind fun t =>
  some (decide (t = s))) else (some false)).bind fun u =>
  (bif u then ((lJ r).bind fun v =>
  some (decide (v = s))) else (some false)).bind fun w =>
  (bif w then ((iS).bind fun x =>
  some x) else (some false)).bind fun y =>
  some y)
  else ((oX q).bind fun z =>
  (oX r).bind fun a0 =>
  (bif !decide (z.2 = 0) then (some true) else (some (!decide (a0.2 = 0)))).bind fun a1 =>
  (bif a1 then (some true) else (some (!decide (z.1 = a0.1)))).bind fun a2 =>
  bif a2 then (some false)
  else ((vC q.Tree ([] : List aG) (w64 (q.Tree.Rounds - 1)) 0).bind fun a3 =>
  (bif !decide (a3.2 = 0) then (some true) else (some (!decide ((a3.1.length : Int) = (a.Persons.length : Int))))).bind fun a4 =>
  bif a4 then (some false)
  else (eC h.1 b q BIG 0))))))
end Go.Am
