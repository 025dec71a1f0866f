/- Shallow functions, printed by program. -/
import Derived.Test.YtiohgpipanopaaaGreatTaSh
import Derived.Test.YtiohgpipanopaaaGreatAmNd
import Derived.Test.YtiohgpipanopaaaGreatAmSort
import Derived.Test.YtiohgpipanopaaaGreatAmBox
import Derived.Test.YtiohgpipanopaaaGreatAmSortF0
namespace Go.Am
structure aS where
 Player : Int
 Nation : Int
 Qualified : Bool
 deriving DecidableEq, Inhabited
def aK (x : aS) : List D := [.lit (.int .i64 x.Player), .lit (.int .i64 x.Nation), .lit (.bool x.Qualified)]
def aGz (x : List aS) : List D := [.sl 3 (x.map aK)]
structure aR where
 Size : Int
 Seeds : Int
 Persons : List aS
 Lots : List Int
 deriving DecidableEq, Inhabited
def aL (x : aR) : List D := [.lit (.int .i64 x.Size), .lit (.int .i64 x.Seeds), .sl 3 (x.Persons.map aK), .sl 1 (x.Lots.map aG)]
structure aD where
 round : Int
 place : Int
 deriving DecidableEq, Inhabited
def aH (x : aD) : List D := [.lit (.int .i64 x.round), .lit (.int .i64 x.place)]
structure aX where
 Tree : aJ
 players : List Int
 won : List (aD × Int)
 deriving DecidableEq, Inhabited
def aV (x : aX) : List D := [.lit (.int .i64 x.Tree.Rounds), .sl 1 (x.Tree.Slots.map aG), .sl 1 (x.players.map aG), .mp false (x.won.map fun p : aD × Int => ((fun a : aD => Value.agg ((aH a).map bL).toArray) p.1, aG p.2))]
structure A3 (α : Type) where
 x0 : α
 x1 : α
 x2 : α
 deriving DecidableEq, Inhabited
def A3.at {α : Type} (a : A3 α) (p : Int) : α := if p = 0 then a.x0 else if p = 1 then a.x1 else a.x2
def A3.set {α : Type} (a : A3 α) (p : Int) (v : α) : A3 α := if p = 0 then { a with x0 := v } else if p = 1 then { a with x1 := v } else { a with x2 := v }
structure A6 (α : Type) where
 x0 : α
 x1 : α
 x2 : α
 x3 : α
 x4 : α
 x5 : α
 deriving DecidableEq, Inhabited
def A6.at {α : Type} (a : A6 α) (p : Int) : α := if p = 0 then a.x0 else if p = 1 then a.x1 else if p = 2 then a.x2 else if p = 3 then a.x3 else if p = 4 then a.x4 else a.x5
def A6.set {α : Type} (a : A6 α) (p : Int) (v : α) : A6 α := if p = 0 then { a with x0 := v } else if p = 1 then { a with x1 := v } else if p = 2 then { a with x2 := v } else if p = 3 then { a with x3 := v } else if p = 4 then { a with x4 := v } else { a with x5 := v }
structure eS where
 Sets : Int
 Games : Int
 NoAd : Bool
 Tie : Int
 To : Int
 LastTie : Int
 LastTo : Int
 First : Int
 Then : Int
 Doubles : Bool
 deriving DecidableEq, Inhabited
def cU (x : eS) : List D := [.lit (.int .i64 x.Sets), .lit (.int .i64 x.Games), .lit (.bool x.NoAd), .lit (.int .i64 x.Tie), .lit (.int .i64 x.To), .lit (.int .i64 x.LastTie), .lit (.int .i64 x.LastTo), .lit (.int .i64 x.First), .lit (.int .i64 x.Then), .lit (.bool x.Doubles)]
structure gX where
 Format : eS
 deriving DecidableEq, Inhabited
def cO (x : gX) : List D := [.lit (.int .i64 x.Format.Sets), .lit (.int .i64 x.Format.Games), .lit (.bool x.Format.NoAd), .lit (.int .i64 x.Format.Tie), .lit (.int .i64 x.Format.To), .lit (.int .i64 x.Format.LastTie), .lit (.int .i64 x.Format.LastTo), .lit (.int .i64 x.Format.First), .lit (.int .i64 x.Format.Then), .lit (.bool x.Format.Doubles)]
structure bI where
 A : Int
 B : Int
 deriving DecidableEq, Inhabited
def aN (x : bI) : List D := [.lit (.int .i64 x.A), .lit (.int .i64 x.B)]
structure gO where
 tie : Int
 to : Int
 deriving DecidableEq, Inhabited
def cC (x : gO) : List D := [.lit (.int .i64 x.tie), .lit (.int .i64 x.to)]
structure dI where
 Sets : List bI
 Games : bI
 Points : bI
 deriving DecidableEq, Inhabited
structure cM where
 Board : dI
 Server : Int
 Ends : Int
 Balls : Int
 Winner : Int
 deriving DecidableEq, Inhabited
def jZ (x : cM) : List D := [.sl 2 (x.Board.Sets.map aN), .lit (.int .i64 x.Board.Games.A), .lit (.int .i64 x.Board.Games.B), .lit (.int .i64 x.Board.Points.A), .lit (.int .i64 x.Board.Points.B), .lit (.int .i64 x.Server), .lit (.int .i64 x.Ends), .lit (.int .i64 x.Balls), .lit (.int .i64 x.Winner)]
structure nF where
 Set : Int
 Tie : Bool
 Server : Int
 Winner : Int
 Points : bI
 Fresh : Bool
 deriving DecidableEq, Inhabited
def bD (x : nF) : List D := [.lit (.int .i64 x.Set), .lit (.bool x.Tie), .lit (.int .i64 x.Server), .lit (.int .i64 x.Winner), .lit (.int .i64 x.Points.A), .lit (.int .i64 x.Points.B), .lit (.bool x.Fresh)]
structure bK where
 rules : gX
 Score : cM
 first : Int
 won : bI
 ties : List Bool
 games : List nF
 deriving DecidableEq, Inhabited
def eJ (x : bK) : List D := [.lit (.int .i64 x.rules.Format.Sets), .lit (.int .i64 x.rules.Format.Games), .lit (.bool x.rules.Format.NoAd), .lit (.int .i64 x.rules.Format.Tie), .lit (.int .i64 x.rules.Format.To), .lit (.int .i64 x.rules.Format.LastTie), .lit (.int .i64 x.rules.Format.LastTo), .lit (.int .i64 x.rules.Format.First), .lit (.int .i64 x.rules.Format.Then), .lit (.bool x.rules.Format.Doubles), .sl 2 (x.Score.Board.Sets.map aN), .lit (.int .i64 x.Score.Board.Games.A), .lit (.int .i64 x.Score.Board.Games.B), .lit (.int .i64 x.Score.Board.Points.A), .lit (.int .i64 x.Score.Board.Points.B), .lit (.int .i64 x.Score.Server), .lit (.int .i64 x.Score.Ends), .lit (.int .i64 x.Score.Balls), .lit (.int .i64 x.Score.Winner), .lit (.int .i64 x.first), .lit (.int .i64 x.won.A), .lit (.int .i64 x.won.B), .sl 1 (x.ties.map cJ), .sl 7 (x.games.map bD)]
def zF (x : aS) : Prop := okI x.Player ∧ okI x.Nation ∧ okB x.Qualified
def aJo (x : aR) : Prop := okI x.Size ∧ okI x.Seeds ∧ (okL zF) x.Persons ∧ (okL okI) x.Lots
def dX (a : Int) (b : Int) (c : Int) : Option Bool :=
  (bif decide (b ≤ a) then (some (decide (a ≤ c))) else (some false)).bind fun d =>
  some d
def qK (a : Int → Option Int) (_ : Int) (b : Int) (_ : aR) : Option Int :=
  a (w64 (b + 1))
def qL (a : Int → Option Int) (b : Int) (c : Int) (d : aR) : Option Int :=
  qK a b c d
def gR (a : Int → Option Int) (b : Int) (c : Int) (d : aR) (e : aS) : Nat → Int → Option Int
 | 0, _ => none
 | g + 1, h =>
  bif decide (h < c) then ((idx d.Persons h).bind fun f =>
  bif decide (f.Player = e.Player) then (some 60)
  else ((gR a b c d e g) (w64 (h + 1))))
  else (qL a b c d)
def qM : Option Int :=
  some 0
def gS (a : aR) : Nat → Int → Option Int
 | 0, _ => none
 | d + 1, e =>
  bif decide (e < (a.Lots.length : Int)) then ((idx a.Lots e).bind fun b =>
  (dX b 0 999999).bind fun c =>
  bif !c then (some 60)
  else ((gS a d) (w64 (e + 1))))
  else (qM)
def nC (a : aR) : Option Int :=
  gS a BIG 0
def dU (a : Int) (b : aR) : Nat → Int → Option Int
 | 0, _ => none
 | i + 1, j =>
  bif decide (j < a) then ((idx b.Persons j).bind fun c =>
  (dX c.Player 0 999).bind fun d =>
  (bif !d then (some true) else ((dX c.Nation 0 9).bind fun e =>
  some (!e))).bind fun f =>
  (bif f then (some true) else ((bif decide (j < b.Seeds) then (some c.Qualified) else (some false)).bind fun g =>
  some g)).bind fun h =>
  bif h then (some 60)
  else (gR (dU a b i) a j b c BIG 0))
  else (nC b)
def lC (a : aR) : Option Int :=
  (bif !decide (a.Size = 4) then (some (!decide (a.Size = 8))) else (some false)).bind fun b =>
  (bif b then (some true) else ((dX (a.Persons.length : Int) 2 a.Size).bind fun c =>
  some (!c))).bind fun d =>
  (bif d then (some true) else ((dX a.Seeds 0 (min (a.Persons.length : Int) (w64 (a.Size.tdiv 2)))).bind fun e =>
  some (!e))).bind fun f =>
  (bif f then (some true) else (some (decide ((w64 (a.Size.tdiv 2)) < (w64 (a.Size - (a.Persons.length : Int))))))).bind fun g =>
  (bif g then (some true) else (some (decide (10 < (a.Lots.length : Int))))).bind fun h =>
  bif h then (some 60)
  else (dU (a.Persons.length : Int) a BIG 0)
def sT : Option Bool :=
  some false
def jK (a : List Int) (b : Int) : Nat → Int → Option Bool
 | 0, _ => none
 | d + 1, e =>
  bif decide (e < (a.length : Int)) then ((idx a e).bind fun c =>
  bif decide (c = b) then (some true)
  else ((jK a b d) (w64 (e + 1))))
  else (sT)
def mC (a : List Int) (b : Int) : Option Bool :=
  jK a b BIG 0
def pL : Option Bool :=
  some true
def fZ (a : List Int) (b : aR) : Nat → Int → Option Bool
 | 0, _ => none
 | e + 1, f =>
  bif decide (f < (b.Persons.length : Int)) then ((idx b.Persons f).bind fun c =>
  (mC a c.Player).bind fun d =>
  bif !d then (some false)
  else ((fZ a b e) (w64 (f + 1))))
  else (pL)
def mG (a : aR) (b : List Int) : Option Bool :=
  fZ b a BIG 0
def pJ : Option Int :=
  some (-1)
def fY (a : Int) (b : aR) : Nat → Int → Option Int
 | 0, _ => none
 | d + 1, e =>
  bif decide (e < (b.Persons.length : Int)) then ((idx b.Persons e).bind fun c =>
  bif decide (c.Player = a) then (some e)
  else ((fY a b d) (w64 (e + 1))))
  else (pJ)
def kP (a : aR) (b : Int) : Option Int :=
  fY b a BIG 0
def iE (a : aR) (b : Int) (c : Int) : Option Bool :=
  (bif decide (b = (-1)) then (some true) else (some (decide (c = (-1))))).bind fun d =>
  bif d then (some (!decide (b = c)))
  else ((kP a b).bind fun e =>
  (idx a.Persons e).bind fun f =>
  (kP a c).bind fun g =>
  (idx a.Persons g).bind fun h =>
  (bif decide (f.Nation = 0) then (some true) else (some (!decide (f.Nation = h.Nation)))).bind fun i =>
  (bif i then ((bif f.Qualified then (some h.Qualified) else (some false)).bind fun j =>
  some (!j)) else (some false)).bind fun k =>
  some k)
def rD : Option Int :=
  some (-1)
def iF (a : List Int) (b : Int) : Nat → Int → Option Int
 | 0, _ => none
 | d + 1, e =>
  bif decide (e < (a.length : Int)) then ((idx a e).bind fun c =>
  bif decide (c = b) then (some e)
  else ((iF a b d) (w64 (e + 1))))
  else (rD)
def nQ (a : List Int) (b : Int) : Option Int :=
  iF a b BIG 0
def pK (a : Int) : Option Int :=
  some (aFj a 1)
def qN : Option Bool :=
  some true
def gU (a : List Int) (b : Int) (c : aR) : Nat → Int → Option Bool
 | 0, _ => none
 | n + 1, o =>
  bif decide (o < c.Seeds) then ((idx c.Persons o).bind fun d =>
  (nQ a d.Player).bind fun e =>
  (bif decide (o = 0) then (some (!decide (e = 0))) else (some false)).bind fun f =>
  (bif f then (some true) else ((bif decide (o = 1) then (some (!decide (e = (w64 (c.Size - 1))))) else (some false)).bind fun g =>
  some g)).bind fun h =>
  (bif h then (some true) else ((bif decide (2 ≤ o) then (some (!decide (e = (w64 (c.Size.tdiv 4))))) else (some false)).bind fun i =>
  (bif i then (some (!decide (e = (w64 ((w64 (c.Size - 1)) - (w64 (c.Size.tdiv 4))))))) else (some false)).bind fun j =>
  some j)).bind fun k =>
  bif k then (some false)
  else ((pK e).bind fun l =>
  (idx a l).bind fun m =>
  bif !decide ((decide (o < b)) = (decide (m = (-1)))) then (some false)
  else ((gU a b c n) (w64 (o + 1)))))
  else (qN)
def kV (a : List Int) (b : aR) : Option Bool :=
  gU a (w64 (b.Size - (b.Persons.length : Int))) b BIG 0
def gT (a : List Int) (b : aR) : Nat → Int → Option Bool
 | 0, _ => none
 | f + 1, g =>
  bif decide (g < b.Size) then ((idx a g).bind fun c =>
  (idx a (w64 (g + 1))).bind fun d =>
  (iE b c d).bind fun e =>
  bif !e then (some false)
  else ((gT a b f) (w64 (g + 2))))
  else (kV a b)
def mT (a : aR) (b : List Int) : Option Bool :=
  (mG a b).bind fun c =>
  bif !c then (some false)
  else (gT b a BIG 0)
def lW (a : (List Int) → Int → Option ((List Int))) (b : List Int) (c : Int) (_ : aR) : Option ((List Int)) :=
  a b (w64 (c + 1))
def iA (a : (List Int) → Int → Option ((List Int))) (b : List Int) (c : Int) (d : Int) (e : Int) (f : aR) : Option ((List Int)) :=
  (sub b e (b.length : Int)).bind fun g =>
  (app 8 ([d]) g).bind fun h =>
  (sub b 0 e).bind fun i =>
  (app 8 ([] : List Int) i).bind fun j =>
  (app 8 j h).bind fun k =>
  lW a k c f
def fI (a : (List Int) → Int → Option ((List Int))) (b : List Int) (c : Int) (d : Int) (e : aR) : Nat → Int → Option ((List Int))
 | 0, _ => none
 | h + 1, i =>
  (bif decide (i < (b.length : Int)) then ((idx b i).bind fun f =>
  some (decide (f < d))) else (some false)).bind fun g =>
  bif g then ((fI a b c d e h) (w64 (i + 1)))
  else (iA a b c d i e)
def oV (a : List Int) : Option ((List Int)) :=
  some a
def dE (a : aR) : Nat → (List Int) → Int → Option ((List Int))
 | 0, _, _ => none
 | c + 1, d, e =>
  bif decide (e < (a.Persons.length : Int)) then ((idx a.Persons e).bind fun b =>
  fI (dE a c) d e b.Player a BIG 0)
  else (oV d)
def lK (a : aR) : Option ((List Int)) :=
  dE a BIG ([] : List Int) 0
def rC (a : Int) : Option Int :=
  some a
def fQ (a : List Int) (b : Int) : Nat → Int → Int → Option Int
 | 0, _, _ => none
 | d + 1, e, f =>
  bif decide (f < (a.length : Int)) then ((idx a f).bind fun c =>
  bif decide (c = b) then ((fQ a b d) (w64 (e + 1)) (w64 (f + 1)))
  else ((fQ a b d) e (w64 (f + 1))))
  else (rC e)
def nP (a : List Int) (b : Int) : Option Int :=
  fQ a b BIG 0 0
def rB : Option Bool :=
  some true
def eC (a : List Int) (b : Int) (c : aR) : Nat → Int → Option Bool
 | 0, _ => none
 | h + 1, i =>
  bif decide (i < c.Seeds) then ((idx a b).bind fun d =>
  (idx c.Persons i).bind fun e =>
  bif decide (i = 0) then (bif !decide ((decide (d = e.Player)) = (decide (b = 0))) then (some false)
  else ((eC a b c h) (w64 (i + 1))))
  else (bif decide (i = 1) then (bif !decide ((decide (d = e.Player)) = (decide (b = (w64 (c.Size - 1))))) then (some false)
  else ((eC a b c h) (w64 (i + 1))))
  else ((bif decide (d = e.Player) then (some (!decide (b = (w64 (c.Size.tdiv 4))))) else (some false)).bind fun f =>
  (bif f then (some (!decide (b = (w64 ((w64 (c.Size - 1)) - (w64 (c.Size.tdiv 4))))))) else (some false)).bind fun g =>
  bif g then (some false)
  else ((eC a b c h) (w64 (i + 1))))))
  else (rB)
def nO (a : aR) (b : List Int) : Option Bool :=
  (bif decide (((w64 ((b.length : Int) - 1)).tmod 2) = 1) then ((idx b (w64 ((w64 ((b.length : Int) - 1)) - 1))).bind fun c =>
  (idx b (w64 ((b.length : Int) - 1))).bind fun d =>
  (iE a c d).bind fun e =>
  some (!e)) else (some false)).bind fun f =>
  bif f then (some false)
  else (eC b (w64 ((b.length : Int) - 1)) a BIG 0)
def tT (_ : aR → (List Int) → Int → Option ((List (List Int)))) (a : List (List Int)) : Option ((List (List Int))) :=
  some a
def dZ (a : aR → (List Int) → Int → Option ((List (List Int)))) (b : List Int) (c : Int) (d : List Int) (e : aR) : Nat → Int → (List (List Int)) → Option ((List (List Int)))
 | 0, _, _ => none
 | u + 1, v, w =>
  (bif decide (v < (d.length : Int)) then (some (decide ((w.length : Int) ≤ c))) else (some false)).bind fun f =>
  bif f then ((idx d v).bind fun g =>
  (bif decide (g = (-1)) then ((nP b (-1)).bind fun h =>
  some (decide (h = (w64 (e.Size - (e.Persons.length : Int)))))) else (some false)).bind fun i =>
  (bif i then (some true) else ((idx d v).bind fun j =>
  (bif !decide (j = (-1)) then ((idx d v).bind fun k =>
  (mC b k).bind fun l =>
  some l) else (some false)).bind fun m =>
  some m)).bind fun n =>
  bif n then ((dZ a b c d e u) (w64 (v + 1)) w)
  else ((app 8 ([] : List Int) b).bind fun o =>
  (idx d v).bind fun p =>
  (app 8 o ([p])).bind fun q =>
  (nO e q).bind fun r =>
  bif r then ((a e q (w64 (c - (w.length : Int)))).bind fun s =>
  (app 24 w s).bind fun t =>
  (dZ a b c d e u) (w64 (v + 1)) t)
  else ((dZ a b c d e u) (w64 (v + 1)) w)))
  else (tT a w)
def eO : Nat → aR → (List Int) → Int → Option ((List (List Int)))
 | 0, _, _, _ => none
 | d + 1, e, f, g =>
  bif decide ((f.length : Int) = e.Size) then ((mT e f).bind fun a =>
  bif a then (some ([f]))
  else (some ([] : List (List Int))))
  else ((lK e).bind fun b =>
  (app 8 ([(-1)]) b).bind fun c =>
  dZ (eO d) f g c e BIG 0 ([] : List (List Int)))
def rX : aR → (List Int) → Int → Option ((List (List Int))) := eO BIG
def oU (a : aR) : Option Bool :=
  (bif decide (40 < (a.Persons.length : Int)) then (some true) else (some (decide (40 < (a.Lots.length : Int))))).bind fun b =>
  (bif b then (some true) else ((lC a).bind fun c =>
  (bif decide (c = 0) then ((rX a ([] : List Int) 300).bind fun d =>
  some (decide (300 < (d.length : Int)))) else (some false)).bind fun e =>
  some e)).bind fun f =>
  some f
def nN : Option (aR × aR) :=
  some ((aR.mk 4 1 ([(aS.mk 10 1 false), (aS.mk 20 2 false), (aS.mk 30 1 false)]) ([5, 4])), (aR.mk 4 0 ([(aS.mk 1 1 false), (aS.mk 2 1 false), (aS.mk 3 2 false), (aS.mk 4 0 false)]) ([] : List Int)))
def iH (a : Int) (b : Int) (c : Int) : Option Bool :=
  (bif decide (b ≤ a) then (some (decide (a ≤ c))) else (some false)).bind fun d =>
  some d
def kM : Option Int :=
  some (-1)
def dG (a : List aS) (b : aS → Option Bool) (c : Int) : Nat → Int → Option Int
 | 0, _ => none
 | f + 1, g =>
  bif decide (g < c) then ((idx a g).bind fun d =>
  (b d).bind fun e =>
  bif e then (some g)
  else ((dG a b c f) (w64 (g + 1))))
  else (kM)
def fT (a : List aS) (b : aS → Option Bool) : Option Int :=
  dG a b (a.length : Int) BIG 0
def eY (a : List aS) (b : aS → Option Bool) : Option Bool :=
  (fT a b).bind fun c =>
  some (decide (0 ≤ c))
def sK (a : aS) (b : aS) : Option Bool :=
  some (decide (a.Player = b.Player))
def nE : Option Int :=
  some (-1)
def eQ (a : List Int) (b : Int → Option Bool) (c : Int) : Nat → Int → Option Int
 | 0, _ => none
 | f + 1, g =>
  bif decide (g < c) then ((idx a g).bind fun d =>
  (b d).bind fun e =>
  bif e then (some g)
  else ((eQ a b c f) (w64 (g + 1))))
  else (nE)
def kN (a : List Int) (b : Int → Option Bool) : Option Int :=
  eQ a b (a.length : Int) BIG 0
def iS (a : List Int) (b : Int → Option Bool) : Option Bool :=
  (kN a b).bind fun c =>
  some (decide (0 ≤ c))
def sL (a : Int) : Option Bool :=
  (iH a 0 999999).bind fun b =>
  some (!b)
def rR (a : aR) : Option Int :=
  (iS a.Lots (fun b => sL b)).bind fun c =>
  bif c then (some 60)
  else (some 0)
def lD (a : List aS) (b : Int) (c : aR) : Nat → Int → Option Int
 | 0, _ => none
 | n + 1, o =>
  bif decide (o < b) then ((idx a o).bind fun d =>
  (sub c.Persons 0 o).bind fun e =>
  (eY e (fun f => sK f d)).bind fun g =>
  (bif g then (some true) else ((iH d.Player 0 999).bind fun h =>
  some (!h))).bind fun i =>
  (bif i then (some true) else ((iH d.Nation 0 9).bind fun j =>
  some (!j))).bind fun k =>
  (bif k then (some true) else ((bif decide (o < c.Seeds) then (some d.Qualified) else (some false)).bind fun l =>
  some l)).bind fun m =>
  bif m then (some 60)
  else ((lD a b c n) (w64 (o + 1))))
  else (rR c)
def qF (a : aR) : Option Int :=
  (bif !decide (a.Size = 4) then (some (!decide (a.Size = 8))) else (some false)).bind fun b =>
  (bif b then (some true) else ((iH (a.Persons.length : Int) 2 a.Size).bind fun c =>
  some (!c))).bind fun d =>
  (bif d then (some true) else (some (decide ((w64 (a.Size.tdiv 2)) < (w64 (a.Size - (a.Persons.length : Int))))))).bind fun e =>
  (bif e then (some true) else ((iH a.Seeds 0 (min (w64 (a.Size.tdiv 2)) (a.Persons.length : Int))).bind fun f =>
  some (!f))).bind fun g =>
  (bif g then (some true) else (some (decide (10 < (a.Lots.length : Int))))).bind fun h =>
  bif h then (some 60)
  else (lD a.Persons (a.Persons.length : Int) a BIG 0)
def nD (x : List Int) (a : Int → Int → Option Int) : Option (List Int) := aIa x a
def fH (a : Int) (b : Int) (c : aR) : Option Int :=
  (idx c.Persons a).bind fun d =>
  (idx c.Persons b).bind fun e =>
  some (w64 (d.Player - e.Player))
def lE (a : aR) (b : List Int) : Option (List Int) :=
  (nD b (fun c d => fH c d a)).bind fun e =>
  (app 8 ([(-1)]) e).bind fun f =>
  some f
def lF (a : Int) (b : aR) : Nat → Int → (List Int) → Option (List Int)
 | 0, _, _ => none
 | d + 1, e, f =>
  bif decide (e < a) then ((app 8 f ([e])).bind fun c =>
  (lF a b d) (w64 (e + 1)) c)
  else (lE b f)
def jA (a : aR) : Option (List Int) :=
  lF (a.Persons.length : Int) a BIG 0 ([] : List Int)
def gE (a : List Int) : Option ((List Int)) :=
  (app 8 ([] : List Int) a).bind fun b =>
  some b
def qR : Option Int :=
  some (-1)
def gW (a : List Int) (b : Int) (c : Int) : Nat → Int → Option Int
 | 0, _ => none
 | e + 1, f =>
  bif decide (f < c) then ((idx a f).bind fun d =>
  bif decide (b = d) then (some f)
  else ((gW a b c e) (w64 (f + 1))))
  else (qR)
def fC (a : List Int) (b : Int) : Option Int :=
  gW a b (a.length : Int) BIG 0
def dV (a : List Int) (b : Int) : Option Bool :=
  (fC a b).bind fun c =>
  some (decide (0 ≤ c))
def tY (a : aR) (b : Int) (c : Int) : Option Bool :=
  (bif decide (b = 0) then (some (decide (0 < a.Seeds))) else (some false)).bind fun d =>
  bif d then (some (decide (c = 0)))
  else ((bif decide (b = (w64 (a.Size - 1))) then (some (decide (1 < a.Seeds))) else (some false)).bind fun e =>
  bif e then (some (decide (c = 1)))
  else ((bif decide (c = (-1)) then (some true) else (some (decide (a.Seeds ≤ c)))).bind fun f =>
  bif f then (some true)
  else ((bif decide (1 < c) then ((dV ([w64 (a.Size.tdiv 4), w64 ((w64 (a.Size - 1)) - (w64 (a.Size.tdiv 4)))]) b).bind fun g =>
  some g) else (some false)).bind fun h =>
  some h)))
def sI (a : aR) (b : Int) (c : Int) : Option Bool :=
  (bif decide (b = (-1)) then (some true) else (some (decide (c = (-1))))).bind fun d =>
  bif d then (some (!decide (b = c)))
  else ((idx a.Persons b).bind fun e =>
  (idx a.Persons c).bind fun f =>
  (bif !decide (e.Nation = f.Nation) then (some true) else (some (decide (e.Nation = 0)))).bind fun g =>
  (bif g then ((bif e.Qualified then (some f.Qualified) else (some false)).bind fun h =>
  some (!h)) else (some false)).bind fun i =>
  some i)
def nH (a : Int) (b : Int) (c : aR) (d : Int) : Option Bool :=
  (bif decide (a = (-1)) then (some true) else (some (decide (c.Seeds ≤ a)))).bind fun e =>
  (bif e then (some true) else (some (decide ((decide (b = (-1))) = (decide (a < d)))))).bind fun f =>
  some f
def qG (a : aR) (b : Int) (c : Int) : Option Bool :=
  (bif decide ((w64 (a.Size - (a.Persons.length : Int))) ≤ a.Seeds) then ((bif decide (b = (-1)) then (some (decide (a.Seeds ≤ c))) else (some false)).bind fun d =>
  (bif d then (some true) else ((bif decide (c = (-1)) then (some (decide (a.Seeds ≤ b))) else (some false)).bind fun e =>
  some e)).bind fun f =>
  some f) else (some false)).bind fun g =>
  bif g then (some false)
  else ((sI a b c).bind fun h =>
  (bif h then ((nH b c a (w64 (a.Size - (a.Persons.length : Int)))).bind fun i =>
  some i) else (some false)).bind fun j =>
  (bif j then ((nH c b a (w64 (a.Size - (a.Persons.length : Int)))).bind fun k =>
  some k) else (some false)).bind fun l =>
  some l)
def rH {S : Type} (_ : S → (List Int) → Option (S × Bool)) (_ : (List Int) → Int → aR → (List Int) → S → Option (S × Bool)) (_ : List Int) (a : S) (_ : aR) (_ : List Int) : Option (S × Bool) :=
  some (a, true)
def fS {S : Type} (a : S → (List Int) → Option (S × Bool)) (b : (List Int) → Int → aR → (List Int) → S → Option (S × Bool)) (c : Int) (d : aR) (e : Int) (f : List Int) (g : Int) (h : List Int) (i : aR) (j : List Int) : Nat → Int → S → Option (S × Bool)
 | 0, _, _ => none
 | x + 1, y, z =>
  bif decide (y < g) then ((idx f y).bind fun k =>
  (bif decide (k = (-1)) then (some (w64 (c - 1)))
  else (some c)).bind fun l =>
  (bif decide (l < 0) then (some true) else ((bif !decide (k = (-1)) then ((dV h k).bind fun m =>
  some m) else (some false)).bind fun n =>
  some n)).bind fun o =>
  (bif o then (some true) else ((tY d e k).bind fun p =>
  some (!p))).bind fun q =>
  (bif q then (some true) else ((bif decide ((e.tmod 2) = 1) then ((idx h (w64 (e - 1))).bind fun r =>
  (qG d r k).bind fun s =>
  some (!s)) else (some false)).bind fun t =>
  some t)).bind fun u =>
  bif u then ((fS a b c d e f g h i j x) (w64 (y + 1)) z)
  else ((aDw i.Size h ([k])).bind fun v =>
  (b v l i j z).bind fun w =>
  bif !w.2 then (some (w.1, false))
  else ((fS a b c d e f g h i j x) (w64 (y + 1)) w.1)))
  else (rH a b h z i j)
def fG {S : Type} (a : S → (List Int) → Option (S × Bool)) : Nat → (List Int) → Int → aR → (List Int) → S → Option (S × Bool)
 | 0, _, _, _, _, _ => none
 | d + 1, e, f, g, h, i =>
  bif decide ((e.length : Int) = g.Size) then ((gE e).bind fun b =>
  (a i b).bind fun c =>
  some c)
  else (fS a (fG a d) f g (e.length : Int) h (h.length : Int) e g h BIG 0 i)
def tX {S : Type} (a : S → (List Int) → Option (S × Bool)) : (List Int) → Int → aR → (List Int) → S → Option (S × Bool) := fG a BIG
def nG {S : Type} (a : S → (List Int) → Option (S × Bool)) (b : aR) (c : List Int) (d : S) : Option (S × Bool) :=
  (mk0 8 b.Size).bind fun _ =>
  (tX a ([] : List Int) (w64 (b.Size - (b.Persons.length : Int))) b c d).bind fun e =>
  some e
def oC (a : aR) : Option (Int × Int) :=
  (qF a).bind fun b =>
  bif !decide (b = 0) then (some (0, b))
  else ((jA a).bind fun c =>
  (nG (S := Int) (fun d _ =>
  some ((w64 (d + 1)), true)) a c 0).bind fun e =>
  bif e.2 then (some (e.1, 0))
  else (none))
def uV (a : List Int) : Option ((List Int)) :=
  some a
def jV (a : List Int) (b : Int) (c : aR) : Nat → Int → (List Int) → Option ((List Int))
 | 0, _, _ => none
 | h + 1, i, j =>
  bif decide (i < b) then ((idx a i).bind fun d =>
  bif decide (d = (-1)) then ((app 8 j ([(-1)])).bind fun e =>
  (jV a b c h) (w64 (i + 1)) e)
  else ((idx c.Persons d).bind fun f =>
  (app 8 j ([f.Player])).bind fun g =>
  (jV a b c h) (w64 (i + 1)) g))
  else (uV j)
def oD (a : aR) (b : List Int) : Option ((List Int)) :=
  jV b (b.length : Int) a BIG 0 ([] : List Int)
def pU (a : aR) (b : Int) : Option ((List Int) × Bool) :=
  (jA a).bind fun c =>
  (nG (S := Int × (List Int) × Bool) (fun d e =>
  bif decide (d.1 = 0) then ((oD a e).bind fun f =>
  some ((d.1, f, true), false))
  else (some ((w64 (d.1 - 1), d.2.1, d.2.2), true))) a c (b, ([] : List Int), false)).bind fun g =>
  bif g.2 then (some (([] : List Int), false))
  else (some (g.1.2.1, g.1.2.2))
def mD (a : Int) (b : Int) (c : aR) : Option ((List Int) × Int) :=
  (chk (!decide (a = 0))).bind fun _ =>
  (pU c (b.tmod a)).bind fun d =>
  some (d.1, 0)
def iO (a : Int) (b : List Int) (c : Int) (d : aR) : Nat → Int → Int → Option ((List Int) × Int)
 | 0, _, _ => none
 | f + 1, g, h =>
  bif decide (h < c) then ((idx b h).bind fun e =>
  (iO a b c d f) (w64 (g + e)) (w64 (h + 1)))
  else (mD a g d)
def lI (a : aR) : Option ((List Int) × Int) :=
  (oC a).bind fun b =>
  bif !decide (b.2 = 0) then (some (([] : List Int), b.2))
  else (bif decide (b.1 = 0) then (some (([] : List Int), 3))
  else (iO b.1 a.Lots (a.Lots.length : Int) a BIG 0 0))
def rA : Option (aJ × (List aE)) :=
  some ((aJ.mk 3 ([1, (-1), 2, 3, 4, 5, 6, 7])), [(aE.mk 1 1 0 2 0), (aE.mk 3 0 3 7 0), (aE.mk 5 0 4 8 4)])
def eH (a : Int) (b : Int) (c : Int) : Option Bool :=
  (bif decide (b ≤ a) then (some (decide (a ≤ c))) else (some false)).bind fun d =>
  some d
def rW : Option Bool :=
  some true
def gJ (a : List Int) (b : Int) (c : aJ) : Nat → Int → (List (Int × Int)) → Option Bool
 | 0, _, _ => none
 | h + 1, i, j =>
  bif decide (i < b) then ((idx a i).bind fun d =>
  bif decide (d = (-1)) then ((idx c.Slots (aFj i 1)).bind fun e =>
  bif decide (e = (-1)) then (some false)
  else ((gJ a b c h) (w64 (i + 1)) j))
  else ((bif decide (1 < (cE d 0 (eP d (w64 ((cE d 0 j) + 1)) j))) then (some true) else ((eH d 0 999).bind fun f =>
  some (!f))).bind fun g =>
  bif g then (some false)
  else ((gJ a b c h) (w64 (i + 1)) (eP d (w64 ((cE d 0 j) + 1)) j))))
  else (rW)
def mP (a : aJ) : Option Bool :=
  (eH a.Rounds 1 5).bind fun b =>
  (bif !b then (some true) else ((chk (decide (0 ≤ a.Rounds))).bind fun _ =>
  some (!decide ((a.Slots.length : Int) = (w64 (1 * 2 ^ (min a.Rounds.toNat 64))))))).bind fun c =>
  bif c then (some false)
  else (gJ a.Slots (a.Slots.length : Int) a BIG 0 ([] : List (Int × Int)))
def lH : Option Int :=
  some (-1)
def dO (a : List aE) (b : aE → Option Bool) (c : Int) : Nat → Int → Option Int
 | 0, _ => none
 | f + 1, g =>
  bif decide (g < c) then ((idx a g).bind fun d =>
  (b d).bind fun e =>
  bif e then (some g)
  else ((dO a b c f) (w64 (g + 1))))
  else (lH)
def hZ (a : List aE) (b : aE → Option Bool) : Option Int :=
  dO a b (a.length : Int) BIG 0
def fL (a : List aE) (b : aE → Option Bool) : Option Bool :=
  (hZ a b).bind fun c =>
  some (decide (0 ≤ c))
def lA (a : aD) (b : aJ) : Option Bool :=
  (eH a.round 0 (w64 (b.Rounds - 1))).bind fun c =>
  (bif c then ((chk (decide (0 ≤ (w64 (a.round + 1))))).bind fun _ =>
  (eH a.place 0 (w64 (((b.Slots.length : Int).fdiv (2 ^ (min (w64 (a.round + 1)).toNat 64))) - 1))).bind fun d =>
  some d) else (some false)).bind fun e =>
  some e
def oS (a : aJ) (b : aE) : Option Bool :=
  (eH b.Player 0 999).bind fun c =>
  bif !c then (some false)
  else (bif decide (b.Kind = 5) then ((bif decide (b.Round = 0) then ((eH b.Place 0 (w64 ((a.Slots.length : Int) - 1))).bind fun d =>
  some d) else (some false)).bind fun e =>
  (bif e then ((eH b.Old 0 999).bind fun f =>
  some f) else (some false)).bind fun g =>
  some g)
  else ((eH b.Kind 1 4).bind fun h =>
  (bif !h then (some true) else (some (!decide (b.Old = 0)))).bind fun i =>
  (bif i then (some true) else ((lA (aD.mk b.Round b.Place) a).bind fun j =>
  some (!j))).bind fun k =>
  bif k then (some false)
  else ((bif decide (0 < b.Round) then (some true) else ((sub a.Slots (w64 (2 * b.Place)) (w64 ((w64 (2 * b.Place)) + 2))).bind fun l =>
  (dV l (-1)).bind fun m =>
  some (!m))).bind fun n =>
  some n)))
def mQ (a : aE) (b : aJ) : Option Bool :=
  (oS b a).bind fun c =>
  some (!c)
def mI (a : (aE × Bool) → Prop) (_ : List Int) (_ : aJ) (_ : List (aE × Int)) (_ : aE) : Prop :=
  a ((aE.mk 0 0 0 0 0), false)
def fW (a : (aE × Bool) → Prop) (b : Int) (c : List Int) (d : aJ) (e : List (aE × Int)) : Nat → aE → (List (aE × Int)) → Prop
 | 0, _, _ => False
 | j + 1, k, l =>
  aMa l (mI a c d e k)
  (fun f g =>
  nb (bif decide (f.1.Place = b) then ((idx c b).bind fun h =>
  some (decide (f.1.Old = h))) else (some false)) fun i =>
  bif i then (a (f.1, true))
  else ((fW a b c d e j) k g))
def gI (a : aJ) (b : List Int) (c : List (aE × Int)) (d : Int) (Q : (aE × Bool) → Prop) : Prop :=
  zS c fun e =>
  fW Q d b a c BIG (aE.mk 0 0 0 0 0) e
def kT (_ : (Bool × (List Int) × (List (aE × Int))) → Prop) (a : Int → (List Int) → (List (aE × Int)) → (List Int) → Prop) (_ : Int) (b : Int) (c : List Int) (_ : aJ) (d : List (aE × Int)) (e : List Int) : Prop :=
  a (w64 (b + 1)) c d e
def kU (a : (Bool × (List Int) × (List (aE × Int))) → Prop) (b : Int → (List Int) → (List (aE × Int)) → (List Int) → Prop) (c : Int) (d : Int) (e : List Int) (f : aJ) (g : List (aE × Int)) (h : List Int) : Prop :=
  kT a b c d e f g h
def dD (a : (Bool × (List Int) × (List (aE × Int))) → Prop) (b : Int → (List Int) → (List (aE × Int)) → (List Int) → Prop) (c : Int) (d : Int) (e : Int) (f : aJ) : Nat → Bool → (List Int) → (List (aE × Int)) → aE → (List Int) → Prop
 | 0, _, _, _, _, _ => False
 | j + 1, k, l, m, n, o =>
  bif k then (nb (dV o n.Player) fun g =>
  bif g then (a (false, l, m))
  else (nb (idx l c) fun _ =>
  nb (app 8 o ([n.Player])) fun h =>
  gI f (l.set c.toNat n.Player) (oF n m) c fun i =>
  (dD a b c d e f j) i.2 (l.set c.toNat n.Player) (oF n m) i.1 h))
  else (kU a b d e l f m o)
def kS (a : (Bool × (List Int) × (List (aE × Int))) → Prop) (b : List Int) (_ : aJ) (c : List (aE × Int)) : Prop :=
  a (decide ((c.length : Int) = 0), b, c)
def cH (a : (Bool × (List Int) × (List (aE × Int))) → Prop) (b : Int) (c : aJ) : Nat → Int → (List Int) → (List (aE × Int)) → (List Int) → Prop
 | 0, _, _, _, _ => False
 | e + 1, f, g, h, i =>
  bif decide (f < b) then (gI c g h f fun d =>
  dD a (cH a b c e) f b f c BIG d.2 g h d.1 i)
  else (kS a g c h)
def kC (a : aJ) (b : List Int) (c : List (aE × Int)) (Q : (Bool × (List Int) × (List (aE × Int))) → Prop) : Prop :=
  nb (gE a.Slots) fun d =>
  cH Q (b.length : Int) a BIG 0 b c d
def jF (a : Int) (b : Int) : Option aD :=
  (chk (decide (0 ≤ (w64 (a + 1))))).bind fun _ =>
  some (aD.mk a (b.fdiv (2 ^ (min (w64 (a + 1)).toNat 64))))
def pI (_ : List Int) (a : List (aD × Int)) (_ : aJ) : Option (Bool × (List (aD × Int))) :=
  some (true, a)
def fX (a : Int) (b : Int) (c : List Int) (d : aJ) : Nat → Int → (List (aD × Int)) → Option (Bool × (List (aD × Int)))
 | 0, _, _ => none
 | i + 1, j, k =>
  bif decide (j < b) then ((jF j a).bind fun e =>
  (bif cX e k then ((idx c a).bind fun f =>
  some (!decide ((cE e 0 k) = f))) else (some false)).bind fun g =>
  bif g then (some (false, k))
  else ((idx c a).bind fun h =>
  (fX a b c d i) (w64 (j + 1)) (eP e h k)))
  else (pI c k d)
def kO (a : aJ) (b : List Int) (c : List (aD × Int)) (d : Int) (e : Int) : Option (Bool × (List (aD × Int))) :=
  fX d (w64 (e + 1)) b a BIG 0 c
def sS (a : ((Option aX) × Bool) → Prop) (b : List Int) (c : List (aD × Int)) (d : aJ) : Prop :=
  a ((some (aX.mk d b c)), true)
def jJ (a : ((Option aX) × Bool) → Prop) (b : List Int) (c : aJ) (d : List (aD × aE)) : Nat → (List (aD × Int)) → (List (aD × aE)) → Prop
 | 0, _, _ => False
 | k + 1, l, m =>
  aMa m (sS a b l c)
  (fun e f =>
  nb (fC b e.2.Player) fun g =>
  nb (bif decide (g < 0) then (some true) else ((jF e.1.round g).bind fun h =>
  some (!decide (h = e.1)))) fun i =>
  bif i then (a ((none : Option aX), false))
  else (nb (kO c b l g e.1.round) fun j =>
  bif !j.1 then (a ((none : Option aX), false))
  else ((jJ a b c d k) j.2 f)))
def pG (a : ((Option aX) × Bool) → Prop) (b : List Int) (c : List (aD × Int)) (d : aJ) (e : List (aD × aE)) : Prop :=
  zS e fun f =>
  jJ a b d e BIG c f
def fV (a : ((Option aX) × Bool) → Prop) (b : Int) (c : List Int) (d : aJ) (e : List (aD × aE)) : Nat → Int → (List (aD × Int)) → Prop
 | 0, _, _ => False
 | h + 1, i, j =>
  bif decide (i < b) then (nb (idx c i) fun f =>
  bif decide (f = (-1)) then (nb (kO d c j (aFj i 1) 0) fun g =>
  (fV a b c d e h) (w64 (i + 1)) g.2)
  else ((fV a b c d e h) (w64 (i + 1)) j))
  else (pG a c j d e)
def pF (a : ((Option aX) × Bool) → Prop) (b : List Int) (c : List (aD × Int)) (d : aJ) (e : List (aE × Int)) (f : List (aD × aE)) : Prop :=
  kC d b e fun g =>
  bif !g.1 then (a ((none : Option aX), false))
  else (fV a (g.2.1.length : Int) g.2.1 d f BIG 0 c)
def fU (a : ((Option aX) × Bool) → Prop) (b : List aE) (c : Int) (d : List Int) (e : List (aD × Int)) (f : aJ) : Nat → Int → (List (aE × Int)) → (List (aD × aE)) → Prop
 | 0, _, _, _ => False
 | i + 1, j, k, l =>
  bif decide (j < c) then (nb (idx b j) fun g =>
  bif decide (g.Kind = 5) then ((fU a b c d e f i) (w64 (j + 1)) (eP g (w64 ((cE g 0 k) + 1)) k) l)
  else (nb (bif cX (aD.mk g.Round g.Place) l then (some (!decide ((cE (aD.mk g.Round g.Place) (aE.mk 0 0 0 0 0) l) = g))) else (some false)) fun h =>
  bif h then (a ((none : Option aX), false))
  else ((fU a b c d e f i) (w64 (j + 1)) k (eP (aD.mk g.Round g.Place) g l))))
  else (pF a d e f k l)
def qD (a : aJ) (b : List aE) (Q : ((Option aX) × Bool) → Prop) : Prop :=
  nb (gE a.Slots) fun c =>
  fU Q b (b.length : Int) c ([] : List (aD × Int)) a BIG 0 ([] : List (aE × Int)) ([] : List (aD × aE))
def kE (a : aJ) (b : List aE) (Q : ((Option aX) × Int) → Prop) : Prop :=
  nb (mP a) fun c =>
  bif !c then (Q ((none : Option aX), 70))
  else (nb (bif decide (60 < (b.length : Int)) then (some true) else ((fL b (fun d => mQ d a)).bind fun e =>
  some e)) fun f =>
  bif f then (Q ((none : Option aX), 71))
  else (qD a b fun g =>
  bif !g.2 then (Q ((none : Option aX), 72))
  else (Q (g.1, 0))))
def qC (a : aJ) (b : List aE) (Q : Int → Prop) : Prop :=
  kE a b fun c =>
  Q c.2
def uS (a : ((Option aX) × (List Int) × Int) → Prop) (b : Option aX) (c : List Int) : Prop :=
  a (b, c, 0)
def lB (a : ((Option aX) × (List Int) × Int) → Prop) (b : List Int) (c : Int) : Nat → (Option aX) → Int → (List Int) → Prop
 | 0, _, _, _ => False
 | i + 1, j, k, l =>
  bif decide (k < c) then (nb (idx b k) fun d =>
  nb (eH d 0 999) fun e =>
  bif !e then (a ((none : Option aX), ([] : List Int), 1))
  else (nb (j) fun f =>
  nb (fC f.players d) fun g =>
  nb (app 8 l ([g])) fun h =>
  (lB a b c i) j (w64 (k + 1)) h))
  else (uS a j l)
def mM (a : aJ) (b : List aE) (c : List Int) (Q : ((Option aX) × (List Int) × Int) → Prop) : Prop :=
  kE a b fun d =>
  bif !decide (d.2 = 0) then (Q ((none : Option aX), ([] : List Int), d.2))
  else (lB Q c (c.length : Int) BIG d.1 0 ([] : List Int))
def sC (a : Int) : Option Int :=
  some a
def iU (a : List Int) : Nat → Int → Int → Option Int
 | 0, _, _ => none
 | c + 1, d, e =>
  bif decide (e < (a.length : Int)) then ((idx a e).bind fun b =>
  (iU a c) (min d b) (w64 (e + 1)))
  else (sC d)
def oZ (a : List Int) : Option Int :=
  bif decide ((a.length : Int) < 1) then (none)
  else ((idx a 0).bind fun b =>
  iU a BIG b 1)
def qI (a : aX) : Option Int :=
  some a.Tree.Rounds
def gP (a : aX) (b : Int) (c : Int) : Nat → Int → Option Int
 | 0, _ => none
 | g + 1, h =>
  bif decide (h < c) then ((jF h b).bind fun d =>
  (bif cX d a.won then ((idx a.players b).bind fun e =>
  some (!decide ((cE d 0 a.won) = e))) else (some false)).bind fun f =>
  bif f then (some h)
  else ((gP a b c g) (w64 (h + 1))))
  else (qI a)
def iD (a : aX) (b : Int) : Option Int :=
  gP a b a.Tree.Rounds BIG 0
def yE (a : (Int × Int) → Prop) : Prop :=
  a (0, 3)
def kB (a : (Int × Int) → Prop) (b : Option aX) (c : List Int) (d : Int) : Nat → Int → Prop
 | 0, _ => False
 | n + 1, o =>
  bif decide (o < d) then (nb (idx c 0) fun e =>
  nb (jF o e) fun f =>
  nb (idx c 1) fun g =>
  nb (jF o g) fun h =>
  bif decide (f = h) then (nb (b) fun i =>
  nb (idx c 0) fun j =>
  nb (iD i j) fun k =>
  nb (idx c 1) fun l =>
  nb (iD i l) fun m =>
  bif decide ((min k m) < o) then (a (0, 3))
  else (a (o, 0)))
  else ((kB a b c d n) (w64 (o + 1))))
  else (yE a)
def qY (a : aJ) (b : List aE) (c : Int) (d : Int) (Q : (Int × Int) → Prop) : Prop :=
  mM a b ([c, d]) fun e =>
  bif !decide (e.2.2 = 0) then (Q (0, e.2.2))
  else (bif decide (c = d) then (Q (0, 1))
  else (nb (oZ e.2.1) fun f =>
  bif decide (f < 0) then (Q (0, 3))
  else (nb (e.1) fun g =>
  kB Q e.1 e.2.1 g.Tree.Rounds BIG 0)))
def pH (a : aJ) (b : List aE) (c : Int) (d : Int) (Q : ((Option aX) × aD × Int) → Prop) : Prop :=
  kE a b fun e =>
  nb (bif decide (e.2 = 0) then ((lA (aD.mk c d) a).bind fun f =>
  some (!f)) else (some false)) fun g =>
  bif g then (Q (e.1, (aD.mk c d), 1))
  else (Q (e.1, (aD.mk c d), e.2))
def qS (a : aJ) (b : List aE) : Option Int := gA a b
def rQ (a : aJ) (b : List aE) (c : Int) (d : Int) : Option (Int × Int) := lX a b c d
def slices_Sort_int (x : List Int) : Option (List Int) := if x.length < 4611686018427387904 then some (jH x) else none
def uQ (a : ((List Int) × Int) → Prop) (b : List Int) : Prop :=
  nb (slices_Sort_int b) fun c =>
  a (c, 0)
def iP (a : ((List Int) × Int) → Prop) (b : Int) (c : Option aX) (d : List Int) (e : Int) (f : aD) : Nat → Int → (List Int) → Prop
 | 0, _, _ => False
 | n + 1, o, p =>
  bif decide (o < e) then (nb (idx d o) fun g =>
  nb (c) fun h =>
  nb (bif !decide (g = (-1)) then ((jF b o).bind fun i =>
  some (decide (i = f))) else (some false)) fun j =>
  nb (bif j then ((iD h o).bind fun k =>
  some (decide (b < k))) else (some false)) fun l =>
  bif l then (nb (app 8 p ([g])) fun m =>
  (iP a b c d e f n) (w64 (o + 1)) m)
  else ((iP a b c d e f n) (w64 (o + 1)) p))
  else (uQ a p)
def sG (a : aJ) (b : List aE) (c : Int) (d : Int) (Q : ((List Int) × Int) → Prop) : Prop :=
  pH a b c d fun e =>
  bif !decide (e.2.2 = 0) then (Q (([] : List Int), e.2.2))
  else (nb (e.1) fun f =>
  iP Q c e.1 f.players (f.players.length : Int) e.2.1 BIG 0 ([] : List Int))
def qZ : Option (eS × (List Int)) :=
  some ((eS.mk 2 2 false 2 3 0 4 2 2 false), [0, 0, 0, 0, 1, 1, 1, 1, 0, 0, 0, 0, 0, 0, 0, 0, 1, 1, 1, 1])
def lT (a : Int) (b : Int) (c : Int) : Option Bool :=
  (bif decide (b ≤ a) then (some (decide (a ≤ c))) else (some false)).bind fun d =>
  some d
def sO (a : Int) (b : eS) : Option Bool :=
  (bif decide (a = (-1)) then (some true) else (some (decide (a = 0)))).bind fun c =>
  (bif c then (some true) else (some (decide (a = (w64 (b.Games - 1)))))).bind fun d =>
  (bif d then (some true) else (some (decide (a = b.Games)))).bind fun e =>
  some e
def zJ (a : eS) : Option Int :=
  (lT a.Sets 1 3).bind fun b =>
  (bif b then ((lT a.Games 1 8).bind fun c =>
  some c) else (some false)).bind fun d =>
  (bif d then ((sO a.Tie a).bind fun e =>
  some e) else (some false)).bind fun f =>
  (bif f then ((sO a.LastTie a).bind fun g =>
  some g) else (some false)).bind fun h =>
  (bif h then ((lT a.To 1 15).bind fun i =>
  some i) else (some false)).bind fun j =>
  (bif j then ((lT a.LastTo 1 15).bind fun k =>
  some k) else (some false)).bind fun l =>
  (bif l then ((lT a.First 0 20).bind fun m =>
  some m) else (some false)).bind fun n =>
  (bif n then ((lT a.Then 0 20).bind fun o =>
  some o) else (some false)).bind fun p =>
  bif p then (some 0)
  else (some 10)
def qV (a : gX) (b : bI) : Option gO :=
  (bif decide (b.A = (w64 (a.Format.Sets - 1))) then (some (decide (b.B = (w64 (a.Format.Sets - 1))))) else (some false)).bind fun c =>
  bif c then (some (gO.mk a.Format.LastTie a.Format.LastTo))
  else (some (gO.mk a.Format.Tie a.Format.To))
def tD (a : gO) (b : bI) : Option Bool :=
  (bif decide (b.A = a.tie) then (some (decide (b.B = a.tie))) else (some false)).bind fun c =>
  some c
def lS (a : bK) : Option Int :=
  some (w64 ((a.ties.length : Int) - 1))
def qU (a : gX) (b : Int) : Option Bool :=
  (bif decide (0 < a.Format.First) then ((bif decide ((w64 (b - a.Format.First)) = 0) then (some true) else ((bif decide (0 < (w64 (b - a.Format.First))) then (some (decide (0 < a.Format.Then))) else (some false)).bind fun c =>
  (bif c then ((chk (!decide (a.Format.Then = 0))).bind fun _ =>
  some (decide (((w64 (b - a.Format.First)).tmod a.Format.Then) = 0))) else (some false)).bind fun d =>
  some d)).bind fun e =>
  some e) else (some false)).bind fun f =>
  some f
def oO (a : bK) : Option Bool :=
  (lS a).bind fun b =>
  (idx a.ties b).bind fun c =>
  (bif !c then ((qU a.rules b).bind fun d =>
  some d) else (some false)).bind fun e =>
  (bif e then (some true) else ((bif decide (2 ≤ b) then ((idx a.ties (w64 (b - 2))).bind fun f =>
  some f) else (some false)).bind fun g =>
  (bif g then ((qU a.rules (w64 (b - 2))).bind fun h =>
  some h) else (some false)).bind fun i =>
  some i)).bind fun j =>
  some j
def iM (a : bK) (b : Int) : Option Int :=
  (lS a).bind fun c =>
  (idx a.ties c).bind fun d =>
  bif d then (bif !a.rules.Format.Doubles then (some ((w64 ((w64 (a.first + c)) + (w64 ((w64 (b + 1)).tdiv 2)))).tmod 2))
  else (some (w64 (((w64 ((w64 (a.first + c)) + (w64 ((w64 (b + 1)).tdiv 2)))).tmod 2) + (w64 (2 * ((w64 ((w64 ((w64 (c + ((w64 ((w64 (b + 1)).tdiv 2)).tmod 2))).tdiv 2)) + (w64 ((w64 ((w64 (b + 1)).tdiv 2)).tdiv 2)))).tmod 2)))))))
  else (bif !a.rules.Format.Doubles then (some ((w64 ((w64 (a.first + c)) + 0)).tmod 2))
  else (some (w64 (((w64 ((w64 (a.first + c)) + 0)).tmod 2) + (w64 (2 * ((w64 ((w64 ((w64 (c + ((0 : Int).tmod 2))).tdiv 2)) + (w64 ((0 : Int).tdiv 2)))).tmod 2)))))))
def gD (a : bK) : Option bK :=
  bif decide (0 ≤ a.Score.Winner) then (some (bK.mk a.rules (cM.mk a.Score.Board (-1) a.Score.Ends a.Score.Balls a.Score.Winner) a.first a.won a.ties a.games))
  else ((qV a.rules a.won).bind fun b =>
  (tD b a.Score.Board.Games).bind fun c =>
  (app 1 a.ties ([c])).bind fun d =>
  (oO (bK.mk a.rules a.Score a.first a.won d a.games)).bind fun e =>
  bif e then ((iM (bK.mk a.rules (cM.mk a.Score.Board a.Score.Server a.Score.Ends (w64 (a.Score.Balls + 1)) a.Score.Winner) a.first a.won d a.games) 0).bind fun f =>
  some (bK.mk a.rules (cM.mk a.Score.Board f a.Score.Ends (w64 (a.Score.Balls + 1)) a.Score.Winner) a.first a.won d a.games))
  else ((iM (bK.mk a.rules a.Score a.first a.won d a.games) 0).bind fun g =>
  some (bK.mk a.rules (cM.mk a.Score.Board g a.Score.Ends a.Score.Balls a.Score.Winner) a.first a.won d a.games)))
def zL (a : gX) (b : Int) : Option bK :=
  (gD (bK.mk a (cM.mk (dI.mk ([] : List bI) (bI.mk 0 0) (bI.mk 0 0)) 0 0 0 (-1)) b (bI.mk 0 0) ([] : List Bool) ([] : List nF))).bind fun c =>
  some c
def vW (a : bI) (b : Int) : Option bI :=
  bif decide (b = 0) then (some (bI.mk (w64 (a.A + 1)) a.B))
  else (some (bI.mk a.A (w64 (a.B + 1))))
def tN (a : bI) : Option Int :=
  some (w64 (a.A + a.B))
def qH (a : bI) (b : Int) (c : Int) : Option Int :=
  (bif decide (b ≤ a.A) then (some (decide (c ≤ (w64 (a.A - a.B))))) else (some false)).bind fun d =>
  bif d then (some 0)
  else ((bif decide (b ≤ a.B) then (some (decide (c ≤ (w64 (a.B - a.A))))) else (some false)).bind fun e =>
  bif e then (some 1)
  else (some (-1)))
def tC (a : gX) (b : gO) (c : Bool) (d : bI) : Option Int :=
  bif c then ((qH d b.to 2).bind fun e =>
  some e)
  else (bif a.Format.NoAd then ((qH d 4 1).bind fun f =>
  some f)
  else ((qH d 4 2).bind fun g =>
  some g))
def sB (a : bK) (b : Int) : Option bK :=
  (qV a.rules a.won).bind fun c =>
  (lS a).bind fun d =>
  (idx a.ties d).bind fun e =>
  (vW a.Score.Board.Points b).bind fun f =>
  (tN f).bind fun g =>
  (tC a.rules c e f).bind fun h =>
  bif decide (h < 0) then ((bif e then (some (decide ((g.tmod 6) = 0))) else (some false)).bind fun i =>
  bif i then ((iM (bK.mk a.rules (cM.mk (dI.mk a.Score.Board.Sets a.Score.Board.Games f) a.Score.Server (w64 (a.Score.Ends + 1)) a.Score.Balls a.Score.Winner) a.first a.won a.ties a.games) g).bind fun j =>
  some (bK.mk a.rules (cM.mk (dI.mk a.Score.Board.Sets a.Score.Board.Games f) j (w64 (a.Score.Ends + 1)) a.Score.Balls a.Score.Winner) a.first a.won a.ties a.games))
  else ((iM (bK.mk a.rules (cM.mk (dI.mk a.Score.Board.Sets a.Score.Board.Games f) a.Score.Server a.Score.Ends a.Score.Balls a.Score.Winner) a.first a.won a.ties a.games) g).bind fun k =>
  some (bK.mk a.rules (cM.mk (dI.mk a.Score.Board.Sets a.Score.Board.Games f) k a.Score.Ends a.Score.Balls a.Score.Winner) a.first a.won a.ties a.games)))
  else ((iM (bK.mk a.rules (cM.mk (dI.mk a.Score.Board.Sets a.Score.Board.Games f) a.Score.Server a.Score.Ends a.Score.Balls a.Score.Winner) a.first a.won a.ties a.games) 0).bind fun l =>
  (oO (bK.mk a.rules (cM.mk (dI.mk a.Score.Board.Sets a.Score.Board.Games f) a.Score.Server a.Score.Ends a.Score.Balls a.Score.Winner) a.first a.won a.ties a.games)).bind fun m =>
  (app 56 a.games ([(nF.mk (a.Score.Board.Sets.length : Int) e l h f m)])).bind fun n =>
  (vW a.Score.Board.Games h).bind fun o =>
  (bif e then (some true) else ((qH o a.rules.Format.Games 2).bind fun p =>
  some (decide (0 ≤ p)))).bind fun q =>
  bif q then ((app 16 a.Score.Board.Sets ([o])).bind fun r =>
  (vW a.won h).bind fun s =>
  bif decide ((max s.A s.B) = a.rules.Format.Sets) then ((tN o).bind fun t =>
  (bif decide ((t.tmod 2) = 1) then (some (decide (h < 0))) else (some false)).bind fun u =>
  bif u then ((gD (bK.mk a.rules (cM.mk (dI.mk r (bI.mk 0 0) (bI.mk 0 0)) a.Score.Server (w64 (a.Score.Ends + 1)) a.Score.Balls h) a.first s a.ties n)).bind fun v =>
  some v)
  else ((gD (bK.mk a.rules (cM.mk (dI.mk r (bI.mk 0 0) (bI.mk 0 0)) a.Score.Server a.Score.Ends a.Score.Balls h) a.first s a.ties n)).bind fun w =>
  some w))
  else ((tN o).bind fun x =>
  (bif decide ((x.tmod 2) = 1) then (some (decide (a.Score.Winner < 0))) else (some false)).bind fun y =>
  bif y then ((gD (bK.mk a.rules (cM.mk (dI.mk r (bI.mk 0 0) (bI.mk 0 0)) a.Score.Server (w64 (a.Score.Ends + 1)) a.Score.Balls a.Score.Winner) a.first s a.ties n)).bind fun z =>
  some z)
  else ((gD (bK.mk a.rules (cM.mk (dI.mk r (bI.mk 0 0) (bI.mk 0 0)) a.Score.Server a.Score.Ends a.Score.Balls a.Score.Winner) a.first s a.ties n)).bind fun a0 =>
  some a0)))
  else ((tN o).bind fun a1 =>
  (bif decide ((a1.tmod 2) = 1) then (some (decide (a.Score.Winner < 0))) else (some false)).bind fun a2 =>
  bif a2 then ((gD (bK.mk a.rules (cM.mk (dI.mk a.Score.Board.Sets o (bI.mk 0 0)) a.Score.Server (w64 (a.Score.Ends + 1)) a.Score.Balls a.Score.Winner) a.first a.won a.ties n)).bind fun a3 =>
  some a3)
  else ((gD (bK.mk a.rules (cM.mk (dI.mk a.Score.Board.Sets o (bI.mk 0 0)) a.Score.Server a.Score.Ends a.Score.Balls a.Score.Winner) a.first a.won a.ties n)).bind fun a4 =>
  some a4)))
def aBx (a : List bI) (b : List Bool) (c : List nF) (d : gX) (e : bI) (f : bI) (g : Int) (h : Int) (i : Int) (j : Int) (k : Int) (l : bI) : Option ((Option bK) × Int) :=
  some ((some (bK.mk d (cM.mk (dI.mk a e f) g h i j) k l b c)), 0)
def sQ (a : List Int) (b : Int) : Nat → Int → (List bI) → (List Bool) → (List nF) → gX → bI → bI → Int → Int → Int → Int → Int → bI → Option ((Option bK) × Int)
 | 0, _, _, _, _, _, _, _, _, _, _, _, _, _ => none
 | g + 1, h, i, j, k, l, m, n, o, p, q, r, s, t =>
  bif decide (h < b) then ((idx a h).bind fun c =>
  (bif !decide (c = 0) then (some (!decide (c = 1))) else (some false)).bind fun d =>
  (bif d then (some true) else (some (decide (0 ≤ r)))).bind fun e =>
  bif e then (some ((none : Option bK), 11))
  else ((sB (bK.mk l (cM.mk (dI.mk i m n) o p q r) s t j k) c).bind fun f =>
  (sQ a b g) (w64 (h + 1)) f.Score.Board.Sets f.ties f.games f.rules f.Score.Board.Games f.Score.Board.Points f.Score.Server f.Score.Ends f.Score.Balls f.Score.Winner f.first f.won))
  else (aBx i j k l m n o p q r s t)
def aBm (a : eS) (b : Int) (c : List Int) : Option ((Option bK) × Int) :=
  (zJ a).bind fun d =>
  bif !decide (d = 0) then (some ((none : Option bK), d))
  else ((bif !decide (b = 0) then (some (!decide (b = 1))) else (some false)).bind fun e =>
  bif e then (some ((none : Option bK), 1))
  else (bif decide (600 < (c.length : Int)) then (some ((none : Option bK), 2))
  else ((zL (gX.mk a) b).bind fun f =>
  sQ c (c.length : Int) BIG 0 f.Score.Board.Sets f.ties f.games f.rules f.Score.Board.Games f.Score.Board.Points f.Score.Server f.Score.Ends f.Score.Balls f.Score.Winner f.first f.won)))
def aBl (a : eS) (b : Int) (c : List Int) : Option (cM × Int) :=
  (aBm a b c).bind fun d =>
  bif !decide (d.2 = 0) then (some ((cM.mk (dI.mk ([] : List bI) (bI.mk 0 0) (bI.mk 0 0)) 0 0 0 0), d.2))
  else ((d.1).bind fun e =>
  some (e.Score, 0))
def wA (a : aJ) (b : List aE) (c : Int) (d : Int) : Option ((List Int) × Int) := jO a b c d
def eX : Option Bool :=
  (nN).bind fun a =>
  (lI a.1).bind fun b =>
  (rA).bind fun c =>
  (wA c.1 c.2 2 0).bind fun d =>
  (qZ).bind fun e =>
  (aBl e.1 0 e.2).bind fun f =>
  (bif decide (b.2 = 0) then (some (decide (d.2 = 0))) else (some false)).bind fun g =>
  (bif g then (some (decide (f.2 = 0))) else (some false)).bind fun h =>
  (bif h then (some (decide ((b.1.length : Int) = 4))) else (some false)).bind fun i =>
  (bif i then ((idx b.1 0).bind fun j =>
  some (decide (j = 10))) else (some false)).bind fun k =>
  (bif k then (some (decide ((d.1.length : Int) = 4))) else (some false)).bind fun l =>
  (bif l then (some (decide (f.1.Balls = 2))) else (some false)).bind fun m =>
  some m
def nW (a : aR) : Option Int :=
  bif decide (a.Size = 4) then (some 2)
  else (some 3)
def qJ (a : aX) : Option Int :=
  some a.Tree.Rounds
def gQ (a : aX) (b : Int) (c : Int) : Nat → Int → Option Int
 | 0, _ => none
 | g + 1, h =>
  bif decide (h < c) then ((jF h b).bind fun d =>
  (bif !(cX d a.won) then (some true) else ((idx a.players b).bind fun e =>
  some (!decide ((cE d 0 a.won) = e)))).bind fun f =>
  bif f then (some h)
  else ((gQ a b c g) (w64 (h + 1))))
  else (qJ a)
def mS (a : aX) (b : Int) : Option Int :=
  gQ a b a.Tree.Rounds BIG 0
def nL (a : aJ) (b : List aE) (c : Int) (Q : (dK × Int) → Prop) : Prop :=
  mM a b ([c]) fun d =>
  bif !decide (d.2.2 = 0) then (Q ((dK.mk 0 0), d.2.2))
  else (nb (idx d.2.1 0) fun e =>
  bif decide (e < 0) then (Q ((dK.mk 0 0), 3))
  else (nb (d.1) fun f =>
  nb (idx d.2.1 0) fun g =>
  nb (mS f g) fun h =>
  nb (idx d.2.1 0) fun i =>
  nb (iD f i) fun j =>
  Q ((dK.mk h j), 0)))
def oI (a : aJ) (b : List aE) (c : Int) : Option (dK × Int) := jQ a b c
def pR (a : Int → Option Bool) (_ : Int) (b : Int) (_ : aR) (_ : aJ) : Option Bool :=
  a (w64 (b + 1))
def pS (a : Int → Option Bool) (b : Int) (c : Int) (d : aR) (e : aJ) : Option Bool :=
  pR a b c d e
def eW (a : Int → Option Bool) (b : Int) (c : Int) (d : aR) (e : aJ) (f : aS) : Nat → Int → Option Bool
 | 0, _ => none
 | s + 1, t =>
  bif decide (t < c) then ((idx d.Persons t).bind fun g =>
  (rQ e ([] : List aE) f.Player g.Player).bind fun h =>
  (bif !decide (h.2 = 0) then (some true) else ((bif decide (h.1 = 0) then ((bif decide (f.Nation = g.Nation) then (some (!decide (f.Nation = 0))) else (some false)).bind fun i =>
  (bif i then (some true) else ((bif f.Qualified then (some g.Qualified) else (some false)).bind fun j =>
  some j)).bind fun k =>
  some k) else (some false)).bind fun l =>
  some l)).bind fun m =>
  (bif m then (some true) else ((bif decide (c = 1) then (some (decide (1 < d.Seeds))) else (some false)).bind fun n =>
  (bif n then (some (!decide (h.1 = (w64 (e.Rounds - 1))))) else (some false)).bind fun o =>
  some o)).bind fun p =>
  (bif p then (some true) else ((bif decide (c < d.Seeds) then (some (decide (h.1 < (w64 (e.Rounds - 2))))) else (some false)).bind fun q =>
  some q)).bind fun r =>
  bif r then (some false)
  else ((eW a b c d e f s) (w64 (t + 1))))
  else (pS a b c d e)
def pQ : Option Bool :=
  (eX).bind fun a =>
  some a
def dA (a : Int) (b : aR) (c : aJ) : Nat → Int → Option Bool
 | 0, _ => none
 | i + 1, j =>
  bif decide (j < (b.Persons.length : Int)) then ((idx b.Persons j).bind fun d =>
  (oI c ([] : List aE) d.Player).bind fun e =>
  (bif !decide (e.2 = 0) then (some true) else (some (!decide (e.1.High = c.Rounds)))).bind fun f =>
  (bif f then (some true) else ((bif decide (j < b.Seeds) then (some (!decide ((decide (e.1.Low = 1)) = (decide (j < a))))) else (some false)).bind fun g =>
  some g)).bind fun h =>
  bif h then (some false)
  else (eW (dA a b c i) a j b c d BIG 0))
  else (pQ)
def oK (a : aR) : Option Bool :=
  (oU a).bind fun b =>
  (bif b then (some true) else ((lC a).bind fun c =>
  some (!decide (c = 0)))).bind fun d =>
  bif d then ((eX).bind fun e =>
  some e)
  else ((lI a).bind fun f =>
  bif !decide (f.2 = 0) then ((bif decide (f.2 = 3) then ((eX).bind fun g =>
  some g) else (some false)).bind fun h =>
  some h)
  else ((nW a).bind fun i =>
  (qS (aJ.mk i f.1) ([] : List aE)).bind fun j =>
  (bif !decide (j = 0) then (some true) else ((gK (aJ.mk i f.1)).bind fun k =>
  some (!k))).bind fun l =>
  bif l then (some false)
  else (dA (w64 (a.Size - (a.Persons.length : Int))) a (aJ.mk i f.1) BIG 0)))
end Go.Am
