/- Shallow functions, printed by program. -/
import Derived.Test.YtiohgpipanopaaaGreatTaSh
import Derived.Test.YtiohgpipanopaaaGreatAmNd
import Derived.Test.YtiohgpipanopaaaGreatAmSort
import Derived.Test.YtiohgpipanopaaaGreatAmBox
import Derived.Test.YtiohgpipanopaaaGreatAmSortF0
namespace Go.Am
structure bC where
 Player : Int
 Nation : Int
 Qualified : Bool
 deriving DecidableEq, Inhabited
def aY (x : bC) : List D := [.lit (.int .i64 x.Player), .lit (.int .i64 x.Nation), .lit (.bool x.Qualified)]
structure bQ where
 Size : Int
 Seeds : Int
 Persons : List bC
 Lots : List Int
 deriving DecidableEq, Inhabited
def bI (x : bQ) : List D := [.lit (.int .i64 x.Size), .lit (.int .i64 x.Seeds), .sl 3 (x.Persons.map aY), .sl 1 (x.Lots.map aL)]
structure aD where
 round : Int
 place : Int
 deriving DecidableEq, Inhabited
def aK (x : aD) : List D := [.lit (.int .i64 x.round), .lit (.int .i64 x.place)]
structure bA where
 Tree : aN
 players : List Int
 won : List (aD × Int)
 deriving DecidableEq, Inhabited
def aW (x : bA) : List D := [.lit (.int .i64 x.Tree.Rounds), .sl 1 (x.Tree.Slots.map aL), .sl 1 (x.players.map aL), .mp false (x.won.map fun p : aD × Int => ((fun a : aD => Value.agg ((aK a).map bJ).toArray) p.1, aL p.2))]
structure A3 (α : Type) where
 x0 : α
 x1 : α
 x2 : α
 deriving DecidableEq, Inhabited
def A3.at {α : Type} (a : A3 α) (p : Int) : α := if p = 0 then a.x0 else if p = 1 then a.x1 else a.x2
def A3.set {α : Type} (a : A3 α) (p : Int) (v : α) : A3 α := if p = 0 then { a with x0 := v } else if p = 1 then { a with x1 := v } else { a with x2 := v }
structure A6 (α : Type) where
 x0 : α
 x1 : α
 x2 : α
 x3 : α
 x4 : α
 x5 : α
 deriving DecidableEq, Inhabited
def A6.at {α : Type} (a : A6 α) (p : Int) : α := if p = 0 then a.x0 else if p = 1 then a.x1 else if p = 2 then a.x2 else if p = 3 then a.x3 else if p = 4 then a.x4 else a.x5
def A6.set {α : Type} (a : A6 α) (p : Int) (v : α) : A6 α := if p = 0 then { a with x0 := v } else if p = 1 then { a with x1 := v } else if p = 2 then { a with x2 := v } else if p = 3 then { a with x3 := v } else if p = 4 then { a with x4 := v } else { a with x5 := v }
structure bH where
 Sets : Int
 Games : Int
 NoAd : Bool
 Tie : Int
 To : Int
 LastTie : Int
 LastTo : Int
 First : Int
 Then : Int
 Doubles : Bool
 deriving DecidableEq, Inhabited
def aO (x : bH) : List D := [.lit (.int .i64 x.Sets), .lit (.int .i64 x.Games), .lit (.bool x.NoAd), .lit (.int .i64 x.Tie), .lit (.int .i64 x.To), .lit (.int .i64 x.LastTie), .lit (.int .i64 x.LastTo), .lit (.int .i64 x.First), .lit (.int .i64 x.Then), .lit (.bool x.Doubles)]
structure gP where
 Format : bH
 deriving DecidableEq, Inhabited
def dM (x : gP) : List D := [.lit (.int .i64 x.Format.Sets), .lit (.int .i64 x.Format.Games), .lit (.bool x.Format.NoAd), .lit (.int .i64 x.Format.Tie), .lit (.int .i64 x.Format.To), .lit (.int .i64 x.Format.LastTie), .lit (.int .i64 x.Format.LastTo), .lit (.int .i64 x.Format.First), .lit (.int .i64 x.Format.Then), .lit (.bool x.Format.Doubles)]
structure aI where
 A : Int
 B : Int
 deriving DecidableEq, Inhabited
def aG (x : aI) : List D := [.lit (.int .i64 x.A), .lit (.int .i64 x.B)]
structure iC where
 tie : Int
 to : Int
 deriving DecidableEq, Inhabited
def cP (x : iC) : List D := [.lit (.int .i64 x.tie), .lit (.int .i64 x.to)]
structure aQ where
 Sets : List aI
 Games : aI
 Points : aI
 deriving DecidableEq, Inhabited
def tT (x : aQ) : List D := [.sl 2 (x.Sets.map aG), .lit (.int .i64 x.Games.A), .lit (.int .i64 x.Games.B), .lit (.int .i64 x.Points.A), .lit (.int .i64 x.Points.B)]
structure aP where
 Board : aQ
 Server : Int
 Ends : Int
 Balls : Int
 Winner : Int
 deriving DecidableEq, Inhabited
def eR (x : aP) : List D := [.sl 2 (x.Board.Sets.map aG), .lit (.int .i64 x.Board.Games.A), .lit (.int .i64 x.Board.Games.B), .lit (.int .i64 x.Board.Points.A), .lit (.int .i64 x.Board.Points.B), .lit (.int .i64 x.Server), .lit (.int .i64 x.Ends), .lit (.int .i64 x.Balls), .lit (.int .i64 x.Winner)]
structure bO where
 Set : Int
 Tie : Bool
 Server : Int
 Winner : Int
 Points : aI
 Fresh : Bool
 deriving DecidableEq, Inhabited
def aU (x : bO) : List D := [.lit (.int .i64 x.Set), .lit (.bool x.Tie), .lit (.int .i64 x.Server), .lit (.int .i64 x.Winner), .lit (.int .i64 x.Points.A), .lit (.int .i64 x.Points.B), .lit (.bool x.Fresh)]
structure bK where
 rules : gP
 Score : aP
 first : Int
 won : aI
 ties : List Bool
 games : List bO
 deriving DecidableEq, Inhabited
def fE (x : bK) : List D := [.lit (.int .i64 x.rules.Format.Sets), .lit (.int .i64 x.rules.Format.Games), .lit (.bool x.rules.Format.NoAd), .lit (.int .i64 x.rules.Format.Tie), .lit (.int .i64 x.rules.Format.To), .lit (.int .i64 x.rules.Format.LastTie), .lit (.int .i64 x.rules.Format.LastTo), .lit (.int .i64 x.rules.Format.First), .lit (.int .i64 x.rules.Format.Then), .lit (.bool x.rules.Format.Doubles), .sl 2 (x.Score.Board.Sets.map aG), .lit (.int .i64 x.Score.Board.Games.A), .lit (.int .i64 x.Score.Board.Games.B), .lit (.int .i64 x.Score.Board.Points.A), .lit (.int .i64 x.Score.Board.Points.B), .lit (.int .i64 x.Score.Server), .lit (.int .i64 x.Score.Ends), .lit (.int .i64 x.Score.Balls), .lit (.int .i64 x.Score.Winner), .lit (.int .i64 x.first), .lit (.int .i64 x.won.A), .lit (.int .i64 x.won.B), .sl 1 (x.ties.map dC), .sl 7 (x.games.map aU)]
structure aJ where
 Score : aP
 First : Int
 Games : List bO
 Fresh : Bool
 deriving DecidableEq, Inhabited
def aE (x : aJ) : List D := [.sl 2 (x.Score.Board.Sets.map aG), .lit (.int .i64 x.Score.Board.Games.A), .lit (.int .i64 x.Score.Board.Games.B), .lit (.int .i64 x.Score.Board.Points.A), .lit (.int .i64 x.Score.Board.Points.B), .lit (.int .i64 x.Score.Server), .lit (.int .i64 x.Score.Ends), .lit (.int .i64 x.Score.Balls), .lit (.int .i64 x.Score.Winner), .lit (.int .i64 x.First), .sl 7 (x.Games.map aU), .lit (.bool x.Fresh)]
structure dF where
 First : List Int
 Points : List (List Int)
 deriving DecidableEq, Inhabited
def eJ (x : dF) : List D := [.sl 1 (x.First.map aL), .sl 1 (x.Points.map uP)]
def aGs (x : bH) : Prop := okI x.Sets ∧ okI x.Games ∧ okB x.NoAd ∧ okI x.Tie ∧ okI x.To ∧ okI x.LastTie ∧ okI x.LastTo ∧ okI x.First ∧ okI x.Then ∧ okB x.Doubles
def xS (x : dF) : Prop := (okL okI) x.First ∧ (okL (okL okI)) x.Points
def oQ : Option (bQ × bQ) :=
  some ((bQ.mk 4 1 ([(bC.mk 10 1 false), (bC.mk 20 2 false), (bC.mk 30 1 false)]) ([5, 4])), (bQ.mk 4 0 ([(bC.mk 1 1 false), (bC.mk 2 1 false), (bC.mk 3 2 false), (bC.mk 4 0 false)]) ([] : List Int)))
def nR (a : Int) (b : Int) (c : Int) : Option Bool :=
  (bif decide (b ≤ a) then (some (decide (a ≤ c))) else (some false)).bind fun d =>
  some d
def pB : Option Int :=
  some (-1)
def iI (a : List bC) (b : bC → Option Bool) (c : Int) : Nat → Int → Option Int
 | 0, _ => none
 | f + 1, g =>
  bif decide (g < c) then ((idx a g).bind fun d =>
  (b d).bind fun e =>
  bif e then (some g)
  else ((iI a b c f) (w64 (g + 1))))
  else (pB)
def mH (a : List bC) (b : bC → Option Bool) : Option Int :=
  iI a b (a.length : Int) BIG 0
def kU (a : List bC) (b : bC → Option Bool) : Option Bool :=
  (mH a b).bind fun c =>
  some (decide (0 ≤ c))
def xN (a : bC) (b : bC) : Option Bool :=
  some (decide (a.Player = b.Player))
def tH : Option Int :=
  some (-1)
def lI (a : List Int) (b : Int → Option Bool) (c : Int) : Nat → Int → Option Int
 | 0, _ => none
 | f + 1, g =>
  bif decide (g < c) then ((idx a g).bind fun d =>
  (b d).bind fun e =>
  bif e then (some g)
  else ((lI a b c f) (w64 (g + 1))))
  else (tH)
def qZ (a : List Int) (b : Int → Option Bool) : Option Int :=
  lI a b (a.length : Int) BIG 0
def oF (a : List Int) (b : Int → Option Bool) : Option Bool :=
  (qZ a b).bind fun c =>
  some (decide (0 ≤ c))
def xO (a : Int) : Option Bool :=
  (nR a 0 999999).bind fun b =>
  some (!b)
def aBg (a : bQ) : Option Int :=
  (oF a.Lots (fun b => xO b)).bind fun c =>
  bif c then (some 60)
  else (some 0)
def sZ (a : List bC) (b : Int) (c : bQ) : Nat → Int → Option Int
 | 0, _ => none
 | n + 1, o =>
  bif decide (o < b) then ((idx a o).bind fun d =>
  (sub c.Persons 0 o).bind fun e =>
  (kU e (fun f => xN f d)).bind fun g =>
  (bif g then (some true) else ((nR d.Player 0 999).bind fun h =>
  some (!h))).bind fun i =>
  (bif i then (some true) else ((nR d.Nation 0 9).bind fun j =>
  some (!j))).bind fun k =>
  (bif k then (some true) else ((bif decide (o < c.Seeds) then (some d.Qualified) else (some false)).bind fun l =>
  some l)).bind fun m =>
  bif m then (some 60)
  else ((sZ a b c n) (w64 (o + 1))))
  else (aBg c)
def aAs (a : bQ) : Option Int :=
  (bif !decide (a.Size = 4) then (some (!decide (a.Size = 8))) else (some false)).bind fun b =>
  (bif b then (some true) else ((nR (a.Persons.length : Int) 2 a.Size).bind fun c =>
  some (!c))).bind fun d =>
  (bif d then (some true) else (some (decide ((w64 (a.Size.tdiv 2)) < (w64 (a.Size - (a.Persons.length : Int))))))).bind fun e =>
  (bif e then (some true) else ((nR a.Seeds 0 (min (w64 (a.Size.tdiv 2)) (a.Persons.length : Int))).bind fun f =>
  some (!f))).bind fun g =>
  (bif g then (some true) else (some (decide (10 < (a.Lots.length : Int))))).bind fun h =>
  bif h then (some 60)
  else (sZ a.Persons (a.Persons.length : Int) a BIG 0)
def rV (x : List Int) (a : Int → Int → Option Int) : Option (List Int) := aMf x a
def oI (a : Int) (b : Int) (c : bQ) : Option Int :=
  (idx c.Persons a).bind fun d =>
  (idx c.Persons b).bind fun e =>
  some (w64 (d.Player - e.Player))
def tB (a : bQ) (b : List Int) : Option (List Int) :=
  (rV b (fun c d => oI c d a)).bind fun e =>
  (app 8 ([(-1)]) e).bind fun f =>
  some f
def tC (a : Int) (b : bQ) : Nat → Int → (List Int) → Option (List Int)
 | 0, _, _ => none
 | d + 1, e, f =>
  bif decide (e < a) then ((app 8 f ([e])).bind fun c =>
  (tC a b d) (w64 (e + 1)) c)
  else (tB b f)
def pD (a : bQ) : Option (List Int) :=
  tC (a.Persons.length : Int) a BIG 0 ([] : List Int)
def jU (a : List Int) : Option ((List Int)) :=
  (app 8 ([] : List Int) a).bind fun b =>
  some b
def rU : Option Int :=
  some (-1)
def iF (a : List Int) (b : Int) (c : Int) : Nat → Int → Option Int
 | 0, _ => none
 | e + 1, f =>
  bif decide (f < c) then ((idx a f).bind fun d =>
  bif decide (b = d) then (some f)
  else ((iF a b c e) (w64 (f + 1))))
  else (rU)
def fZ (a : List Int) (b : Int) : Option Int :=
  iF a b (a.length : Int) BIG 0
def fJ (a : List Int) (b : Int) : Option Bool :=
  (fZ a b).bind fun c =>
  some (decide (0 ≤ c))
def aCa (a : bQ) (b : Int) (c : Int) : Option Bool :=
  (bif decide (b = 0) then (some (decide (0 < a.Seeds))) else (some false)).bind fun d =>
  bif d then (some (decide (c = 0)))
  else ((bif decide (b = (w64 (a.Size - 1))) then (some (decide (1 < a.Seeds))) else (some false)).bind fun e =>
  bif e then (some (decide (c = 1)))
  else ((bif decide (c = (-1)) then (some true) else (some (decide (a.Seeds ≤ c)))).bind fun f =>
  bif f then (some true)
  else ((bif decide (1 < c) then ((fJ ([w64 (a.Size.tdiv 4), w64 ((w64 (a.Size - 1)) - (w64 (a.Size.tdiv 4)))]) b).bind fun g =>
  some g) else (some false)).bind fun h =>
  some h)))
def aAt (a : bQ) (b : Int) (c : Int) : Option Bool :=
  (bif decide (b = (-1)) then (some true) else (some (decide (c = (-1))))).bind fun d =>
  bif d then (some (!decide (b = c)))
  else ((idx a.Persons b).bind fun e =>
  (idx a.Persons c).bind fun f =>
  (bif !decide (e.Nation = f.Nation) then (some true) else (some (decide (e.Nation = 0)))).bind fun g =>
  (bif g then ((bif e.Qualified then (some f.Qualified) else (some false)).bind fun h =>
  some (!h)) else (some false)).bind fun i =>
  some i)
def uB (a : Int) (b : Int) (c : bQ) (d : Int) : Option Bool :=
  (bif decide (a = (-1)) then (some true) else (some (decide (c.Seeds ≤ a)))).bind fun e =>
  (bif e then (some true) else (some (decide ((decide (b = (-1))) = (decide (a < d)))))).bind fun f =>
  some f
def aAu (a : bQ) (b : Int) (c : Int) : Option Bool :=
  (bif decide ((w64 (a.Size - (a.Persons.length : Int))) ≤ a.Seeds) then ((bif decide (b = (-1)) then (some (decide (a.Seeds ≤ c))) else (some false)).bind fun d =>
  (bif d then (some true) else ((bif decide (c = (-1)) then (some (decide (a.Seeds ≤ b))) else (some false)).bind fun e =>
  some e)).bind fun f =>
  some f) else (some false)).bind fun g =>
  bif g then (some false)
  else ((aAt a b c).bind fun h =>
  (bif h then ((uB b c a (w64 (a.Size - (a.Persons.length : Int)))).bind fun i =>
  some i) else (some false)).bind fun j =>
  (bif j then ((uB c b a (w64 (a.Size - (a.Persons.length : Int)))).bind fun k =>
  some k) else (some false)).bind fun l =>
  some l)
def xA {S : Type} (_ : S → (List Int) → Option (S × Bool)) (_ : (List Int) → Int → bQ → (List Int) → S → Option (S × Bool)) (_ : List Int) (a : S) (_ : bQ) (_ : List Int) : Option (S × Bool) :=
  some (a, true)
def mC {S : Type} (a : S → (List Int) → Option (S × Bool)) (b : (List Int) → Int → bQ → (List Int) → S → Option (S × Bool)) (c : Int) (d : bQ) (e : Int) (f : List Int) (g : Int) (h : List Int) (i : bQ) (j : List Int) : Nat → Int → S → Option (S × Bool)
 | 0, _, _ => none
 | x + 1, y, z =>
  bif decide (y < g) then ((idx f y).bind fun k =>
  (bif decide (k = (-1)) then (some (w64 (c - 1)))
  else (some c)).bind fun l =>
  (bif decide (l < 0) then (some true) else ((bif !decide (k = (-1)) then ((fJ h k).bind fun m =>
  some m) else (some false)).bind fun n =>
  some n)).bind fun o =>
  (bif o then (some true) else ((aCa d e k).bind fun p =>
  some (!p))).bind fun q =>
  (bif q then (some true) else ((bif decide ((e.tmod 2) = 1) then ((idx h (w64 (e - 1))).bind fun r =>
  (aAu d r k).bind fun s =>
  some (!s)) else (some false)).bind fun t =>
  some t)).bind fun u =>
  bif u then ((mC a b c d e f g h i j x) (w64 (y + 1)) z)
  else ((aKj i.Size h ([k])).bind fun v =>
  (b v l i j z).bind fun w =>
  bif !w.2 then (some (w.1, false))
  else ((mC a b c d e f g h i j x) (w64 (y + 1)) w.1)))
  else (xA a b h z i j)
def mZ {S : Type} (a : S → (List Int) → Option (S × Bool)) : Nat → (List Int) → Int → bQ → (List Int) → S → Option (S × Bool)
 | 0, _, _, _, _, _ => none
 | d + 1, e, f, g, h, i =>
  bif decide ((e.length : Int) = g.Size) then ((jU e).bind fun b =>
  (a i b).bind fun c =>
  some c)
  else (mC a (mZ a d) f g (e.length : Int) h (h.length : Int) e g h BIG 0 i)
def zY {S : Type} (a : S → (List Int) → Option (S × Bool)) : (List Int) → Int → bQ → (List Int) → S → Option (S × Bool) := mZ a BIG
def uA {S : Type} (a : S → (List Int) → Option (S × Bool)) (b : bQ) (c : List Int) (d : S) : Option (S × Bool) :=
  (mk0 8 b.Size).bind fun _ =>
  (zY a ([] : List Int) (w64 (b.Size - (b.Persons.length : Int))) b c d).bind fun e =>
  some e
def tS (a : bQ) : Option (Int × Int) :=
  (aAs a).bind fun b =>
  bif !decide (b = 0) then (some (0, b))
  else ((pD a).bind fun c =>
  (uA (S := Int) (fun d _ =>
  some ((w64 (d + 1)), true)) a c 0).bind fun e =>
  bif e.2 then (some (e.1, 0))
  else (none))
def aBh (a : List Int) : Option ((List Int)) :=
  some a
def pS (a : List Int) (b : Int) (c : bQ) : Nat → Int → (List Int) → Option ((List Int))
 | 0, _, _ => none
 | h + 1, i, j =>
  bif decide (i < b) then ((idx a i).bind fun d =>
  bif decide (d = (-1)) then ((app 8 j ([(-1)])).bind fun e =>
  (pS a b c h) (w64 (i + 1)) e)
  else ((idx c.Persons d).bind fun f =>
  (app 8 j ([f.Player])).bind fun g =>
  (pS a b c h) (w64 (i + 1)) g))
  else (aBh j)
def aAv (a : bQ) (b : List Int) : Option ((List Int)) :=
  pS b (b.length : Int) a BIG 0 ([] : List Int)
def vD (a : bQ) (b : Int) : Option ((List Int) × Bool) :=
  (pD a).bind fun c =>
  (uA (S := Int × (List Int) × Bool) (fun d e =>
  bif decide (d.1 = 0) then ((aAv a e).bind fun f =>
  some ((d.1, f, true), false))
  else (some ((w64 (d.1 - 1), d.2.1, d.2.2), true))) a c (b, ([] : List Int), false)).bind fun g =>
  bif g.2 then (some (([] : List Int), false))
  else (some (g.1.2.1, g.1.2.2))
def tZ (a : Int) (b : Int) (c : bQ) : Option ((List Int) × Int) :=
  (chk (!decide (a = 0))).bind fun _ =>
  (vD c (b.tmod a)).bind fun d =>
  some (d.1, 0)
def oH (a : Int) (b : List Int) (c : Int) (d : bQ) : Nat → Int → Int → Option ((List Int) × Int)
 | 0, _, _ => none
 | f + 1, g, h =>
  bif decide (h < c) then ((idx b h).bind fun e =>
  (oH a b c d f) (w64 (g + e)) (w64 (h + 1)))
  else (tZ a g d)
def tA (a : bQ) : Option ((List Int) × Int) :=
  (tS a).bind fun b =>
  bif !decide (b.2 = 0) then (some (([] : List Int), b.2))
  else (bif decide (b.1 = 0) then (some (([] : List Int), 3))
  else (oH b.1 a.Lots (a.Lots.length : Int) a BIG 0 0))
def sG : Option (aN × (List aF)) :=
  some ((aN.mk 3 ([1, (-1), 2, 3, 4, 5, 6, 7])), [(aF.mk 1 1 0 2 0), (aF.mk 3 0 3 7 0), (aF.mk 5 0 4 8 4)])
def fC (a : Int) (b : Int) (c : Int) : Option Bool :=
  (bif decide (b ≤ a) then (some (decide (a ≤ c))) else (some false)).bind fun d =>
  some d
def tI : Option Bool :=
  some true
def gZ (a : List Int) (b : Int) (c : aN) : Nat → Int → (List (Int × Int)) → Option Bool
 | 0, _, _ => none
 | h + 1, i, j =>
  bif decide (i < b) then ((idx a i).bind fun d =>
  bif decide (d = (-1)) then ((idx c.Slots (aMp i 1)).bind fun e =>
  bif decide (e = (-1)) then (some false)
  else ((gZ a b c h) (w64 (i + 1)) j))
  else ((bif decide (1 < (cK d 0 (fO d (w64 ((cK d 0 j) + 1)) j))) then (some true) else ((fC d 0 999).bind fun f =>
  some (!f))).bind fun g =>
  bif g then (some false)
  else ((gZ a b c h) (w64 (i + 1)) (fO d (w64 ((cK d 0 j) + 1)) j))))
  else (tI)
def nI (a : aN) : Option Bool :=
  (fC a.Rounds 1 5).bind fun b =>
  (bif !b then (some true) else ((chk (decide (0 ≤ a.Rounds))).bind fun _ =>
  some (!decide ((a.Slots.length : Int) = (w64 (1 * 2 ^ (min a.Rounds.toNat 64))))))).bind fun c =>
  bif c then (some false)
  else (gZ a.Slots (a.Slots.length : Int) a BIG 0 ([] : List (Int × Int)))
def lT : Option Int :=
  some (-1)
def eN (a : List aF) (b : aF → Option Bool) (c : Int) : Nat → Int → Option Int
 | 0, _ => none
 | f + 1, g =>
  bif decide (g < c) then ((idx a g).bind fun d =>
  (b d).bind fun e =>
  bif e then (some g)
  else ((eN a b c f) (w64 (g + 1))))
  else (lT)
def iJ (a : List aF) (b : aF → Option Bool) : Option Int :=
  eN a b (a.length : Int) BIG 0
def gI (a : List aF) (b : aF → Option Bool) : Option Bool :=
  (iJ a b).bind fun c =>
  some (decide (0 ≤ c))
def lM (a : aD) (b : aN) : Option Bool :=
  (fC a.round 0 (w64 (b.Rounds - 1))).bind fun c =>
  (bif c then ((chk (decide (0 ≤ (w64 (a.round + 1))))).bind fun _ =>
  (fC a.place 0 (w64 (((b.Slots.length : Int).fdiv (2 ^ (min (w64 (a.round + 1)).toNat 64))) - 1))).bind fun d =>
  some d) else (some false)).bind fun e =>
  some e
def pO (a : aN) (b : aF) : Option Bool :=
  (fC b.Player 0 999).bind fun c =>
  bif !c then (some false)
  else (bif decide (b.Kind = 5) then ((bif decide (b.Round = 0) then ((fC b.Place 0 (w64 ((a.Slots.length : Int) - 1))).bind fun d =>
  some d) else (some false)).bind fun e =>
  (bif e then ((fC b.Old 0 999).bind fun f =>
  some f) else (some false)).bind fun g =>
  some g)
  else ((fC b.Kind 1 4).bind fun h =>
  (bif !h then (some true) else (some (!decide (b.Old = 0)))).bind fun i =>
  (bif i then (some true) else ((lM (aD.mk b.Round b.Place) a).bind fun j =>
  some (!j))).bind fun k =>
  bif k then (some false)
  else ((bif decide (0 < b.Round) then (some true) else ((sub a.Slots (w64 (2 * b.Place)) (w64 ((w64 (2 * b.Place)) + 2))).bind fun l =>
  (fJ l (-1)).bind fun m =>
  some (!m))).bind fun n =>
  some n)))
def nJ (a : aF) (b : aN) : Option Bool :=
  (pO b a).bind fun c =>
  some (!c)
def nD (a : (aF × Bool) → Prop) (_ : List Int) (_ : aN) (_ : List (aF × Int)) (_ : aF) : Prop :=
  a ((aF.mk 0 0 0 0 0), false)
def gT (a : (aF × Bool) → Prop) (b : Int) (c : List Int) (d : aN) (e : List (aF × Int)) : Nat → aF → (List (aF × Int)) → Prop
 | 0, _, _ => False
 | j + 1, k, l =>
  aNt l (nD a c d e k)
  (fun f g =>
  nb (bif decide (f.1.Place = b) then ((idx c b).bind fun h =>
  some (decide (f.1.Old = h))) else (some false)) fun i =>
  bif i then (a (f.1, true))
  else ((gT a b c d e j) k g))
def gY (a : aN) (b : List Int) (c : List (aF × Int)) (d : Int) (Q : (aF × Bool) → Prop) : Prop :=
  aBl c fun e =>
  gT Q d b a c BIG (aF.mk 0 0 0 0 0) e
def lE (_ : (Bool × (List Int) × (List (aF × Int))) → Prop) (a : Int → (List Int) → (List (aF × Int)) → (List Int) → Prop) (_ : Int) (b : Int) (c : List Int) (_ : aN) (d : List (aF × Int)) (e : List Int) : Prop :=
  a (w64 (b + 1)) c d e
def lF (a : (Bool × (List Int) × (List (aF × Int))) → Prop) (b : Int → (List Int) → (List (aF × Int)) → (List Int) → Prop) (c : Int) (d : Int) (e : List Int) (f : aN) (g : List (aF × Int)) (h : List Int) : Prop :=
  lE a b c d e f g h
def dX (a : (Bool × (List Int) × (List (aF × Int))) → Prop) (b : Int → (List Int) → (List (aF × Int)) → (List Int) → Prop) (c : Int) (d : Int) (e : Int) (f : aN) : Nat → Bool → (List Int) → (List (aF × Int)) → aF → (List Int) → Prop
 | 0, _, _, _, _, _ => False
 | j + 1, k, l, m, n, o =>
  bif k then (nb (fJ o n.Player) fun g =>
  bif g then (a (false, l, m))
  else (nb (idx l c) fun _ =>
  nb (app 8 o ([n.Player])) fun h =>
  gY f (l.set c.toNat n.Player) (pF n m) c fun i =>
  (dX a b c d e f j) i.2 (l.set c.toNat n.Player) (pF n m) i.1 h))
  else (lF a b d e l f m o)
def lD (a : (Bool × (List Int) × (List (aF × Int))) → Prop) (b : List Int) (_ : aN) (c : List (aF × Int)) : Prop :=
  a (decide ((c.length : Int) = 0), b, c)
def dA (a : (Bool × (List Int) × (List (aF × Int))) → Prop) (b : Int) (c : aN) : Nat → Int → (List Int) → (List (aF × Int)) → (List Int) → Prop
 | 0, _, _, _, _ => False
 | e + 1, f, g, h, i =>
  bif decide (f < b) then (gY c g h f fun d =>
  dX a (dA a b c e) f b f c BIG d.2 g h d.1 i)
  else (lD a g c h)
def kK (a : aN) (b : List Int) (c : List (aF × Int)) (Q : (Bool × (List Int) × (List (aF × Int))) → Prop) : Prop :=
  nb (jU a.Slots) fun d =>
  dA Q (b.length : Int) a BIG 0 b c d
def lU (a : Int) (b : Int) : Option aD :=
  (chk (decide (0 ≤ (w64 (a + 1))))).bind fun _ =>
  some (aD.mk a (b.fdiv (2 ^ (min (w64 (a + 1)).toNat 64))))
def qJ (_ : List Int) (a : List (aD × Int)) (_ : aN) : Option (Bool × (List (aD × Int))) :=
  some (true, a)
def gU (a : Int) (b : Int) (c : List Int) (d : aN) : Nat → Int → (List (aD × Int)) → Option (Bool × (List (aD × Int)))
 | 0, _, _ => none
 | i + 1, j, k =>
  bif decide (j < b) then ((lU j a).bind fun e =>
  (bif cO e k then ((idx c a).bind fun f =>
  some (!decide ((cK e 0 k) = f))) else (some false)).bind fun g =>
  bif g then (some (false, k))
  else ((idx c a).bind fun h =>
  (gU a b c d i) (w64 (j + 1)) (fO e h k)))
  else (qJ c k d)
def kY (a : aN) (b : List Int) (c : List (aD × Int)) (d : Int) (e : Int) : Option (Bool × (List (aD × Int))) :=
  gU d (w64 (e + 1)) b a BIG 0 c
def uE (a : ((Option bA) × Bool) → Prop) (b : List Int) (c : List (aD × Int)) (d : aN) : Prop :=
  a ((some (bA.mk d b c)), true)
def jS (a : ((Option bA) × Bool) → Prop) (b : List Int) (c : aN) (d : List (aD × aF)) : Nat → (List (aD × Int)) → (List (aD × aF)) → Prop
 | 0, _, _ => False
 | k + 1, l, m =>
  aNt m (uE a b l c)
  (fun e f =>
  nb (fZ b e.2.Player) fun g =>
  nb (bif decide (g < 0) then (some true) else ((lU e.1.round g).bind fun h =>
  some (!decide (h = e.1)))) fun i =>
  bif i then (a ((none : Option bA), false))
  else (nb (kY c b l g e.1.round) fun j =>
  bif !j.1 then (a ((none : Option bA), false))
  else ((jS a b c d k) j.2 f)))
def qI (a : ((Option bA) × Bool) → Prop) (b : List Int) (c : List (aD × Int)) (d : aN) (e : List (aD × aF)) : Prop :=
  aBl e fun f =>
  jS a b d e BIG c f
def gS (a : ((Option bA) × Bool) → Prop) (b : Int) (c : List Int) (d : aN) (e : List (aD × aF)) : Nat → Int → (List (aD × Int)) → Prop
 | 0, _, _ => False
 | h + 1, i, j =>
  bif decide (i < b) then (nb (idx c i) fun f =>
  bif decide (f = (-1)) then (nb (kY d c j (aMp i 1) 0) fun g =>
  (gS a b c d e h) (w64 (i + 1)) g.2)
  else ((gS a b c d e h) (w64 (i + 1)) j))
  else (qI a c j d e)
def qH (a : ((Option bA) × Bool) → Prop) (b : List Int) (c : List (aD × Int)) (d : aN) (e : List (aF × Int)) (f : List (aD × aF)) : Prop :=
  kK d b e fun g =>
  bif !g.1 then (a ((none : Option bA), false))
  else (gS a (g.2.1.length : Int) g.2.1 d f BIG 0 c)
def gR (a : ((Option bA) × Bool) → Prop) (b : List aF) (c : Int) (d : List Int) (e : List (aD × Int)) (f : aN) : Nat → Int → (List (aF × Int)) → (List (aD × aF)) → Prop
 | 0, _, _, _ => False
 | i + 1, j, k, l =>
  bif decide (j < c) then (nb (idx b j) fun g =>
  bif decide (g.Kind = 5) then ((gR a b c d e f i) (w64 (j + 1)) (fO g (w64 ((cK g 0 k) + 1)) k) l)
  else (nb (bif cO (aD.mk g.Round g.Place) l then (some (!decide ((cK (aD.mk g.Round g.Place) (aF.mk 0 0 0 0 0) l) = g))) else (some false)) fun h =>
  bif h then (a ((none : Option bA), false))
  else ((gR a b c d e f i) (w64 (j + 1)) k (fO (aD.mk g.Round g.Place) g l))))
  else (qH a d e f k l)
def rC (a : aN) (b : List aF) (Q : ((Option bA) × Bool) → Prop) : Prop :=
  nb (jU a.Slots) fun c =>
  gR Q b (b.length : Int) c ([] : List (aD × Int)) a BIG 0 ([] : List (aF × Int)) ([] : List (aD × aF))
def jN (a : aN) (b : List aF) (Q : ((Option bA) × Int) → Prop) : Prop :=
  nb (nI a) fun c =>
  bif !c then (Q ((none : Option bA), 70))
  else (nb (bif decide (60 < (b.length : Int)) then (some true) else ((gI b (fun d => nJ d a)).bind fun e =>
  some e)) fun f =>
  bif f then (Q ((none : Option bA), 71))
  else (rC a b fun g =>
  bif !g.2 then (Q ((none : Option bA), 72))
  else (Q (g.1, 0))))
def sD (b : aN) (c : List aF) (Q : (Int × Int) → Prop) : Prop :=
  jN b c fun d =>
  bif !decide (d.2 = 0) then (Q (0, d.2))
  else (nb (d.1) fun e =>
  nb (d.1) fun f =>
  Q (w64 ((w64 ((e.Tree.Slots.length : Int) - 1)) - (((f.won.map fun p : aD × Int => ((fun a : aD => Value.agg ((aK a).map bJ).toArray) p.1, aL p.2))).length : Int)), 0))
def sY (a : aN) (b : List aF) : Option (Int × Int) := mK a b
def wC (a : ((Option bA) × (List Int) × Int) → Prop) (b : Option bA) (c : List Int) : Prop :=
  a (b, c, 0)
def lN (a : ((Option bA) × (List Int) × Int) → Prop) (b : List Int) (c : Int) : Nat → (Option bA) → Int → (List Int) → Prop
 | 0, _, _, _ => False
 | i + 1, j, k, l =>
  bif decide (k < c) then (nb (idx b k) fun d =>
  nb (fC d 0 999) fun e =>
  bif !e then (a ((none : Option bA), ([] : List Int), 1))
  else (nb (j) fun f =>
  nb (fZ f.players d) fun g =>
  nb (app 8 l ([g])) fun h =>
  (lN a b c i) j (w64 (k + 1)) h))
  else (wC a j l)
def pC (a : aN) (b : List aF) (c : List Int) (Q : ((Option bA) × (List Int) × Int) → Prop) : Prop :=
  jN a b fun d =>
  bif !decide (d.2 = 0) then (Q ((none : Option bA), ([] : List Int), d.2))
  else (lN Q c (c.length : Int) BIG d.1 0 ([] : List Int))
def xV (a : Int) : Option Int :=
  some a
def nB (a : List Int) : Nat → Int → Int → Option Int
 | 0, _, _ => none
 | c + 1, d, e =>
  bif decide (e < (a.length : Int)) then ((idx a e).bind fun b =>
  (nB a c) (min d b) (w64 (e + 1)))
  else (xV d)
def aBp (a : List Int) : Option Int :=
  bif decide ((a.length : Int) < 1) then (none)
  else ((idx a 0).bind fun b =>
  nB a BIG b 1)
def rO (a : bA) : Option Int :=
  some a.Tree.Rounds
def iD (a : bA) (b : Int) (c : Int) : Nat → Int → Option Int
 | 0, _ => none
 | g + 1, h =>
  bif decide (h < c) then ((lU h b).bind fun d =>
  (bif cO d a.won then ((idx a.players b).bind fun e =>
  some (!decide ((cK d 0 a.won) = e))) else (some false)).bind fun f =>
  bif f then (some h)
  else ((iD a b c g) (w64 (h + 1))))
  else (rO a)
def lL (a : bA) (b : Int) : Option Int :=
  iD a b a.Tree.Rounds BIG 0
def kX (a : bA) (b : aD) (c : Int) : Option Int :=
  bif decide (b.round = 0) then ((idx a.players (w64 ((w64 (2 * b.place)) + c))).bind fun d =>
  some d)
  else (bif cO (aD.mk (w64 (b.round - 1)) (w64 ((w64 (2 * b.place)) + c))) a.won then (some (cK (aD.mk (w64 (b.round - 1)) (w64 ((w64 (2 * b.place)) + c))) 0 a.won))
  else (some (-2)))
def oB {S : Type} (_ : S → aD → cA → Option S) (a : Int → S → Option S) (_ : bA) (_ : Int) (b : Int) (c : S) : Option S :=
  a (w64 (b + 1)) c
def jD {S : Type} (a : S → aD → cA → Option S) (b : Int → S → Option S) (c : bA) (d : Int) (e : Int) (f : S) : Option S :=
  oB a b c d e f
def eW {S : Type} (a : S → aD → cA → Option S) (b : Int → S → Option S) (c : bA) (d : Int) (e : Int) (f : Int) (g : Int) : Nat → Int → S → Option S
 | 0, _, _ => none
 | k + 1, l, m =>
  bif decide (l < g) then ((kX c (aD.mk d l) 0).bind fun h =>
  (kX c (aD.mk d l) 1).bind fun i =>
  (a m (aD.mk d l) (cA.mk d l h i)).bind fun j =>
  (eW a b c d e f g k) (w64 (l + 1)) j)
  else (jD a b c e f m)
def oA {S : Type} (_ : S → aD → cA → Option S) (a : S) : Option S :=
  some a
def dH {S : Type} (a : S → aD → cA → Option S) (b : bA) (c : Int) : Nat → Int → S → Option S
 | 0, _, _ => none
 | d + 1, e, f =>
  bif decide (e < c) then ((chk (decide (0 ≤ (w64 (e + 1))))).bind fun _ =>
  eW a (dH a b c d) b e c e ((b.Tree.Slots.length : Int).fdiv (2 ^ (min (w64 (e + 1)).toNat 64))) BIG 0 f)
  else (oA a f)
def iZ {S : Type} (a : bA) (b : S → aD → cA → Option S) (c : S) : Option S :=
  dH b a a.Tree.Rounds BIG 0 c
def oP (a : aN) (b : List aF) (c : Int) (d : Int) (Q : ((Option bA) × aD × Int) → Prop) : Prop :=
  jN a b fun e =>
  nb (bif decide (e.2 = 0) then ((lM (aD.mk c d) a).bind fun f =>
  some (!f)) else (some false)) fun g =>
  bif g then (Q (e.1, (aD.mk c d), 1))
  else (Q (e.1, (aD.mk c d), e.2))
def pN (a : aN) (b : List aF) (c : Int) (d : Int) (Q : (Int × Int) → Prop) : Prop :=
  oP a b c d fun e =>
  bif !decide (e.2.2 = 0) then (Q (0, e.2.2))
  else (nb (e.1) fun f =>
  bif !(cO e.2.1 f.won) then (Q (0, 3))
  else (Q (cK e.2.1 0 f.won, 0)))
def qK (a : aN) (b : List aF) (c : Int) (d : Int) : Option (Int × Int) := iB a b c d
def slices_Sort_int (x : List Int) : Option (List Int) := if x.length < 4611686018427387904 then some (jR x) else none
def wB (a : ((List Int) × Int) → Prop) (b : List Int) : Prop :=
  nb (slices_Sort_int b) fun c =>
  a (c, 0)
def iY (a : ((List Int) × Int) → Prop) (b : Int) (c : Option bA) (d : List Int) (e : Int) (f : aD) : Nat → Int → (List Int) → Prop
 | 0, _, _ => False
 | n + 1, o, p =>
  bif decide (o < e) then (nb (idx d o) fun g =>
  nb (c) fun h =>
  nb (bif !decide (g = (-1)) then ((lU b o).bind fun i =>
  some (decide (i = f))) else (some false)) fun j =>
  nb (bif j then ((lL h o).bind fun k =>
  some (decide (b < k))) else (some false)) fun l =>
  bif l then (nb (app 8 p ([g])) fun m =>
  (iY a b c d e f n) (w64 (o + 1)) m)
  else ((iY a b c d e f n) (w64 (o + 1)) p))
  else (wB a p)
def tQ (a : aN) (b : List aF) (c : Int) (d : Int) (Q : ((List Int) × Int) → Prop) : Prop :=
  oP a b c d fun e =>
  bif !decide (e.2.2 = 0) then (Q (([] : List Int), e.2.2))
  else (nb (e.1) fun f =>
  iY Q c e.1 f.players (f.players.length : Int) e.2.1 BIG 0 ([] : List Int))
def sF : Option (bH × (List Int)) :=
  some ((bH.mk 2 2 false 2 3 0 4 2 2 false), [0, 0, 0, 0, 1, 1, 1, 1, 0, 0, 0, 0, 0, 0, 0, 0, 1, 1, 1, 1])
def jO (a : Int) (b : Int) (c : Int) : Option Bool :=
  (bif decide (b ≤ a) then (some (decide (a ≤ c))) else (some false)).bind fun d =>
  some d
def oL (a : Int) (b : bH) : Option Bool :=
  (bif decide (a = (-1)) then (some true) else (some (decide (a = 0)))).bind fun c =>
  (bif c then (some true) else (some (decide (a = (w64 (b.Games - 1)))))).bind fun d =>
  (bif d then (some true) else (some (decide (a = b.Games)))).bind fun e =>
  some e
def tX (a : bH) : Option Int :=
  (jO a.Sets 1 3).bind fun b =>
  (bif b then ((jO a.Games 1 8).bind fun c =>
  some c) else (some false)).bind fun d =>
  (bif d then ((oL a.Tie a).bind fun e =>
  some e) else (some false)).bind fun f =>
  (bif f then ((oL a.LastTie a).bind fun g =>
  some g) else (some false)).bind fun h =>
  (bif h then ((jO a.To 1 15).bind fun i =>
  some i) else (some false)).bind fun j =>
  (bif j then ((jO a.LastTo 1 15).bind fun k =>
  some k) else (some false)).bind fun l =>
  (bif l then ((jO a.First 0 20).bind fun m =>
  some m) else (some false)).bind fun n =>
  (bif n then ((jO a.Then 0 20).bind fun o =>
  some o) else (some false)).bind fun p =>
  bif p then (some 0)
  else (some 10)
def kT (a : gP) (b : aI) : Option iC :=
  (bif decide (b.A = (w64 (a.Format.Sets - 1))) then (some (decide (b.B = (w64 (a.Format.Sets - 1))))) else (some false)).bind fun c =>
  bif c then (some (iC.mk a.Format.LastTie a.Format.LastTo))
  else (some (iC.mk a.Format.Tie a.Format.To))
def nW (a : iC) (b : aI) : Option Bool :=
  (bif decide (b.A = a.tie) then (some (decide (b.B = a.tie))) else (some false)).bind fun c =>
  some c
def fW (a : bK) : Option Int :=
  some (w64 ((a.ties.length : Int) - 1))
def mP (a : gP) (b : Int) : Option Bool :=
  (bif decide (0 < a.Format.First) then ((bif decide ((w64 (b - a.Format.First)) = 0) then (some true) else ((bif decide (0 < (w64 (b - a.Format.First))) then (some (decide (0 < a.Format.Then))) else (some false)).bind fun c =>
  (bif c then ((chk (!decide (a.Format.Then = 0))).bind fun _ =>
  some (decide (((w64 (b - a.Format.First)).tmod a.Format.Then) = 0))) else (some false)).bind fun d =>
  some d)).bind fun e =>
  some e) else (some false)).bind fun f =>
  some f
def kZ (a : bK) : Option Bool :=
  (fW a).bind fun b =>
  (idx a.ties b).bind fun c =>
  (bif !c then ((mP a.rules b).bind fun d =>
  some d) else (some false)).bind fun e =>
  (bif e then (some true) else ((bif decide (2 ≤ b) then ((idx a.ties (w64 (b - 2))).bind fun f =>
  some f) else (some false)).bind fun g =>
  (bif g then ((mP a.rules (w64 (b - 2))).bind fun h =>
  some h) else (some false)).bind fun i =>
  some i)).bind fun j =>
  some j
def fX (a : bK) (b : Int) : Option Int :=
  (fW a).bind fun c =>
  (idx a.ties c).bind fun d =>
  bif d then (bif !a.rules.Format.Doubles then (some ((w64 ((w64 (a.first + c)) + (w64 ((w64 (b + 1)).tdiv 2)))).tmod 2))
  else (some (w64 (((w64 ((w64 (a.first + c)) + (w64 ((w64 (b + 1)).tdiv 2)))).tmod 2) + (w64 (2 * ((w64 ((w64 ((w64 (c + ((w64 ((w64 (b + 1)).tdiv 2)).tmod 2))).tdiv 2)) + (w64 ((w64 ((w64 (b + 1)).tdiv 2)).tdiv 2)))).tmod 2)))))))
  else (bif !a.rules.Format.Doubles then (some ((w64 ((w64 (a.first + c)) + 0)).tmod 2))
  else (some (w64 (((w64 ((w64 (a.first + c)) + 0)).tmod 2) + (w64 (2 * ((w64 ((w64 ((w64 (c + ((0 : Int).tmod 2))).tdiv 2)) + (w64 ((0 : Int).tdiv 2)))).tmod 2)))))))
def dV (a : bK) : Option bK :=
  bif decide (0 ≤ a.Score.Winner) then (some (bK.mk a.rules (aP.mk a.Score.Board (-1) a.Score.Ends a.Score.Balls a.Score.Winner) a.first a.won a.ties a.games))
  else ((kT a.rules a.won).bind fun b =>
  (nW b a.Score.Board.Games).bind fun c =>
  (app 1 a.ties ([c])).bind fun d =>
  (kZ (bK.mk a.rules a.Score a.first a.won d a.games)).bind fun e =>
  bif e then ((fX (bK.mk a.rules (aP.mk a.Score.Board a.Score.Server a.Score.Ends (w64 (a.Score.Balls + 1)) a.Score.Winner) a.first a.won d a.games) 0).bind fun f =>
  some (bK.mk a.rules (aP.mk a.Score.Board f a.Score.Ends (w64 (a.Score.Balls + 1)) a.Score.Winner) a.first a.won d a.games))
  else ((fX (bK.mk a.rules a.Score a.first a.won d a.games) 0).bind fun g =>
  some (bK.mk a.rules (aP.mk a.Score.Board g a.Score.Ends a.Score.Balls a.Score.Winner) a.first a.won d a.games)))
def wN (a : gP) (b : Int) : Option bK :=
  (dV (bK.mk a (aP.mk (aQ.mk ([] : List aI) (aI.mk 0 0) (aI.mk 0 0)) 0 0 0 (-1)) b (aI.mk 0 0) ([] : List Bool) ([] : List bO))).bind fun c =>
  some c
def qF (a : aI) (b : Int) : Option aI :=
  bif decide (b = 0) then (some (aI.mk (w64 (a.A + 1)) a.B))
  else (some (aI.mk a.A (w64 (a.B + 1))))
def sR (a : aI) : Option Int :=
  some (w64 (a.A + a.B))
def kJ (a : aI) (b : Int) (c : Int) : Option Int :=
  (bif decide (b ≤ a.A) then (some (decide (c ≤ (w64 (a.A - a.B))))) else (some false)).bind fun d =>
  bif d then (some 0)
  else ((bif decide (b ≤ a.B) then (some (decide (c ≤ (w64 (a.B - a.A))))) else (some false)).bind fun e =>
  bif e then (some 1)
  else (some (-1)))
def lS (a : gP) (b : iC) (c : Bool) (d : aI) : Option Int :=
  bif c then ((kJ d b.to 2).bind fun e =>
  some e)
  else (bif a.Format.NoAd then ((kJ d 4 1).bind fun f =>
  some f)
  else ((kJ d 4 2).bind fun g =>
  some g))
def nA (a : bK) (b : Int) : Option bK :=
  (kT a.rules a.won).bind fun c =>
  (fW a).bind fun d =>
  (idx a.ties d).bind fun e =>
  (qF a.Score.Board.Points b).bind fun f =>
  (sR f).bind fun g =>
  (lS a.rules c e f).bind fun h =>
  bif decide (h < 0) then ((bif e then (some (decide ((g.tmod 6) = 0))) else (some false)).bind fun i =>
  bif i then ((fX (bK.mk a.rules (aP.mk (aQ.mk a.Score.Board.Sets a.Score.Board.Games f) a.Score.Server (w64 (a.Score.Ends + 1)) a.Score.Balls a.Score.Winner) a.first a.won a.ties a.games) g).bind fun j =>
  some (bK.mk a.rules (aP.mk (aQ.mk a.Score.Board.Sets a.Score.Board.Games f) j (w64 (a.Score.Ends + 1)) a.Score.Balls a.Score.Winner) a.first a.won a.ties a.games))
  else ((fX (bK.mk a.rules (aP.mk (aQ.mk a.Score.Board.Sets a.Score.Board.Games f) a.Score.Server a.Score.Ends a.Score.Balls a.Score.Winner) a.first a.won a.ties a.games) g).bind fun k =>
  some (bK.mk a.rules (aP.mk (aQ.mk a.Score.Board.Sets a.Score.Board.Games f) k a.Score.Ends a.Score.Balls a.Score.Winner) a.first a.won a.ties a.games)))
  else ((fX (bK.mk a.rules (aP.mk (aQ.mk a.Score.Board.Sets a.Score.Board.Games f) a.Score.Server a.Score.Ends a.Score.Balls a.Score.Winner) a.first a.won a.ties a.games) 0).bind fun l =>
  (kZ (bK.mk a.rules (aP.mk (aQ.mk a.Score.Board.Sets a.Score.Board.Games f) a.Score.Server a.Score.Ends a.Score.Balls a.Score.Winner) a.first a.won a.ties a.games)).bind fun m =>
  (app 56 a.games ([(bO.mk (a.Score.Board.Sets.length : Int) e l h f m)])).bind fun n =>
  (qF a.Score.Board.Games h).bind fun o =>
  (bif e then (some true) else ((kJ o a.rules.Format.Games 2).bind fun p =>
  some (decide (0 ≤ p)))).bind fun q =>
  bif q then ((app 16 a.Score.Board.Sets ([o])).bind fun r =>
  (qF a.won h).bind fun s =>
  bif decide ((max s.A s.B) = a.rules.Format.Sets) then ((sR o).bind fun t =>
  (bif decide ((t.tmod 2) = 1) then (some (decide (h < 0))) else (some false)).bind fun u =>
  bif u then ((dV (bK.mk a.rules (aP.mk (aQ.mk r (aI.mk 0 0) (aI.mk 0 0)) a.Score.Server (w64 (a.Score.Ends + 1)) a.Score.Balls h) a.first s a.ties n)).bind fun v =>
  some v)
  else ((dV (bK.mk a.rules (aP.mk (aQ.mk r (aI.mk 0 0) (aI.mk 0 0)) a.Score.Server a.Score.Ends a.Score.Balls h) a.first s a.ties n)).bind fun w =>
  some w))
  else ((sR o).bind fun x =>
  (bif decide ((x.tmod 2) = 1) then (some (decide (a.Score.Winner < 0))) else (some false)).bind fun y =>
  bif y then ((dV (bK.mk a.rules (aP.mk (aQ.mk r (aI.mk 0 0) (aI.mk 0 0)) a.Score.Server (w64 (a.Score.Ends + 1)) a.Score.Balls a.Score.Winner) a.first s a.ties n)).bind fun z =>
  some z)
  else ((dV (bK.mk a.rules (aP.mk (aQ.mk r (aI.mk 0 0) (aI.mk 0 0)) a.Score.Server a.Score.Ends a.Score.Balls a.Score.Winner) a.first s a.ties n)).bind fun a0 =>
  some a0)))
  else ((sR o).bind fun a1 =>
  (bif decide ((a1.tmod 2) = 1) then (some (decide (a.Score.Winner < 0))) else (some false)).bind fun a2 =>
  bif a2 then ((dV (bK.mk a.rules (aP.mk (aQ.mk a.Score.Board.Sets o (aI.mk 0 0)) a.Score.Server (w64 (a.Score.Ends + 1)) a.Score.Balls a.Score.Winner) a.first a.won a.ties n)).bind fun a3 =>
  some a3)
  else ((dV (bK.mk a.rules (aP.mk (aQ.mk a.Score.Board.Sets o (aI.mk 0 0)) a.Score.Server a.Score.Ends a.Score.Balls a.Score.Winner) a.first a.won a.ties n)).bind fun a4 =>
  some a4)))
def aDq (a : List aI) (b : List Bool) (c : List bO) (d : gP) (e : aI) (f : aI) (g : Int) (h : Int) (i : Int) (j : Int) (k : Int) (l : aI) : Option ((Option bK) × Int) :=
  some ((some (bK.mk d (aP.mk (aQ.mk a e f) g h i j) k l b c)), 0)
def mV (a : List Int) (b : Int) : Nat → Int → (List aI) → (List Bool) → (List bO) → gP → aI → aI → Int → Int → Int → Int → Int → aI → Option ((Option bK) × Int)
 | 0, _, _, _, _, _, _, _, _, _, _, _, _, _ => none
 | g + 1, h, i, j, k, l, m, n, o, p, q, r, s, t =>
  bif decide (h < b) then ((idx a h).bind fun c =>
  (bif !decide (c = 0) then (some (!decide (c = 1))) else (some false)).bind fun d =>
  (bif d then (some true) else (some (decide (0 ≤ r)))).bind fun e =>
  bif e then (some ((none : Option bK), 11))
  else ((nA (bK.mk l (aP.mk (aQ.mk i m n) o p q r) s t j k) c).bind fun f =>
  (mV a b g) (w64 (h + 1)) f.Score.Board.Sets f.ties f.games f.rules f.Score.Board.Games f.Score.Board.Points f.Score.Server f.Score.Ends f.Score.Balls f.Score.Winner f.first f.won))
  else (aDq i j k l m n o p q r s t)
def vM (a : bH) (b : Int) (c : List Int) : Option ((Option bK) × Int) :=
  (tX a).bind fun d =>
  bif !decide (d = 0) then (some ((none : Option bK), d))
  else ((bif !decide (b = 0) then (some (!decide (b = 1))) else (some false)).bind fun e =>
  bif e then (some ((none : Option bK), 1))
  else (bif decide (600 < (c.length : Int)) then (some ((none : Option bK), 2))
  else ((wN (gP.mk a) b).bind fun f =>
  mV c (c.length : Int) BIG 0 f.Score.Board.Sets f.ties f.games f.rules f.Score.Board.Games f.Score.Board.Points f.Score.Server f.Score.Ends f.Score.Balls f.Score.Winner f.first f.won)))
def pA (a : bH) (b : Int) (c : List Int) : Option (aP × Int) :=
  (vM a b c).bind fun d =>
  bif !decide (d.2 = 0) then (some ((aP.mk (aQ.mk ([] : List aI) (aI.mk 0 0) (aI.mk 0 0)) 0 0 0 0), d.2))
  else ((d.1).bind fun e =>
  some (e.Score, 0))
def xL (a : aN) (b : List aF) (c : Int) (d : Int) : Option ((List Int) × Int) := jZ a b c d
def gM : Option Bool :=
  (oQ).bind fun a =>
  (tA a.1).bind fun b =>
  (sG).bind fun c =>
  (xL c.1 c.2 2 0).bind fun d =>
  (sF).bind fun e =>
  (pA e.1 0 e.2).bind fun f =>
  (bif decide (b.2 = 0) then (some (decide (d.2 = 0))) else (some false)).bind fun g =>
  (bif g then (some (decide (f.2 = 0))) else (some false)).bind fun h =>
  (bif h then (some (decide ((b.1.length : Int) = 4))) else (some false)).bind fun i =>
  (bif i then ((idx b.1 0).bind fun j =>
  some (decide (j = 10))) else (some false)).bind fun k =>
  (bif k then (some (decide ((d.1.length : Int) = 4))) else (some false)).bind fun l =>
  (bif l then (some (decide (f.1.Balls = 2))) else (some false)).bind fun m =>
  some m
def rP (a : bA) : Option Int :=
  some a.Tree.Rounds
def iE (a : bA) (b : Int) (c : Int) : Nat → Int → Option Int
 | 0, _ => none
 | g + 1, h =>
  bif decide (h < c) then ((lU h b).bind fun d =>
  (bif !(cO d a.won) then (some true) else ((idx a.players b).bind fun e =>
  some (!decide ((cK d 0 a.won) = e)))).bind fun f =>
  bif f then (some h)
  else ((iE a b c g) (w64 (h + 1))))
  else (rP a)
def nM (a : bA) (b : Int) : Option Int :=
  iE a b a.Tree.Rounds BIG 0
def oO (a : aN) (b : List aF) (c : Int) (Q : (dZ × Int) → Prop) : Prop :=
  pC a b ([c]) fun d =>
  bif !decide (d.2.2 = 0) then (Q ((dZ.mk 0 0), d.2.2))
  else (nb (idx d.2.1 0) fun e =>
  bif decide (e < 0) then (Q ((dZ.mk 0 0), 3))
  else (nb (d.1) fun f =>
  nb (idx d.2.1 0) fun g =>
  nb (nM f g) fun h =>
  nb (idx d.2.1 0) fun i =>
  nb (lL f i) fun j =>
  Q ((dZ.mk h j), 0)))
def mX (a : aN) (b : List aF) (c : Int) : Option (dZ × Int) := kB a b c
def dD (a : Int) (b : Int) (c : Int) : Option Bool :=
  (bif decide (b ≤ a) then (some (decide (a ≤ c))) else (some false)).bind fun d =>
  some d
def lO (a : bH) (b : Int) : Option Bool :=
  (bif decide (b = (-1)) then (some true) else (some (decide (b = 0)))).bind fun c =>
  (bif c then (some true) else (some (decide (b = (w64 (a.Games - 1)))))).bind fun d =>
  (bif d then (some true) else (some (decide (b = a.Games)))).bind fun e =>
  some e
def nO (a : bH) : Option Int :=
  (dD a.Sets 1 3).bind fun b =>
  (bif !b then (some true) else ((dD a.Games 1 8).bind fun c =>
  some (!c))).bind fun d =>
  (bif d then (some true) else ((lO a a.Tie).bind fun e =>
  some (!e))).bind fun f =>
  (bif f then (some true) else ((lO a a.LastTie).bind fun g =>
  some (!g))).bind fun h =>
  (bif h then (some true) else ((dD a.To 1 15).bind fun i =>
  some (!i))).bind fun j =>
  (bif j then (some true) else ((dD a.LastTo 1 15).bind fun k =>
  some (!k))).bind fun l =>
  (bif l then (some true) else ((dD a.First 0 20).bind fun m =>
  some (!m))).bind fun n =>
  (bif n then (some true) else ((dD a.Then 0 20).bind fun o =>
  some (!o))).bind fun p =>
  bif p then (some 10)
  else (some 0)
def tJ (_ : aI) (a : aI) : Option aI :=
  some a
def hZ (a : List aI) (b : aI) : Nat → Int → aI → Option aI
 | 0, _, _ => none
 | e + 1, f, g =>
  bif decide (f < (a.length : Int)) then ((idx a f).bind fun c =>
  (idx a f).bind fun d =>
  bif decide (d.B < c.A) then ((hZ a b e) (w64 (f + 1)) (aI.mk (w64 (g.A + 1)) g.B))
  else ((hZ a b e) (w64 (f + 1)) (aI.mk g.A (w64 (g.B + 1)))))
  else (tJ b g)
def jA (a : List aI) : Option aI :=
  hZ a (aI.mk 0 0) BIG 0 (aI.mk 0 0)
def mY (a : bH) (b : aI) : Option Bool :=
  (bif decide (b.A = (w64 (a.Sets - 1))) then (some (decide (b.B = (w64 (a.Sets - 1))))) else (some false)).bind fun c =>
  some c
def oR (a : bH) (b : Bool) : Option (Int × Int) :=
  bif b then (some (a.LastTie, a.LastTo))
  else (some (a.Tie, a.To))
def jH (a : bH) (b : aQ) : Option (Bool × Int) :=
  (jA b.Sets).bind fun c =>
  (mY a c).bind fun d =>
  (oR a d).bind fun e =>
  (bif decide (0 ≤ e.1) then (some (decide (b.Games.A = e.1))) else (some false)).bind fun f =>
  (bif f then (some (decide (b.Games.B = e.1))) else (some false)).bind fun g =>
  some (g, e.2)
def nK (a : bH) (b : Int) : Option Bool :=
  (bif decide (0 < a.First) then ((bif decide (b = a.First) then (some true) else ((bif decide (a.First < b) then (some (decide (0 < a.Then))) else (some false)).bind fun c =>
  (bif c then ((chk (!decide (a.Then = 0))).bind fun _ =>
  some (decide (((w64 (b - a.First)).tmod a.Then) = 0))) else (some false)).bind fun d =>
  some d)).bind fun e =>
  some e) else (some false)).bind fun f =>
  some f
def cR (a : bH) (b : aJ) : Option aJ :=
  (jH a b.Score.Board).bind fun c =>
  (nK a (b.Games.length : Int)).bind fun d =>
  (bif d then (some (!c.1)) else (some false)).bind fun e =>
  (bif e then (some true) else ((bif decide (2 ≤ (b.Games.length : Int)) then ((nK a (w64 ((b.Games.length : Int) - 2))).bind fun f =>
  some f) else (some false)).bind fun g =>
  (bif g then ((idx b.Games (w64 ((b.Games.length : Int) - 2))).bind fun h =>
  some h.Tie) else (some false)).bind fun i =>
  some i)).bind fun j =>
  bif j then (some (aJ.mk (aP.mk b.Score.Board b.Score.Server b.Score.Ends (w64 (b.Score.Balls + 1)) b.Score.Winner) b.First b.Games j))
  else (some (aJ.mk b.Score b.First b.Games j))
def qL (a : bH) (b : Int) : Option aJ :=
  (cR a (aJ.mk (aP.mk (aQ.mk ([] : List aI) (aI.mk 0 0) (aI.mk 0 0)) 0 0 0 (-1)) b ([] : List bO) false)).bind fun c =>
  some c
def iH (a : aI) (b : Int) : Option aI :=
  bif decide (b = 0) then (some (aI.mk (w64 (a.A + 1)) a.B))
  else (some (aI.mk a.A (w64 (a.B + 1))))
def fH (a : aI) (b : Int) : Option Int :=
  (bif decide (b ≤ a.A) then (some (decide ((w64 (a.B + 2)) ≤ a.A))) else (some false)).bind fun c =>
  bif c then (some 0)
  else ((bif decide (b ≤ a.B) then (some (decide ((w64 (a.A + 2)) ≤ a.B))) else (some false)).bind fun d =>
  bif d then (some 1)
  else (some (-1)))
def jX (a : bH) (b : aI) : Option Int :=
  bif a.NoAd then (bif decide (4 ≤ b.A) then (some 0)
  else (bif decide (4 ≤ b.B) then (some 1)
  else (some (-1))))
  else ((fH b 4).bind fun c =>
  some c)
def qM (a : Int) (b : Int) (c : Int) : Option Int :=
  some (w64 (b + (w64 (2 * ((w64 (c + (w64 (a.tdiv 2)))).tmod 2)))))
def dS (a : Int) (b : Int) (c : Int) (d : Int) : Nat → Int → Int → Option Int
 | 0, _, _ => none
 | e + 1, f, g =>
  bif decide (g < b) then (bif decide (((w64 (a + g)).tmod 2) = d) then ((dS a b c d e) (w64 (f + 1)) (w64 (g + 1)))
  else ((dS a b c d e) f (w64 (g + 1))))
  else (qM c d f)
def gE (a : bH) (b : Int) (c : Int) (d : Bool) (e : Int) : Option Int :=
  bif d then (bif !a.Doubles then (some ((w64 ((w64 (b + c)) + (w64 ((w64 (e + 1)).tdiv 2)))).tmod 2))
  else (dS b c (w64 ((w64 (e + 1)).tdiv 2)) ((w64 ((w64 (b + c)) + (w64 ((w64 (e + 1)).tdiv 2)))).tmod 2) BIG 0 0))
  else (bif !a.Doubles then (some ((w64 ((w64 (b + c)) + 0)).tmod 2))
  else (dS b c 0 ((w64 ((w64 (b + c)) + 0)).tmod 2) BIG 0 0))
def nP (a : bH) (b : aJ) (c : Int) : Option aJ :=
  (jH a b.Score.Board).bind fun d =>
  (iH b.Score.Board.Points c).bind fun e =>
  (jX a e).bind fun f =>
  bif d.1 then ((fH e d.2).bind fun g =>
  (bif decide (g < 0) then (some (decide (((w64 (e.A + e.B)).tmod 6) = 0))) else (some false)).bind fun h =>
  bif h then (bif decide (g < 0) then (some (aJ.mk (aP.mk (aQ.mk b.Score.Board.Sets b.Score.Board.Games e) b.Score.Server (w64 (b.Score.Ends + 1)) b.Score.Balls b.Score.Winner) b.First b.Games b.Fresh))
  else ((app 56 ([] : List bO) b.Games).bind fun i =>
  (gE a b.First (b.Games.length : Int) d.1 0).bind fun j =>
  (app 56 i ([(bO.mk (b.Score.Board.Sets.length : Int) d.1 j g e b.Fresh)])).bind fun k =>
  (iH b.Score.Board.Games g).bind fun l =>
  (bif d.1 then (some true) else ((fH l a.Games).bind fun m =>
  some (decide (0 ≤ m)))).bind fun n =>
  bif n then ((app 16 ([] : List aI) b.Score.Board.Sets).bind fun o =>
  (app 16 o ([l])).bind fun p =>
  (jA p).bind fun q =>
  (bif decide (q.A = a.Sets) then (some true) else (some (decide (q.B = a.Sets)))).bind fun r =>
  bif r then (some (aJ.mk (aP.mk (aQ.mk p (aI.mk 0 0) (aI.mk 0 0)) b.Score.Server (w64 (b.Score.Ends + 1)) b.Score.Balls g) b.First k b.Fresh))
  else (bif decide (((w64 (l.A + l.B)).tmod 2) = 1) then ((cR a (aJ.mk (aP.mk (aQ.mk p (aI.mk 0 0) (aI.mk 0 0)) b.Score.Server (w64 ((w64 (b.Score.Ends + 1)) + 1)) b.Score.Balls b.Score.Winner) b.First k b.Fresh)).bind fun s =>
  some s)
  else ((cR a (aJ.mk (aP.mk (aQ.mk p (aI.mk 0 0) (aI.mk 0 0)) b.Score.Server (w64 (b.Score.Ends + 1)) b.Score.Balls b.Score.Winner) b.First k b.Fresh)).bind fun t =>
  some t)))
  else (bif decide (((w64 (l.A + l.B)).tmod 2) = 1) then ((cR a (aJ.mk (aP.mk (aQ.mk b.Score.Board.Sets l (aI.mk 0 0)) b.Score.Server (w64 ((w64 (b.Score.Ends + 1)) + 1)) b.Score.Balls b.Score.Winner) b.First k b.Fresh)).bind fun u =>
  some u)
  else ((cR a (aJ.mk (aP.mk (aQ.mk b.Score.Board.Sets l (aI.mk 0 0)) b.Score.Server (w64 (b.Score.Ends + 1)) b.Score.Balls b.Score.Winner) b.First k b.Fresh)).bind fun v =>
  some v))))
  else (bif decide (g < 0) then (some (aJ.mk (aP.mk (aQ.mk b.Score.Board.Sets b.Score.Board.Games e) b.Score.Server b.Score.Ends b.Score.Balls b.Score.Winner) b.First b.Games b.Fresh))
  else ((app 56 ([] : List bO) b.Games).bind fun w =>
  (gE a b.First (b.Games.length : Int) d.1 0).bind fun x =>
  (app 56 w ([(bO.mk (b.Score.Board.Sets.length : Int) d.1 x g e b.Fresh)])).bind fun y =>
  (iH b.Score.Board.Games g).bind fun z =>
  (bif d.1 then (some true) else ((fH z a.Games).bind fun a0 =>
  some (decide (0 ≤ a0)))).bind fun a1 =>
  bif a1 then ((app 16 ([] : List aI) b.Score.Board.Sets).bind fun a2 =>
  (app 16 a2 ([z])).bind fun a3 =>
  (jA a3).bind fun a4 =>
  (bif decide (a4.A = a.Sets) then (some true) else (some (decide (a4.B = a.Sets)))).bind fun a5 =>
  bif a5 then (some (aJ.mk (aP.mk (aQ.mk a3 (aI.mk 0 0) (aI.mk 0 0)) b.Score.Server b.Score.Ends b.Score.Balls g) b.First y b.Fresh))
  else (bif decide (((w64 (z.A + z.B)).tmod 2) = 1) then ((cR a (aJ.mk (aP.mk (aQ.mk a3 (aI.mk 0 0) (aI.mk 0 0)) b.Score.Server (w64 (b.Score.Ends + 1)) b.Score.Balls b.Score.Winner) b.First y b.Fresh)).bind fun a6 =>
  some a6)
  else ((cR a (aJ.mk (aP.mk (aQ.mk a3 (aI.mk 0 0) (aI.mk 0 0)) b.Score.Server b.Score.Ends b.Score.Balls b.Score.Winner) b.First y b.Fresh)).bind fun a7 =>
  some a7)))
  else (bif decide (((w64 (z.A + z.B)).tmod 2) = 1) then ((cR a (aJ.mk (aP.mk (aQ.mk b.Score.Board.Sets z (aI.mk 0 0)) b.Score.Server (w64 (b.Score.Ends + 1)) b.Score.Balls b.Score.Winner) b.First y b.Fresh)).bind fun a8 =>
  some a8)
  else ((cR a (aJ.mk (aP.mk (aQ.mk b.Score.Board.Sets z (aI.mk 0 0)) b.Score.Server b.Score.Ends b.Score.Balls b.Score.Winner) b.First y b.Fresh)).bind fun a9 =>
  some a9)))))
  else (bif decide (f < 0) then (some (aJ.mk (aP.mk (aQ.mk b.Score.Board.Sets b.Score.Board.Games e) b.Score.Server b.Score.Ends b.Score.Balls b.Score.Winner) b.First b.Games b.Fresh))
  else ((app 56 ([] : List bO) b.Games).bind fun b0 =>
  (gE a b.First (b.Games.length : Int) d.1 0).bind fun b1 =>
  (app 56 b0 ([(bO.mk (b.Score.Board.Sets.length : Int) d.1 b1 f e b.Fresh)])).bind fun b2 =>
  (iH b.Score.Board.Games f).bind fun b3 =>
  (bif d.1 then (some true) else ((fH b3 a.Games).bind fun b4 =>
  some (decide (0 ≤ b4)))).bind fun b5 =>
  bif b5 then ((app 16 ([] : List aI) b.Score.Board.Sets).bind fun b6 =>
  (app 16 b6 ([b3])).bind fun b7 =>
  (jA b7).bind fun b8 =>
  (bif decide (b8.A = a.Sets) then (some true) else (some (decide (b8.B = a.Sets)))).bind fun c0 =>
  bif c0 then (some (aJ.mk (aP.mk (aQ.mk b7 (aI.mk 0 0) (aI.mk 0 0)) b.Score.Server b.Score.Ends b.Score.Balls f) b.First b2 b.Fresh))
  else (bif decide (((w64 (b3.A + b3.B)).tmod 2) = 1) then ((cR a (aJ.mk (aP.mk (aQ.mk b7 (aI.mk 0 0) (aI.mk 0 0)) b.Score.Server (w64 (b.Score.Ends + 1)) b.Score.Balls b.Score.Winner) b.First b2 b.Fresh)).bind fun c1 =>
  some c1)
  else ((cR a (aJ.mk (aP.mk (aQ.mk b7 (aI.mk 0 0) (aI.mk 0 0)) b.Score.Server b.Score.Ends b.Score.Balls b.Score.Winner) b.First b2 b.Fresh)).bind fun c2 =>
  some c2)))
  else (bif decide (((w64 (b3.A + b3.B)).tmod 2) = 1) then ((cR a (aJ.mk (aP.mk (aQ.mk b.Score.Board.Sets b3 (aI.mk 0 0)) b.Score.Server (w64 (b.Score.Ends + 1)) b.Score.Balls b.Score.Winner) b.First b2 b.Fresh)).bind fun c3 =>
  some c3)
  else ((cR a (aJ.mk (aP.mk (aQ.mk b.Score.Board.Sets b3 (aI.mk 0 0)) b.Score.Server b.Score.Ends b.Score.Balls b.Score.Winner) b.First b2 b.Fresh)).bind fun c4 =>
  some c4))))
def mJ (a : bH) (b : aJ) : Option Int :=
  bif decide (0 ≤ b.Score.Winner) then (some (-1))
  else ((jH a b.Score.Board).bind fun c =>
  (gE a b.First (b.Games.length : Int) c.1 (w64 (b.Score.Board.Points.A + b.Score.Board.Points.B))).bind fun d =>
  some d)
def pI (a : bH) (_ : aJ) (b : aJ) : Option (aJ × Int) :=
  (mJ a b).bind fun c =>
  some ((aJ.mk (aP.mk b.Score.Board c b.Score.Ends b.Score.Balls b.Score.Winner) b.First b.Games b.Fresh), 0)
def hC (a : List Int) (b : bH) : Nat → Int → aJ → aJ → Option (aJ × Int)
 | 0, _, _, _ => none
 | h + 1, i, j, k =>
  bif decide (i < (a.length : Int)) then ((idx a i).bind fun c =>
  (dD c 0 1).bind fun d =>
  (bif !d then (some true) else (some (decide (0 ≤ k.Score.Winner)))).bind fun e =>
  bif e then (some ((aJ.mk (aP.mk (aQ.mk ([] : List aI) (aI.mk 0 0) (aI.mk 0 0)) 0 0 0 0) 0 ([] : List bO) false), 11))
  else ((idx a i).bind fun f =>
  (nP b k f).bind fun g =>
  (hC a b h) (w64 (i + 1)) j g))
  else (pI b j k)
def pP (a : bH) (b : Int) (c : List Int) : Option (aJ × Int) :=
  (nO a).bind fun d =>
  bif !decide (d = 0) then (some ((aJ.mk (aP.mk (aQ.mk ([] : List aI) (aI.mk 0 0) (aI.mk 0 0)) 0 0 0 0) 0 ([] : List bO) false), 10))
  else ((dD b 0 1).bind fun e =>
  bif !e then (some ((aJ.mk (aP.mk (aQ.mk ([] : List aI) (aI.mk 0 0) (aI.mk 0 0)) 0 0 0 0) 0 ([] : List bO) false), 1))
  else (bif decide (600 < (c.length : Int)) then (some ((aJ.mk (aP.mk (aQ.mk ([] : List aI) (aI.mk 0 0) (aI.mk 0 0)) 0 0 0 0) 0 ([] : List bO) false), 2))
  else ((qL a b).bind fun f =>
  hC c a BIG 0 (aJ.mk (aP.mk (aQ.mk ([] : List aI) (aI.mk 0 0) (aI.mk 0 0)) 0 0 0 0) 0 ([] : List bO) false) f)))
def rB (a : aN) (b : List aF) (Q : ((List cA) × Int) → Prop) : Prop :=
  jN a b fun c =>
  bif !decide (c.2 = 0) then (Q (([] : List cA), c.2))
  else (nb (c.1) fun d =>
  nb (iZ (S := (List cA)) d (fun e f g =>
  (c.1).bind fun h =>
  (bif !(cO f h.won) then (some (decide (0 ≤ (min g.One g.Two)))) else (some false)).bind fun i =>
  bif i then ((app 32 e ([g])).bind fun j =>
  some j)
  else (some e)) ([] : List cA)) fun k =>
  Q (k, 0))
def rX (a : aN) (b : List aF) : Option ((List cA) × Int) := lP a b
def oE (_ : Int → Int → (List aF) → Option Bool) (a : Int → (List aF) → Option Bool) (_ : Int) (_ : Int) (b : Int) (_ : aN) (_ : bH) (_ : dF) (c : List aF) : Option Bool :=
  a (w64 (b - 1)) c
def gN (a : Int → Int → (List aF) → Option Bool) (b : Int → (List aF) → Option Bool) (c : Int) (d : Int) (e : Int) (f : Bool) (g : aN) (h : bH) (i : dF) (j : List aF) : Option Bool :=
  (bif decide (d = 0) then ((idx g.Slots (w64 (2 * e))).bind fun k =>
  (bif decide (k = (-1)) then (some true) else ((idx g.Slots (w64 ((w64 (2 * e)) + 1))).bind fun l =>
  some (decide (l = (-1))))).bind fun m =>
  some m) else (some false)).bind fun n =>
  bif decide (f = n) then (some false)
  else (oE a b c d e g h i j)
def dO (a : Int → Int → (List aF) → Option Bool) (b : Int → (List aF) → Option Bool) (c : Int) (d : Int) (e : Int) (f : Int) (g : aN) (h : bH) (i : dF) (j : List cA) : Nat → Bool → Int → (List aF) → Option Bool
 | 0, _, _, _ => none
 | w + 1, x, y, z =>
  bif decide (y < (j.length : Int)) then ((idx j y).bind fun k =>
  (bif !decide (k.Round = d) then (some true) else ((idx j y).bind fun l =>
  some (!decide (l.Place = e)))).bind fun m =>
  bif m then ((dO a b c d e f g h i j w) x (w64 (y + 1)) z)
  else ((idx i.First f).bind fun n =>
  (idx i.Points f).bind fun o =>
  (pA h n o).bind fun p =>
  (bif !decide (p.2 = 0) then (some true) else (some (decide (p.1.Winner < 0)))).bind fun q =>
  (bif q then (some true) else (some (decide (1 < p.1.Winner)))).bind fun r =>
  bif r then (some false)
  else ((idx j y).bind fun s =>
  bif decide (p.1.Winner = 1) then ((idx j y).bind fun t =>
  (app 40 z ([(aF.mk 1 d e t.Two 0)])).bind fun u =>
  (dO a b c d e f g h i j w) true (w64 (y + 1)) u)
  else ((app 40 z ([(aF.mk 1 d e s.One 0)])).bind fun v =>
  (dO a b c d e f g h i j w) true (w64 (y + 1)) v))))
  else (gN a b c d e x g h i z)
def oD (a : Int → Int → (List aF) → Option Bool) (b : Int) (c : Int) (_ : aN) (_ : bH) (_ : dF) (d : List aF) : Option Bool :=
  a b (w64 (c + 1)) d
def lH (a : Int → Int → (List aF) → Option Bool) (b : Int) (c : Int) (d : aN) (e : bH) (f : dF) (g : List aF) : Option Bool :=
  (fL d c).bind fun h =>
  oD a (w64 (b + h)) c d e f g
def eL (a : Int → Int → (List aF) → Option Bool) (b : Int) (c : Int) (d : aN) (e : bH) (f : dF) : Nat → Int → (List aF) → Option Bool
 | 0, _, _ => none
 | h + 1, i, j =>
  bif decide (0 ≤ i) then ((rX d j).bind fun g =>
  bif !decide (g.2 = 0) then (some false)
  else (dO a (eL a b c d e f h) b c i (w64 (b + i)) d e f g.1 BIG false 0 j))
  else (lH a b c d e f j)
def lG (a : aN) (b : List aF) : Option Bool :=
  (sY a b).bind fun c =>
  (qK a b (w64 (a.Rounds - 1)) 0).bind fun d =>
  (bif !decide (c.2 = 0) then (some true) else (some (!decide (d.2 = 0)))).bind fun e =>
  (bif e then (some true) else (some (!decide (c.1 = 0)))).bind fun f =>
  bif f then (some false)
  else ((mX a b d.1).bind fun g =>
  (bif decide (g.2 = 0) then (some (decide (g.1 = (dZ.mk a.Rounds a.Rounds)))) else (some false)).bind fun h =>
  (bif h then ((gM).bind fun i =>
  some i) else (some false)).bind fun j =>
  some j)
def dY (a : aN) (b : bH) (c : dF) : Nat → Int → Int → (List aF) → Option Bool
 | 0, _, _, _ => none
 | e + 1, f, g, h =>
  bif decide (g < a.Rounds) then ((fL a g).bind fun d =>
  eL (dY a b c e) f g a b c BIG (w64 (d - 1)) h)
  else (lG a h)
def oC (a : aN) (b : bH) (c : dF) : Option Bool :=
  dY a b c BIG 0 0 ([] : List aF)
def fM (a : aN) (b : bH) (c : dF) : Nat → Int → Option Bool
 | 0, _ => none
 | k + 1, l =>
  bif decide (l < (c.First.length : Int)) then ((idx c.First l).bind fun d =>
  (idx c.Points l).bind fun e =>
  (pP b d e).bind fun f =>
  (bif !decide (f.2 = 0) then (some true) else (some (decide (f.1.Score.Winner < 0)))).bind fun g =>
  (bif g then (some true) else ((idx c.Points l).bind fun h =>
  some (decide (60 < (h.length : Int))))).bind fun i =>
  bif i then ((gM).bind fun j =>
  some j)
  else ((fM a b c k) (w64 (l + 1))))
  else (oC a b c)
def nE (a : aN) (b : bH) (c : dF) : Option Bool :=
  (bif decide (8 < (a.Slots.length : Int)) then (some true) else ((jE a).bind fun d =>
  some (!d))).bind fun e =>
  (bif e then (some true) else (some (!decide ((c.First.length : Int) = (w64 ((a.Slots.length : Int) - 1)))))).bind fun f =>
  (bif f then (some true) else (some (!decide ((c.Points.length : Int) = (c.First.length : Int))))).bind fun g =>
  bif g then ((gM).bind fun h =>
  some h)
  else (fM a b c BIG 0)
end Go.Am
