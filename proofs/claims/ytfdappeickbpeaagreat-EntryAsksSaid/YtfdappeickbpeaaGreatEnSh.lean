/- Shallow functions, printed by program. -/
import Derived.Test.YtfdappeickbpeaaGreatAmFull
import Derived.Test.YtfdappeickbpeaaGreatAmNd
import Derived.Test.YtfdappeickbpeaaGreatAmSort
import Derived.Test.YtfdappeickbpeaaGreatAmSortF
namespace Go.Am
structure aO where
 Id : Int
 Hour : Int
 Kind : Int
 Player : Int
 Rank : Int
 deriving DecidableEq, Inhabited
def aJ (x : aO) : List D := [.lit (.int .i64 x.Id), .lit (.int .i64 x.Hour), .lit (.int .i64 x.Kind), .lit (.int .i64 x.Player), .lit (.int .i64 x.Rank)]
def aHl (x : List aO) : List D := [.sl 5 (x.map aJ)]
structure aT where
 Places : Int
 Wilds : Int
 Guards : Int
 Close : Int
 Freeze : Int
 deriving DecidableEq, Inhabited
def aQ (x : aT) : List D := [.lit (.int .i64 x.Places), .lit (.int .i64 x.Wilds), .lit (.int .i64 x.Guards), .lit (.int .i64 x.Close), .lit (.int .i64 x.Freeze)]
def nS (x : List Int) : List D := [.sl 1 (x.map aH)]
structure aA where
 entered : Bool
 guard : Bool
 rank : Int
 turn : Int
 quit : Bool
 signed : Bool
 wild : Bool
 had : Bool
 deriving DecidableEq, Inhabited
def aG (x : aA) : List D := [.lit (.bool x.entered), .lit (.bool x.guard), .lit (.int .i64 x.rank), .lit (.int .i64 x.turn), .lit (.bool x.quit), .lit (.bool x.signed), .lit (.bool x.wild), .lit (.bool x.had)]
structure aN where
 Field : aT
 players : List (Int × aA)
 wilds : List Int
 frozen : Bool
 first : List Int
 late : List Int
 more : Int
 entered : Int
 deriving DecidableEq, Inhabited
def bC (x : aN) : List D := [.lit (.int .i64 x.Field.Places), .lit (.int .i64 x.Field.Wilds), .lit (.int .i64 x.Field.Guards), .lit (.int .i64 x.Field.Close), .lit (.int .i64 x.Field.Freeze), .mp true (x.players.map fun p : Int × aA => ((fun n : Int => Value.int .i64 n) p.1, aG p.2)), .sl 1 (x.wilds.map aH), .lit (.bool x.frozen), .sl 1 (x.first.map aH), .sl 1 (x.late.map aH), .lit (.int .i64 x.more), .lit (.int .i64 x.entered)]
structure dK where
 Main : List Int
 Wilds : List Int
 Out : List Int
 Open : Int
 deriving DecidableEq, Inhabited
def fP (x : dK) : List D := [.sl 1 (x.Main.map aH), .sl 1 (x.Wilds.map aH), .sl 1 (x.Out.map aH), .lit (.int .i64 x.Open)]
structure aX where
 free : Int
 guarded : Int
 moved : Int
 covered : Int
 deriving DecidableEq, Inhabited
def aY (x : aX) : List D := [.lit (.int .i64 x.free), .lit (.int .i64 x.guarded), .lit (.int .i64 x.moved), .lit (.int .i64 x.covered)]
structure aD where
 Player : Int
 Rank : Int
 Guard : Bool
 Entered : Bool
 Quit : Bool
 Signed : Bool
 Card : Bool
 deriving DecidableEq, Inhabited
def aB (x : aD) : List D := [.lit (.int .i64 x.Player), .lit (.int .i64 x.Rank), .lit (.bool x.Guard), .lit (.bool x.Entered), .lit (.bool x.Quit), .lit (.bool x.Signed), .lit (.bool x.Card)]
structure aK where
 People : List aD
 Wilds : List Int
 Back : Int
 In : List Int
 deriving DecidableEq, Inhabited
def aI (x : aK) : List D := [.sl 7 (x.People.map aB), .sl 1 (x.Wilds.map aH), .lit (.int .i64 x.Back), .sl 1 (x.In.map aH)]
structure pP where
 Hour : Int
 Player : Int
 deriving DecidableEq, Inhabited
def tM (x : pP) : List D := [.lit (.int .i64 x.Hour), .lit (.int .i64 x.Player)]
def aIc (x : aT) : Prop := okI x.Places ∧ okI x.Wilds ∧ okI x.Guards ∧ okI x.Close ∧ okI x.Freeze
def aBc (x : aO) : Prop := okI x.Id ∧ okI x.Hour ∧ okI x.Kind ∧ okI x.Player ∧ okI x.Rank
def yK (x : pP) : Prop := okI x.Hour ∧ okI x.Player
def qN (a : List aO) : Option Bool :=
  (bif decide (20 < (a.length : Int)) then (some (decide ((a.length : Int) ≤ 60))) else (some false)).bind fun b =>
  (bif b then (some true) else (some (decide (100 < (a.length : Int))))).bind fun c =>
  some c
def cS (a : Int) (b : Int) (c : Int) : Option Bool :=
  (bif decide (b ≤ a) then (some (decide (a ≤ c))) else (some false)).bind fun d =>
  some d
def mQ (a : aO) : Option Bool :=
  (cS a.Id 0 999).bind fun b =>
  (bif !b then (some true) else ((cS a.Player 0 999).bind fun c =>
  some (!c))).bind fun d =>
  (bif d then (some true) else ((cS a.Hour 0 9999).bind fun e =>
  some (!e))).bind fun f =>
  bif f then (some false)
  else (bif decide (a.Kind = 1) then ((cS a.Rank 0 9999).bind fun g =>
  some g)
  else (bif decide (a.Kind = 2) then ((cS a.Rank 1 9999).bind fun h =>
  some h)
  else (bif decide (a.Kind = 3) then (bif decide (a.Kind = 3) then (some (decide (a.Rank = 0)))
  else (some false))
  else (bif decide (a.Kind = 4) then (bif decide (a.Kind = 4) then (some (decide (a.Rank = 0)))
  else (some false))
  else (bif decide (a.Kind = 5) then (some (decide (a.Rank = 0)))
  else (some false))))))
def sK (a : Int → Option Int) (_ : List aO) (b : Int) : Option Int :=
  a (w64 (b + 1))
def sL (a : Int → Option Int) (b : List aO) (c : Int) : Option Int :=
  sK a b c
def iN (a : Int → Option Int) (b : List aO) (c : Int) : Nat → Int → Option Int
 | 0, _ => none
 | i + 1, j =>
  bif decide (j < c) then ((idx b j).bind fun d =>
  (idx b c).bind fun e =>
  (bif decide (d.Id = e.Id) then ((idx b j).bind fun f =>
  (idx b c).bind fun g =>
  some (!decide (f = g))) else (some false)).bind fun h =>
  bif h then (some 51)
  else ((iN a b c i) (w64 (j + 1))))
  else (sL a b c)
def sJ : Option Int :=
  some 0
def iM (a : List aO) : Nat → Int → Option Int
 | 0, _ => none
 | d + 1, e =>
  bif decide (e < (a.length : Int)) then ((idx a e).bind fun b =>
  (mQ b).bind fun c =>
  bif !c then (some 51)
  else (iN (iM a d) a e BIG 0))
  else (sJ)
def oQ (a : aT) (b : List aO) : Option Int :=
  (cS a.Places 1 32).bind fun c =>
  (bif !c then (some true) else ((cS a.Wilds 0 32).bind fun d =>
  some (!d))).bind fun e =>
  (bif e then (some true) else ((cS a.Guards 0 32).bind fun f =>
  some (!f))).bind fun g =>
  (bif g then (some true) else ((cS a.Close 0 9999).bind fun h =>
  some (!h))).bind fun i =>
  (bif i then (some true) else ((cS a.Freeze a.Close 9999).bind fun j =>
  some (!j))).bind fun k =>
  bif k then (some 50)
  else (bif decide (60 < (b.length : Int)) then (some 51)
  else (iM b BIG 0))
def eN (a : Int) (b : Int) (c : Int) (d : Int) (e : Int) : Option aO :=
  some (aO.mk a b c d e)
def lG : Option (aT × (List aO)) :=
  (eN 0 1 1 7 50).bind fun a =>
  (eN 1 2 1 8 20).bind fun b =>
  (eN 2 3 2 9 10).bind fun c =>
  (eN 3 4 2 6 30).bind fun d =>
  (eN 4 5 1 5 70).bind fun e =>
  (eN 5 6 1 4 0).bind fun f =>
  (eN 6 11 1 3 1).bind fun g =>
  (eN 7 12 3 7 0).bind fun h =>
  (eN 8 15 4 8 0).bind fun i =>
  (eN 9 21 5 4 0).bind fun j =>
  (eN 10 22 4 5 0).bind fun k =>
  some ((aT.mk 3 1 1 10 20), [a, b, c, d, e, f, g, h, i, j, k])
def cP (a : Int) (b : Int) (c : Int) : Option Bool :=
  (bif decide (b ≤ a) then (some (decide (a ≤ c))) else (some false)).bind fun d =>
  some d
def rX (a : aT) : Option Bool :=
  (cP a.Places 1 32).bind fun b =>
  (bif b then ((cP a.Wilds 0 32).bind fun c =>
  some c) else (some false)).bind fun d =>
  (bif d then ((cP a.Guards 0 32).bind fun e =>
  some e) else (some false)).bind fun f =>
  (bif f then ((cP a.Close 0 9999).bind fun g =>
  some g) else (some false)).bind fun h =>
  (bif h then ((cP a.Freeze a.Close 9999).bind fun i =>
  some i) else (some false)).bind fun j =>
  some j
def qR (a : aO) : Option Bool :=
  bif decide (a.Kind = 1) then ((cP a.Id 0 999).bind fun b =>
  (bif b then ((cP a.Player 0 999).bind fun c =>
  some c) else (some false)).bind fun d =>
  (bif d then ((cP a.Hour 0 9999).bind fun e =>
  some e) else (some false)).bind fun f =>
  (bif f then ((cP a.Rank 0 9999).bind fun g =>
  some g) else (some false)).bind fun h =>
  some h)
  else (bif decide (a.Kind = 2) then ((cP a.Id 0 999).bind fun i =>
  (bif i then ((cP a.Player 0 999).bind fun j =>
  some j) else (some false)).bind fun k =>
  (bif k then ((cP a.Hour 0 9999).bind fun l =>
  some l) else (some false)).bind fun m =>
  (bif m then ((cP a.Rank 1 9999).bind fun n =>
  some n) else (some false)).bind fun o =>
  some o)
  else (bif decide (a.Kind = 3) then (bif decide (a.Kind = 3) then ((cP a.Id 0 999).bind fun p =>
  (bif p then ((cP a.Player 0 999).bind fun q =>
  some q) else (some false)).bind fun r =>
  (bif r then ((cP a.Hour 0 9999).bind fun s =>
  some s) else (some false)).bind fun t =>
  (bif t then ((cP a.Rank 0 0).bind fun u =>
  some u) else (some false)).bind fun v =>
  some v)
  else (some false))
  else (bif decide (a.Kind = 4) then (bif decide (a.Kind = 4) then ((cP a.Id 0 999).bind fun w =>
  (bif w then ((cP a.Player 0 999).bind fun x =>
  some x) else (some false)).bind fun y =>
  (bif y then ((cP a.Hour 0 9999).bind fun z =>
  some z) else (some false)).bind fun a0 =>
  (bif a0 then ((cP a.Rank 0 0).bind fun a1 =>
  some a1) else (some false)).bind fun a2 =>
  some a2)
  else (some false))
  else (bif decide (a.Kind = 5) then ((cP a.Id 0 999).bind fun a3 =>
  (bif a3 then ((cP a.Player 0 999).bind fun a4 =>
  some a4) else (some false)).bind fun a5 =>
  (bif a5 then ((cP a.Hour 0 9999).bind fun a6 =>
  some a6) else (some false)).bind fun a7 =>
  (bif a7 then ((cP a.Rank 0 0).bind fun a8 =>
  some a8) else (some false)).bind fun a9 =>
  some a9)
  else (some false)))))
def wH : Option Int :=
  some 0
def lI (a : List aO) (b : Int) : Nat → Int → (List (Int × aO)) → Option Int
 | 0, _, _ => none
 | g + 1, h, i =>
  bif decide (h < b) then ((idx a h).bind fun c =>
  (qR c).bind fun d =>
  (bif !d then (some true) else ((bif iX c.Id i then (some (!decide ((aL c.Id (aO.mk 0 0 0 0 0) i) = c))) else (some false)).bind fun e =>
  some e)).bind fun f =>
  bif f then (some 51)
  else ((lI a b g) (w64 (h + 1)) (cR c.Id c i)))
  else (wH)
def uM (a : aT) (b : List aO) : Option Int :=
  (rX a).bind fun c =>
  bif !c then (some 50)
  else (bif decide (60 < (b.length : Int)) then (some 51)
  else (lI b (b.length : Int) BIG 0 ([] : List (Int × aO))))
def pC (_ : List aO) : Option Unit :=
  some ()
def jC {S : Type} (_ : S → aO → Option (S × Bool)) (a : S) : Option (S × Bool) :=
  some (a, true)
def dH {S : Type} (a : S → aO → Option (S × Bool)) (b : List aO) (c : Int) : Nat → Int → S → Option (S × Bool)
 | 0, _, _ => none
 | f + 1, g, h =>
  bif decide (g < c) then ((idx b g).bind fun d =>
  (a h d).bind fun e =>
  bif !e.2 then (some e)
  else ((dH a b c f) (w64 (g + 1)) e.1))
  else (jC a h)
def gT {S : Type} (a : S → aO → Option (S × Bool)) (b : List aO) (c : S) : Option (S × Bool) :=
  dH a b (b.length : Int) BIG 0 c
def kM (a : List aO) : Option ((List aO)) :=
  (gT (S := (List aO)) (fun b c =>
  (app 40 b ([c])).bind fun d =>
  some (d, true)) a ([] : List aO)).bind fun e =>
  bif e.2 then (some e.1)
  else (none)
def jP (a : List aO) : Option ((List aO)) :=
  (kM a).bind fun b =>
  some b
def nZ (x : List aO) (a : aO → aO → Option Int) : Option (List aO) := uW x a
def iV (a : List aO) (b : aO → aO → Option Int) : Option ((List aO)) :=
  (jP a).bind fun c =>
  (nZ c b).bind fun d =>
  some d
def uR (a : Int) : Option Int :=
  some a
def pN (a : Int) (b : List Int) (c : Int) : Nat → Int → Option Int
 | 0, _ => none
 | e + 1, f =>
  bif decide (f < c) then ((idx b f).bind fun d =>
  bif !decide (d = a) then (some d)
  else ((pN a b c e) (w64 (f + 1))))
  else (uR a)
def pQ (a : List Int) : Option Int :=
  pN 0 a (a.length : Int) BIG 0
def eZ (a : aO) (b : aO) : Option Int :=
  (pQ ([w64 (a.Hour - b.Hour), w64 (a.Id - b.Id)])).bind fun c =>
  some c
def nD (_ : Int → (List aO) → Option ((List aO))) (a : Int) (b : List aO) : Option ((List aO)) :=
  (chk (decide (0 ≤ a) && decide (a ≤ (b.length : Int)))).bind fun _ =>
  (chk (decide (a.toNat ≤ b.length))).bind fun _ =>
  (chk (decide (0 ≤ a))).bind fun _ =>
  some (b.take a.toNat)
def eC (a : Int → (List aO) → Option ((List aO))) (b : Int) : Nat → Int → Int → (List aO) → Option ((List aO))
 | 0, _, _, _ => none
 | f + 1, g, h, i =>
  bif decide (h < ((i.drop b.toNat).length : Int)) then ((idx (i.drop b.toNat) h).bind fun c =>
  (idx (i.drop b.toNat) (w64 (h - 1))).bind fun d =>
  bif !decide (c = d) then ((idx (i.drop b.toNat) h).bind fun e =>
  (idx i g).bind fun _ =>
  (eC a b f) (w64 (g + 1)) (w64 (h + 1)) (i.set g.toNat e))
  else ((eC a b f) g (w64 (h + 1)) i))
  else (nD a g i)
def nC (a : Int → (List aO) → Option ((List aO))) (b : Int) (c : List aO) : Option ((List aO)) :=
  a (w64 (b + 1)) c
def nB (a : List aO) : Option ((List aO)) :=
  some a
def dL : Nat → Int → (List aO) → Option ((List aO))
 | 0, _, _ => none
 | c + 1, d, e =>
  bif decide (d < (e.length : Int)) then ((idx e d).bind fun a =>
  (idx e (w64 (d - 1))).bind fun b =>
  bif decide (a = b) then ((chk (decide (0 ≤ d) && decide (d ≤ (e.length : Int)))).bind fun _ =>
  eC (dL c) d BIG d 1 e)
  else (nC (dL c) d e))
  else (nB e)
def iK (a : List aO) : Option ((List aO)) :=
  bif decide ((a.length : Int) < 2) then (some a)
  else (dL BIG 1 a)
def fS (a : aN) : Option Int :=
  some (w64 (a.Field.Places + a.more))
def rK (a : Int) : Option Int :=
  some a
def iA (a : aN) (b : List Int) (c : Int) : Nat → Int → Int → Option Int
 | 0, _, _ => none
 | e + 1, f, g =>
  bif decide (g < c) then ((idx b g).bind fun d =>
  bif (aL d (aA.mk false false 0 0 false false false false) a.players).guard then ((iA a b c e) (w64 (f + 1)) (w64 (g + 1)))
  else ((iA a b c e) f (w64 (g + 1))))
  else (rK f)
def kE (a : aN) (b : List Int) : Option Int :=
  iA a b (b.length : Int) BIG 0 0
def iB (a : List (Int × aA)) (b : Int) : Option Bool :=
  (bif (aL b (aA.mk false false 0 0 false false false false) a).entered then (some (!((aL b (aA.mk false false 0 0 false false false false) a).quit))) else (some false)).bind fun c =>
  (bif c then (some (!((aL b (aA.mk false false 0 0 false false false false) a).had))) else (some false)).bind fun d =>
  some d
def tD (x : List Int) (a : Int → Int → Option Int) : Option (List Int) := uW x a
def jG (a : aA) : Option Int :=
  bif decide (a.rank = 0) then (some 1)
  else (some 0)
def fD (a : Int) (b : Int) (c : aN) : Option Int :=
  (jG (aL a (aA.mk false false 0 0 false false false false) c.players)).bind fun d =>
  (jG (aL b (aA.mk false false 0 0 false false false false) c.players)).bind fun e =>
  (pQ ([w64 (d - e), w64 (((aL a (aA.mk false false 0 0 false false false false) c.players).rank) - ((aL b (aA.mk false false 0 0 false false false false) c.players).rank)), w64 (((aL a (aA.mk false false 0 0 false false false false) c.players).turn) - ((aL b (aA.mk false false 0 0 false false false false) c.players).turn))])).bind fun f =>
  some f
def nT (a : ((List Int)) → Prop) (b : aN) (c : List Int) : Prop :=
  nb (tD c (fun d e => fD d e b)) fun f =>
  a f
def iU (a : ((List Int)) → Prop) (b : aN) : Nat → (List Int) → (List (Int × aA)) → Prop
 | 0, _, _ => False
 | g + 1, h, i =>
  aSr i (nT a b h)
  (fun c d =>
  nb (iB b.players c.1) fun e =>
  bif e then (nb (app 8 h ([c.1])) fun f =>
  (iU a b g) f d)
  else ((iU a b g) h d))
def pV (a : aN) (Q : ((List Int)) → Prop) : Prop :=
  aJb a.players fun b =>
  iU Q a BIG ([] : List Int) b
def fH (l : aN) : Option (List Int) := if l.players.length < 4294967296 then uW ((l.players.filter fun p => (iB l.players p.1).getD false).map Prod.fst) (fun a b => fD a b l) else none
def rL (a : List Int) : Option ((List Int)) :=
  some a
def iC (a : aN) (b : List Int) (c : Int) : Nat → Int → (List Int) → Option ((List Int))
 | 0, _, _ => none
 | j + 1, k, l =>
  bif decide (k < c) then ((idx b k).bind fun d =>
  (fS a).bind fun e =>
  (bif decide ((l.length : Int) < e) then ((bif !((aL d (aA.mk false false 0 0 false false false false) a.players).guard) then (some true) else ((kE a l).bind fun f =>
  some (decide (f < a.Field.Guards)))).bind fun g =>
  some g) else (some false)).bind fun h =>
  bif h then ((app 8 l ([d])).bind fun i =>
  (iC a b c j) (w64 (k + 1)) i)
  else ((iC a b c j) (w64 (k + 1)) l))
  else (rL l)
def mE (a : aN) : Option ((List Int)) :=
  (fH a).bind fun b =>
  iC a b (b.length : Int) BIG 0 ([] : List Int)
def mD (a : aN) : Option aN :=
  bif !a.frozen then ((mE a).bind fun b =>
  some (aN.mk a.Field a.players a.wilds true b a.late a.more a.entered))
  else (some a)
def pL : Option Int :=
  some (-1)
def gV (a : List Int) (b : Int → Option Bool) (c : Int) : Nat → Int → Option Int
 | 0, _ => none
 | f + 1, g =>
  bif decide (g < c) then ((idx a g).bind fun d =>
  (b d).bind fun e =>
  bif e then (some g)
  else ((gV a b c f) (w64 (g + 1))))
  else (pL)
def jB (a : List Int) (b : Int → Option Bool) : Option Int :=
  gV a b (a.length : Int) BIG 0
def pB (a : Int) (b : List Int) : Option ((List Int)) :=
  (chk (decide (0 ≤ a) && decide (a ≤ (b.length : Int)))).bind fun _ =>
  (chk (decide (a.toNat ≤ b.length))).bind fun _ =>
  (chk (decide (0 ≤ a))).bind fun _ =>
  some (b.take a.toNat)
def fG (a : Int → Option Bool) : Nat → Int → Int → (List Int) → Option ((List Int))
 | 0, _, _, _ => none
 | d + 1, e, f, g =>
  bif decide (f < (g.length : Int)) then ((idx g f).bind fun b =>
  (a b).bind fun c =>
  bif !c then ((idx g e).bind fun _ =>
  (fG a d) (w64 (e + 1)) (w64 (f + 1)) (g.set e.toNat b))
  else ((fG a d) e (w64 (f + 1)) g))
  else (pB e g)
def cT (a : List Int) (b : Int → Option Bool) : Option ((List Int)) :=
  (jB a b).bind fun c =>
  bif decide (c = (-1)) then (some a)
  else (fG b BIG c (w64 (c + 1)) a)
def fT (a : Int) (b : aO) : Option Bool :=
  some (decide (a = b.Player))
def lU (a : aN) (b : aO) : Option aN :=
  bif decide (b.Kind = 1) then (bif decide (b.Kind = 1) then ((bif decide (b.Hour ≤ a.Field.Close) then (some (!((aL b.Player (aA.mk false false 0 0 false false false false) a.players).entered))) else (some false)).bind fun c =>
  bif c then (some (aN.mk a.Field (cR b.Player (aA.mk true (decide (b.Kind = 2)) b.Rank (w64 (a.entered + 1)) ((aL b.Player (aA.mk false false 0 0 false false false false) a.players).quit) ((aL b.Player (aA.mk false false 0 0 false false false false) a.players).signed) ((aL b.Player (aA.mk false false 0 0 false false false false) a.players).wild) ((aL b.Player (aA.mk false false 0 0 false false false false) a.players).had)) a.players) a.wilds a.frozen a.first a.late a.more (w64 (a.entered + 1))))
  else (some (aN.mk a.Field (cR b.Player (aL b.Player (aA.mk false false 0 0 false false false false) a.players) a.players) a.wilds a.frozen a.first a.late a.more a.entered)))
  else (bif decide (b.Kind = 3) then ((bif decide (b.Hour ≤ a.Field.Freeze) then (some (!((aL b.Player (aA.mk false false 0 0 false false false false) a.players).wild))) else (some false)).bind fun d =>
  (bif d then (some (!((aL b.Player (aA.mk false false 0 0 false false false false) a.players).quit))) else (some false)).bind fun e =>
  (bif e then (some (decide ((a.wilds.length : Int) < a.Field.Wilds))) else (some false)).bind fun f =>
  bif f then ((app 8 a.wilds ([b.Player])).bind fun g =>
  some (aN.mk a.Field (cR b.Player (aA.mk ((aL b.Player (aA.mk false false 0 0 false false false false) a.players).entered) ((aL b.Player (aA.mk false false 0 0 false false false false) a.players).guard) ((aL b.Player (aA.mk false false 0 0 false false false false) a.players).rank) ((aL b.Player (aA.mk false false 0 0 false false false false) a.players).turn) ((aL b.Player (aA.mk false false 0 0 false false false false) a.players).quit) ((aL b.Player (aA.mk false false 0 0 false false false false) a.players).signed) true true) a.players) g a.frozen a.first a.late a.more a.entered))
  else (some (aN.mk a.Field (cR b.Player (aL b.Player (aA.mk false false 0 0 false false false false) a.players) a.players) a.wilds a.frozen a.first a.late a.more a.entered)))
  else (bif decide (b.Kind = 4) then ((bif (aL b.Player (aA.mk false false 0 0 false false false false) a.players).wild then (some (decide (a.Field.Freeze < b.Hour))) else (some false)).bind fun h =>
  bif h then ((cT a.wilds (fun i => fT i b)).bind fun j =>
  some (aN.mk a.Field (cR b.Player (aA.mk ((aL b.Player (aA.mk false false 0 0 false false false false) a.players).entered) ((aL b.Player (aA.mk false false 0 0 false false false false) a.players).guard) ((aL b.Player (aA.mk false false 0 0 false false false false) a.players).rank) ((aL b.Player (aA.mk false false 0 0 false false false false) a.players).turn) true ((aL b.Player (aA.mk false false 0 0 false false false false) a.players).signed) false ((aL b.Player (aA.mk false false 0 0 false false false false) a.players).had)) a.players) j a.frozen a.first a.late (w64 (a.more + 1)) a.entered))
  else ((cT a.wilds (fun k => fT k b)).bind fun l =>
  some (aN.mk a.Field (cR b.Player (aA.mk ((aL b.Player (aA.mk false false 0 0 false false false false) a.players).entered) ((aL b.Player (aA.mk false false 0 0 false false false false) a.players).guard) ((aL b.Player (aA.mk false false 0 0 false false false false) a.players).rank) ((aL b.Player (aA.mk false false 0 0 false false false false) a.players).turn) true ((aL b.Player (aA.mk false false 0 0 false false false false) a.players).signed) false ((aL b.Player (aA.mk false false 0 0 false false false false) a.players).had)) a.players) l a.frozen a.first a.late a.more a.entered)))
  else (bif decide (b.Kind = 5) then (some (aN.mk a.Field (cR b.Player (aA.mk ((aL b.Player (aA.mk false false 0 0 false false false false) a.players).entered) ((aL b.Player (aA.mk false false 0 0 false false false false) a.players).guard) ((aL b.Player (aA.mk false false 0 0 false false false false) a.players).rank) ((aL b.Player (aA.mk false false 0 0 false false false false) a.players).turn) ((aL b.Player (aA.mk false false 0 0 false false false false) a.players).quit) true ((aL b.Player (aA.mk false false 0 0 false false false false) a.players).wild) ((aL b.Player (aA.mk false false 0 0 false false false false) a.players).had)) a.players) a.wilds a.frozen a.first a.late a.more a.entered))
  else (some (aN.mk a.Field (cR b.Player (aL b.Player (aA.mk false false 0 0 false false false false) a.players) a.players) a.wilds a.frozen a.first a.late a.more a.entered))))))
  else (bif decide (b.Kind = 2) then ((bif decide (b.Hour ≤ a.Field.Close) then (some (!((aL b.Player (aA.mk false false 0 0 false false false false) a.players).entered))) else (some false)).bind fun m =>
  bif m then (some (aN.mk a.Field (cR b.Player (aA.mk true (decide (b.Kind = 2)) b.Rank (w64 (a.entered + 1)) ((aL b.Player (aA.mk false false 0 0 false false false false) a.players).quit) ((aL b.Player (aA.mk false false 0 0 false false false false) a.players).signed) ((aL b.Player (aA.mk false false 0 0 false false false false) a.players).wild) ((aL b.Player (aA.mk false false 0 0 false false false false) a.players).had)) a.players) a.wilds a.frozen a.first a.late a.more (w64 (a.entered + 1))))
  else (some (aN.mk a.Field (cR b.Player (aL b.Player (aA.mk false false 0 0 false false false false) a.players) a.players) a.wilds a.frozen a.first a.late a.more a.entered)))
  else (bif decide (b.Kind = 3) then ((bif decide (b.Hour ≤ a.Field.Freeze) then (some (!((aL b.Player (aA.mk false false 0 0 false false false false) a.players).wild))) else (some false)).bind fun n =>
  (bif n then (some (!((aL b.Player (aA.mk false false 0 0 false false false false) a.players).quit))) else (some false)).bind fun o =>
  (bif o then (some (decide ((a.wilds.length : Int) < a.Field.Wilds))) else (some false)).bind fun p =>
  bif p then ((app 8 a.wilds ([b.Player])).bind fun q =>
  some (aN.mk a.Field (cR b.Player (aA.mk ((aL b.Player (aA.mk false false 0 0 false false false false) a.players).entered) ((aL b.Player (aA.mk false false 0 0 false false false false) a.players).guard) ((aL b.Player (aA.mk false false 0 0 false false false false) a.players).rank) ((aL b.Player (aA.mk false false 0 0 false false false false) a.players).turn) ((aL b.Player (aA.mk false false 0 0 false false false false) a.players).quit) ((aL b.Player (aA.mk false false 0 0 false false false false) a.players).signed) true true) a.players) q a.frozen a.first a.late a.more a.entered))
  else (some (aN.mk a.Field (cR b.Player (aL b.Player (aA.mk false false 0 0 false false false false) a.players) a.players) a.wilds a.frozen a.first a.late a.more a.entered)))
  else (bif decide (b.Kind = 4) then ((bif (aL b.Player (aA.mk false false 0 0 false false false false) a.players).wild then (some (decide (a.Field.Freeze < b.Hour))) else (some false)).bind fun r =>
  bif r then ((cT a.wilds (fun s => fT s b)).bind fun t =>
  some (aN.mk a.Field (cR b.Player (aA.mk ((aL b.Player (aA.mk false false 0 0 false false false false) a.players).entered) ((aL b.Player (aA.mk false false 0 0 false false false false) a.players).guard) ((aL b.Player (aA.mk false false 0 0 false false false false) a.players).rank) ((aL b.Player (aA.mk false false 0 0 false false false false) a.players).turn) true ((aL b.Player (aA.mk false false 0 0 false false false false) a.players).signed) false ((aL b.Player (aA.mk false false 0 0 false false false false) a.players).had)) a.players) t a.frozen a.first a.late (w64 (a.more + 1)) a.entered))
  else ((cT a.wilds (fun u => fT u b)).bind fun v =>
  some (aN.mk a.Field (cR b.Player (aA.mk ((aL b.Player (aA.mk false false 0 0 false false false false) a.players).entered) ((aL b.Player (aA.mk false false 0 0 false false false false) a.players).guard) ((aL b.Player (aA.mk false false 0 0 false false false false) a.players).rank) ((aL b.Player (aA.mk false false 0 0 false false false false) a.players).turn) true ((aL b.Player (aA.mk false false 0 0 false false false false) a.players).signed) false ((aL b.Player (aA.mk false false 0 0 false false false false) a.players).had)) a.players) v a.frozen a.first a.late a.more a.entered)))
  else (bif decide (b.Kind = 5) then (some (aN.mk a.Field (cR b.Player (aA.mk ((aL b.Player (aA.mk false false 0 0 false false false false) a.players).entered) ((aL b.Player (aA.mk false false 0 0 false false false false) a.players).guard) ((aL b.Player (aA.mk false false 0 0 false false false false) a.players).rank) ((aL b.Player (aA.mk false false 0 0 false false false false) a.players).turn) ((aL b.Player (aA.mk false false 0 0 false false false false) a.players).quit) true ((aL b.Player (aA.mk false false 0 0 false false false false) a.players).wild) ((aL b.Player (aA.mk false false 0 0 false false false false) a.players).had)) a.players) a.wilds a.frozen a.first a.late a.more a.entered))
  else (some (aN.mk a.Field (cR b.Player (aL b.Player (aA.mk false false 0 0 false false false false) a.players) a.players) a.wilds a.frozen a.first a.late a.more a.entered))))))
def gR (a : Int) (b : List (Int × aA)) : Option Bool :=
  (iB b a).bind fun c =>
  some (!c)
def qC (a : Int) : Option ((List Int)) :=
  bif decide (a < 0) then (none)
  else (bif decide (0 < (w64 (a - (w64 (0 - 0))))) then ((chk (decide (0 ≤ 0))).bind fun _ =>
  (chk (decide (0 < (w64 (a - (w64 (0 - 0))))) && decide ((w64 (a - (w64 (0 - 0)))) * ((8 : Nat) : Int) ≤ 140737488355328))).bind fun _ =>
  (chk (decide (0 ≤ 0))).bind fun _ =>
  some ([] : List Int))
  else (some ([] : List Int)))
def wA (a : List Int) : Option ((List Int)) :=
  some a
def iE (a : List (List Int)) (b : Int) : Nat → Int → (List Int) → Option ((List Int))
 | 0, _, _ => none
 | e + 1, f, g =>
  bif decide (f < b) then ((idx a f).bind fun c =>
  (app 8 g c).bind fun d =>
  (iE a b e) (w64 (f + 1)) d)
  else (wA g)
def rR (a : List (List Int)) (b : Int) : Option ((List Int)) :=
  (qC b).bind fun c =>
  iE a (a.length : Int) BIG 0 c
def jA (a : List (List Int)) (b : List (List Int)) (c : Int) : Nat → Int → Int → Option ((List Int))
 | 0, _, _ => none
 | e + 1, f, g =>
  bif decide (g < c) then ((idx b g).bind fun d =>
  bif decide ((w64 (f + (d.length : Int))) < 0) then (none)
  else ((jA a b c e) (w64 (f + (d.length : Int))) (w64 (g + 1))))
  else (rR a f)
def oE (a : List (List Int)) : Option ((List Int)) :=
  jA a a (a.length : Int) BIG 0 0
def eL (a : aN) : Option ((List Int)) :=
  bif !a.frozen then ((mE a).bind fun b =>
  some b)
  else ((oE ([a.first, a.late])).bind fun c =>
  some c)
def pJ : Option Int :=
  some (-1)
def fO (a : List Int) (b : Int) (c : Int) : Nat → Int → Option Int
 | 0, _ => none
 | e + 1, f =>
  bif decide (f < c) then ((idx a f).bind fun d =>
  bif decide (b = d) then (some f)
  else ((fO a b c e) (w64 (f + 1))))
  else (pJ)
def kA (a : List Int) (b : Int) : Option Int :=
  fO a b (a.length : Int) BIG 0
def fN (a : List Int) (b : Int) : Option Bool :=
  (kA a b).bind fun c =>
  some (decide (0 ≤ c))
def mC (a : Int) (b : aN) (c : List Int) : Option Bool :=
  (bif (aL a (aA.mk false false 0 0 false false false false) b.players).signed then ((fN c a).bind fun d =>
  some (!d)) else (some false)).bind fun e =>
  (bif e then ((bif !((aL a (aA.mk false false 0 0 false false false false) b.players).guard) then (some true) else ((kE b c).bind fun f =>
  some (decide (f < b.Field.Guards)))).bind fun g =>
  some g) else (some false)).bind fun h =>
  some h
def pW (a : List (Int × aA)) (b : List Int) (c : List Int) (d : List Int) (e : aT) (f : Bool) (g : Int) (h : Int) : Option aN :=
  some (aN.mk e a b f c d g h)
def jW (a : List (Int × aA)) (b : List Int) (c : List Int) : Nat → (List Int) → aT → Bool → Int → Int → (List Int) → Option aN
 | 0, _, _, _, _, _, _ => none
 | l + 1, m, n, o, p, q, r =>
  (fS (aN.mk n a b o c m p q)).bind fun d =>
  bif decide ((r.length : Int) < d) then ((fH (aN.mk n a b o c m p q)).bind fun e =>
  (jB e (fun f => mC f (aN.mk n a b o c m p q) r)).bind fun g =>
  bif decide (g < 0) then (some (aN.mk n a b o c m p q))
  else ((fH (aN.mk n a b o c m p q)).bind fun h =>
  (idx h g).bind fun i =>
  (app 8 m ([i])).bind fun j =>
  (eL (aN.mk n a b o c j p q)).bind fun k =>
  (jW a b c l) j n o p q k))
  else (pW a b c m n o p q)
def lT (a : aN) : Option aN :=
  (cT a.first (fun b => gR b a.players)).bind fun c =>
  (cT a.late (fun d => gR d a.players)).bind fun e =>
  (eL (aN.mk a.Field a.players a.wilds a.frozen c e a.more a.entered)).bind fun f =>
  jW a.players a.wilds c BIG e a.Field a.frozen a.more a.entered f
def oO (a : Int) (b : aT) (c : List (Int × aA)) (d : List Int) (e : List Int) (f : List Int) (g : aT) (h : Bool) (i : Int) (j : Int) : Option ((Option aN)) :=
  bif decide (b.Freeze < a) then ((mD (aN.mk g c d h e f i j)).bind fun k =>
  some (some k))
  else (some (some (aN.mk g c d h e f i j)))
def gY (a : Int) (b : Int) (c : aT) (d : List aO) : Nat → Int → (List (Int × aA)) → (List Int) → (List Int) → (List Int) → aT → Bool → Int → Int → Option ((Option aN))
 | 0, _, _, _, _, _, _, _, _, _ => none
 | k + 1, l, m, n, o, p, q, r, s, t =>
  bif decide (l < b) then ((idx d l).bind fun e =>
  bif decide (a < e.Hour) then (oO a c m n o p q r s t)
  else (bif decide (c.Freeze < e.Hour) then ((mD (aN.mk q m n r o p s t)).bind fun f =>
  (lU f e).bind fun g =>
  bif g.frozen then ((lT g).bind fun h =>
  (gY a b c d k) (w64 (l + 1)) h.players h.wilds h.first h.late h.Field h.frozen h.more h.entered)
  else ((gY a b c d k) (w64 (l + 1)) g.players g.wilds g.first g.late g.Field g.frozen g.more g.entered))
  else ((lU (aN.mk q m n r o p s t) e).bind fun i =>
  bif i.frozen then ((lT i).bind fun j =>
  (gY a b c d k) (w64 (l + 1)) j.players j.wilds j.first j.late j.Field j.frozen j.more j.entered)
  else ((gY a b c d k) (w64 (l + 1)) i.players i.wilds i.first i.late i.Field i.frozen i.more i.entered))))
  else (oO a c m n o p q r s t)
def sE (a : aT) (b : List aO) (c : Int) : Option ((Option aN)) :=
  (pC b).bind fun _ =>
  (iV b (fun d e => eZ d e)).bind fun f =>
  (iK f).bind fun g =>
  gY c (g.length : Int) a g BIG 0 ([] : List (Int × aA)) ([] : List Int) ([] : List Int) ([] : List Int) a false 0 0
def pX (a : aT) (b : List aO) (c : Int) (d : Int) : Option ((Option aN) × Int) :=
  (uM a b).bind fun e =>
  bif !decide (e = 0) then (some ((none : Option aN), e))
  else ((cP c 0 9999).bind fun f =>
  (bif !f then (some true) else ((cP d 0 999).bind fun g =>
  some (!g))).bind fun h =>
  bif h then (some ((none : Option aN), 1))
  else ((sE a b c).bind fun i =>
  some (i, 0)))
def mY (a : Int) (b : List Int) : Option Bool :=
  (fN b a).bind fun c =>
  some c
def kC (a : aN) : Option ((List Int)) :=
  (eL a).bind fun b =>
  (fH a).bind fun c =>
  (cT c (fun d => mY d b)).bind fun e =>
  some e
def uG (a : aT) (b : List aO) (c : Int) : Option (dK × Int) :=
  (pX a b c 0).bind fun d =>
  bif !decide (d.2 = 0) then (some ((dK.mk ([] : List Int) ([] : List Int) ([] : List Int) 0), d.2))
  else ((d.1).bind fun e =>
  (eL e).bind fun f =>
  (d.1).bind fun g =>
  (kC g).bind fun h =>
  (fS g).bind fun i =>
  some ((dK.mk f g.wilds h (w64 (i - (f.length : Int)))), 0))
def sY : Option (Int × Int) :=
  some (0, 0)
def kS (a : Int) (b : List (List Int)) (c : Int) : Nat → Int → Option (Int × Int)
 | 0, _ => none
 | f + 1, g =>
  bif decide (g < c) then ((idx b g).bind fun d =>
  (kA d a).bind fun e =>
  bif decide (0 ≤ e) then (some (w64 (g + 1), w64 (e + 1)))
  else ((kS a b c f) (w64 (g + 1))))
  else (sY)
def mZ (a : aN) (b : Int) : Option (Int × Int) :=
  (eL a).bind fun c =>
  (kC a).bind fun d =>
  kS b ([c, a.wilds, d]) (([c, a.wilds, d]).length : Int) BIG 0
def kR (a : Int) (b : aN) : Option Bool :=
  some (!((aL a (aA.mk false false 0 0 false false false false) b.players).signed))
def jF (a : aX → aX → Option (aX × Bool)) (_ : aN) (_ : List Int) (_ : Int) (b : aX) (c : aX) : Option (aX × Bool) :=
  a b c
def fA (a : aX → aX → Option (aX × Bool)) (b : aN) (c : List Int) (d : Int) (e : Bool) (f : aX) (g : aX) : Option (aX × Bool) :=
  bif !e then (some (f, false))
  else (jF a b c d f g)
def eJ (a : aX → aX → Option (aX × Bool)) (b : aN) (c : List Int) (d : Int) (e : List Int) (f : Int) : Nat → Int → Int → Bool → Int → aX → aX → Option (aX × Bool)
 | 0, _, _, _, _, _, _ => none
 | k + 1, l, m, n, o, p, q =>
  bif decide (o < f) then ((idx e o).bind fun g =>
  (bif (aL g (aA.mk false false 0 0 false false false false) b.players).guard then (some (decide (m < p.covered))) else (some false)).bind fun h =>
  bif h then ((eJ a b c d e f k) l (w64 (m + 1)) n (w64 (o + 1)) p q)
  else ((bif !((aL g (aA.mk false false 0 0 false false false false) b.players).guard) then (some (decide (l < p.moved))) else (some false)).bind fun i =>
  bif i then ((eJ a b c d e f k) (w64 (l + 1)) m n (w64 (o + 1)) p q)
  else ((bif (aL g (aA.mk false false 0 0 false false false false) b.players).guard then (some (decide (b.Field.Guards ≤ p.guarded))) else (some false)).bind fun j =>
  bif j then ((eJ a b c d e f k) l m n (w64 (o + 1)) p q)
  else (bif decide (g = d) then (some (p, true))
  else (bif (aL g (aA.mk false false 0 0 false false false false) b.players).guard then (fA a b c d true (aX.mk p.free (w64 (p.guarded + 1)) p.moved (w64 (p.covered + 1))) q)
  else (fA a b c d true (aX.mk (w64 (p.free + 1)) p.guarded (w64 (p.moved + 1)) p.covered) q))))))
  else (fA a b c d n p q)
def uN (a : aX) (_ : aX) : Option (aX × Bool) :=
  some (a, false)
def fB (a : aN) (b : List Int) (c : Int) : Nat → aX → aX → Option (aX × Bool)
 | 0, _, _ => none
 | e + 1, f, g =>
  (fS a).bind fun d =>
  bif decide ((w64 (f.free + f.guarded)) < d) then (eJ (fB a b c e) a b c b (b.length : Int) BIG 0 0 false 0 f g)
  else (uN f g)
def jM (a : aX) (b : aN) (c : List Int) (d : Int) : Option (aX × Bool) :=
  fB b c d BIG a (aX.mk 0 0 0 0)
def rH (_ : (List aX) → Int → (List (aX × Int)) → Option Int) (a : Int → (List aX) → (List (aX × Int)) → Option Int) (_ : aN) (_ : List Int) (_ : Int) (_ : Int) (_ : List aX) (_ : Int) (b : Int) (c : List aX) (d : List (aX × Int)) : Option Int :=
  a (w64 (b + 1)) c d
def rI (a : (List aX) → Int → (List (aX × Int)) → Option Int) (b : Int → (List aX) → (List (aX × Int)) → Option Int) (c : aN) (d : List Int) (e : Int) (f : Int) (g : List aX) (h : Int) (i : Int) (j : List aX) (k : List (aX × Int)) : Option Int :=
  rH a b c d e f g h i j k
def cH (a : (List aX) → Int → (List (aX × Int)) → Option Int) (b : Int → (List aX) → (List (aX × Int)) → Option Int) (c : aN) (d : List Int) (e : Int) (f : Int) (g : List aX) (h : Int) (i : Int) (j : aX) : Nat → Int → (List aX) → (List (aX × Int)) → Option Int
 | 0, _, _, _ => none
 | q + 1, r, s, t =>
  bif decide (r < 2) then (bif decide (r = 1) then ((bif decide ((w64 (j.guarded - 1)) < 0) then (some true) else (some (decide (j.free < 0)))).bind fun k =>
  bif k then ((cH a b c d e f g h i j q) (w64 (r + 1)) s t)
  else ((jM (aX.mk j.free (w64 (j.guarded - 1)) j.moved j.covered) c d e).bind fun l =>
  bif l.2 then (some f)
  else (bif decide ((aL l.1 0 (cR l.1 (w64 ((aL l.1 0 t) + 1)) t)) = 1) then ((app 32 s ([l.1])).bind fun m =>
  (cH a b c d e f g h i j q) (w64 (r + 1)) m (cR l.1 (w64 ((aL l.1 0 t) + 1)) t))
  else ((cH a b c d e f g h i j q) (w64 (r + 1)) s (cR l.1 (w64 ((aL l.1 0 t) + 1)) t)))))
  else ((bif decide (j.guarded < 0) then (some true) else (some (decide ((w64 (j.free - 1)) < 0)))).bind fun n =>
  bif n then ((cH a b c d e f g h i j q) (w64 (r + 1)) s t)
  else ((jM (aX.mk (w64 (j.free - 1)) j.guarded j.moved j.covered) c d e).bind fun o =>
  bif o.2 then (some f)
  else (bif decide ((aL o.1 0 (cR o.1 (w64 ((aL o.1 0 t) + 1)) t)) = 1) then ((app 32 s ([o.1])).bind fun p =>
  (cH a b c d e f g h i j q) (w64 (r + 1)) p (cR o.1 (w64 ((aL o.1 0 t) + 1)) t))
  else ((cH a b c d e f g h i j q) (w64 (r + 1)) s (cR o.1 (w64 ((aL o.1 0 t) + 1)) t))))))
  else (rI a b c d e f g h i s t)
def rF (a : (List aX) → Int → (List (aX × Int)) → Option Int) (_ : aN) (_ : List Int) (_ : Int) (b : Int) (c : List aX) (d : List (aX × Int)) : Option Int :=
  a c (w64 (b + 1)) d
def rG (a : (List aX) → Int → (List (aX × Int)) → Option Int) (b : aN) (c : List Int) (d : Int) (e : Int) (f : List aX) (g : List (aX × Int)) : Option Int :=
  rF a b c d e f g
def fC (a : (List aX) → Int → (List (aX × Int)) → Option Int) (b : aN) (c : List Int) (d : Int) (e : Int) (f : List aX) (g : Int) : Nat → Int → (List aX) → (List (aX × Int)) → Option Int
 | 0, _, _, _ => none
 | i + 1, j, k, l =>
  bif decide (j < g) then ((idx f j).bind fun h =>
  cH a (fC a b c d e f g i) b c d e f g j h BIG 0 k l)
  else (rG a b c d e k l)
def vQ : Option Int :=
  some 61
def fX (a : aN) (b : List Int) (c : Int) : Nat → (List aX) → Int → (List (aX × Int)) → Option Int
 | 0, _, _, _ => none
 | d + 1, e, f, g =>
  bif decide (0 < (e.length : Int)) then (fC (fX a b c d) a b c f e (e.length : Int) BIG 0 ([] : List aX) g)
  else (vQ)
def mB (a : aN) (b : Int) : Option Int :=
  (eL a).bind fun c =>
  (kE a c).bind fun d =>
  (kC a).bind fun e =>
  (cT e (fun f => kR f a)).bind fun g =>
  fX a g b BIG ([(aX.mk (w64 ((c.length : Int) - d)) d 0 0)]) 1 ([] : List (aX × Int))
def oI (a : Int → Int → Option Int) (_ : aN) (_ : Int) (_ : Int) (_ : Int) (b : Int) (_ : Int) (c : Int) : Option Int :=
  a b (w64 (c + 1))
def oJ (a : Int → Int → Option Int) (b : aN) (c : Int) (d : Int) (e : Int) (f : Int) (g : Int) (h : Int) : Option Int :=
  oI a b c d e f g h
def eK (a : Int → Int → Option Int) (b : aN) (c : Int) (d : Int) (e : Int) (f : Int) (g : Int) (h : Int) (i : Int) : Nat → Int → Int → Option Int
 | 0, _, _ => none
 | m + 1, n, o =>
  bif decide (o < i) then ((fS b).bind fun j =>
  (bif decide ((w64 ((w64 (d - f)) + (min (w64 (e - o)) b.Field.Guards))) < j) then ((bif !((aL c (aA.mk false false 0 0 false false false false) b.players).guard) then (some true) else (some (decide ((min (w64 (e - o)) b.Field.Guards) < b.Field.Guards)))).bind fun k =>
  some k) else (some false)).bind fun l =>
  bif l then ((eK a b c d e f g h i m) (min n (w64 (f + o))) (w64 (o + 1)))
  else ((eK a b c d e f g h i m) n (w64 (o + 1))))
  else (oJ a b c d e n g h)
def oH (a : Int) : Option Int :=
  some a
def dX (a : aN) (b : Int) (c : Int) (d : Int) (e : Int) : Nat → Int → Int → Option Int
 | 0, _, _ => none
 | f + 1, g, h =>
  bif decide (h < e) then (eK (dX a b c d e f) a b c d h e h (w64 (d + 1)) BIG g 0)
  else (oH g)
def hM (a : aN) (b : Int) (c : Int) (d : Int) : Option Int :=
  dX a b c d (w64 (c + 1)) BIG 61 0
def fW (a : aN) (b : Int) (c : List Int) (d : Int) : Nat → Int → Int → Int → Option Int
 | 0, _, _, _ => none
 | f + 1, g, h, i =>
  bif decide (i < d) then ((idx c i).bind fun e =>
  bif decide (e = b) then (hM a b g h)
  else (bif (aL e (aA.mk false false 0 0 false false false false) a.players).guard then ((fW a b c d f) g (w64 (h + 1)) (w64 (i + 1)))
  else ((fW a b c d f) (w64 (g + 1)) h (w64 (i + 1)))))
  else (hM a b g h)
def jI (a : aN) (b : Int) : Option Int :=
  (fH a).bind fun c =>
  fW a b c (c.length : Int) BIG 0 0 0
def kT (a : aT) (b : List aO) (c : Int) (d : Int) : Option (Int × Int) :=
  (pX a b c d).bind fun e =>
  bif !decide (e.2 = 0) then (some (0, e.2))
  else ((e.1).bind fun f =>
  (mZ f d).bind fun g =>
  bif decide (g.1 = 1) then (bif decide (0 = 61) then (some (0, 3))
  else (some (0, 0)))
  else ((bif decide (g.1 = 3) then ((e.1).bind fun h =>
  some h.frozen) else (some false)).bind fun i =>
  bif i then ((e.1).bind fun j =>
  (mB j d).bind fun k =>
  bif decide (k = 61) then (some (0, 3))
  else (some (k, 0)))
  else (bif decide (g.1 = 3) then ((e.1).bind fun l =>
  (jI l d).bind fun m =>
  bif decide (m = 61) then (some (0, 3))
  else (some (m, 0)))
  else (bif decide (61 = 61) then (some (0, 3))
  else (some (61, 0))))))
def slices_Sort_int (x : List Int) : Option (List Int) := if x.length < 4611686018427387904 then some (rT x) else none
def qX (_ : Int → (List Int) → Option ((List Int))) (a : Int) (b : List Int) : Option ((List Int)) :=
  (chk (decide (0 ≤ a) && decide (a ≤ (b.length : Int)))).bind fun _ =>
  (chk (decide (a.toNat ≤ b.length))).bind fun _ =>
  (chk (decide (0 ≤ a))).bind fun _ =>
  some (b.take a.toNat)
def gP (a : Int → (List Int) → Option ((List Int))) (b : Int) : Nat → Int → Int → (List Int) → Option ((List Int))
 | 0, _, _, _ => none
 | f + 1, g, h, i =>
  bif decide (h < ((i.drop b.toNat).length : Int)) then ((idx (i.drop b.toNat) h).bind fun c =>
  (idx (i.drop b.toNat) (w64 (h - 1))).bind fun d =>
  bif !decide (c = d) then ((idx (i.drop b.toNat) h).bind fun e =>
  (idx i g).bind fun _ =>
  (gP a b f) (w64 (g + 1)) (w64 (h + 1)) (i.set g.toNat e))
  else ((gP a b f) g (w64 (h + 1)) i))
  else (qX a g i)
def qW (a : Int → (List Int) → Option ((List Int))) (b : Int) (c : List Int) : Option ((List Int)) :=
  a (w64 (b + 1)) c
def qV (a : List Int) : Option ((List Int)) :=
  some a
def eT : Nat → Int → (List Int) → Option ((List Int))
 | 0, _, _ => none
 | c + 1, d, e =>
  bif decide (d < (e.length : Int)) then ((idx e d).bind fun a =>
  (idx e (w64 (d - 1))).bind fun b =>
  bif decide (a = b) then ((chk (decide (0 ≤ d) && decide (d ≤ (e.length : Int)))).bind fun _ =>
  gP (eT c) d BIG d 1 e)
  else (qW (eT c) d e))
  else (qV e)
def nQ (a : List Int) : Option ((List Int)) :=
  bif decide ((a.length : Int) < 2) then (some a)
  else (eT BIG 1 a)
def yD : Option (Int × Int) :=
  some (0, 3)
def nX (a : List aO) (b : Int) (c : Int) (d : aT) (e : List Int) : Nat → Int → Option (Int × Int)
 | 0, _ => none
 | k + 1, l =>
  bif decide (l < c) then ((idx e l).bind fun f =>
  (sE d a f).bind fun g =>
  (g).bind fun h =>
  (mZ h b).bind fun i =>
  (bif decide (i.1 = 1) then (some true) else (some (decide (i.1 = 2)))).bind fun j =>
  bif j then (some (f, 0))
  else ((nX a b c d e k) (w64 (l + 1))))
  else (yD)
def uS (a : List aO) (b : Int) (c : aT) (d : List Int) : Option (Int × Int) :=
  (slices_Sort_int d).bind fun e =>
  (nQ e).bind fun f =>
  nX a b (f.length : Int) c f BIG 0
def nW (a : List aO) (b : Int) (c : List aO) (d : Int) (e : aT) : Nat → Int → (List Int) → Option (Int × Int)
 | 0, _, _ => none
 | h + 1, i, j =>
  bif decide (i < d) then ((idx c i).bind fun f =>
  (app 8 j ([f.Hour])).bind fun g =>
  (nW a b c d e h) (w64 (i + 1)) g)
  else (uS a b e j)
def nJ (a : aT) (b : List aO) (c : Int) : Option (Int × Int) :=
  (pX a b 0 c).bind fun d =>
  bif !decide (d.2 = 0) then (some (0, d.2))
  else (nW b c b (b.length : Int) a BIG 0 ([] : List Int))
def uK : Option Bool :=
  some true
def nF (a : List Int) (b : List Int) : Nat → Int → Option Bool
 | 0, _ => none
 | e + 1, f =>
  bif decide (f < (a.length : Int)) then ((idx a f).bind fun c =>
  (idx b f).bind fun d =>
  bif !decide (c = d) then (some false)
  else ((nF a b e) (w64 (f + 1))))
  else (uK)
def mN (a : List Int) (b : List Int) : Option Bool :=
  bif !decide ((a.length : Int) = (b.length : Int)) then (some false)
  else (nF a b BIG 0)
def mV : Option Bool :=
  (lG).bind fun a =>
  (uG a.1 a.2 12).bind fun b =>
  (kT a.1 a.2 10 4).bind fun c =>
  (nJ a.1 a.2 4).bind fun d =>
  (bif decide (b.2 = 0) then (some (decide (c.2 = 0))) else (some false)).bind fun e =>
  (bif e then (some (decide (d.2 = 0))) else (some false)).bind fun f =>
  (bif f then (some (decide (c.1 = 2))) else (some false)).bind fun g =>
  (bif g then (some (decide (d.1 = 15))) else (some false)).bind fun h =>
  (bif h then ((mN b.1.Main ([9, 8, 5])).bind fun i =>
  some i) else (some false)).bind fun j =>
  (bif j then ((mN b.1.Wilds ([7])).bind fun k =>
  some k) else (some false)).bind fun l =>
  (bif l then ((mN b.1.Out ([6, 4])).bind fun m =>
  some m) else (some false)).bind fun n =>
  some n
def lD (a : aT) (b : List aO) (c : Int) (d : Int) : Option Int :=
  (oQ a b).bind fun e =>
  bif !decide (e = 0) then (some e)
  else ((cS c 0 9999).bind fun f =>
  (bif !f then (some true) else ((cS d 0 999).bind fun g =>
  some (!g))).bind fun h =>
  bif h then (some 1)
  else (some 0))
def kQ (a : Int → (List aO) → Option ((List aO))) (_ : List aO) (b : Int) (c : List aO) : Option ((List aO)) :=
  a (w64 (b + 1)) c
def sV (a : Int → (List aO) → Option ((List aO))) (b : List aO) (c : Int) (d : List aO) : Option ((List aO)) :=
  kQ a b c d
def jL (a : Int → (List aO) → Option ((List aO))) (b : List aO) (c : Int) (d : Int) : Nat → Int → (List aO) → Option ((List aO))
 | 0, _, _ => none
 | g + 1, h, i =>
  bif decide (d < h) then ((idx i (w64 (h - 1))).bind fun e =>
  (idx i h).bind fun f =>
  (idx i h).bind fun _ =>
  (idx (i.set h.toNat e) (w64 (h - 1))).bind fun _ =>
  (jL a b c d g) (w64 (h - 1)) ((i.set h.toNat e).set (w64 (h - 1)).toNat f))
  else (sV a b c i)
def pG (a : Int → (List aO) → Option ((List aO))) (b : List aO) (c : Int) (d : Int) (e : Bool) (f : List aO) : Option ((List aO)) :=
  bif e then (kQ a b c f)
  else ((idx b c).bind fun g =>
  (app 40 f ([g])).bind fun h =>
  jL a b c d BIG (w64 ((h.length : Int) - 1)) h)
def iQ (a : Int → (List aO) → Option ((List aO))) (b : List aO) (c : Int) (d : List aO) : Nat → Int → Bool → Int → Option ((List aO))
 | 0, _, _, _ => none
 | p + 1, q, r, s =>
  bif decide (0 ≤ s) then ((bif r then (some true) else ((idx d s).bind fun e =>
  (idx b c).bind fun f =>
  some (decide (e = f)))).bind fun g =>
  (idx b c).bind fun h =>
  (idx d s).bind fun i =>
  (bif decide (h.Hour < i.Hour) then (some true) else ((idx b c).bind fun j =>
  (idx d s).bind fun k =>
  (bif decide (j.Hour = k.Hour) then ((idx b c).bind fun l =>
  (idx d s).bind fun m =>
  some (decide (l.Id < m.Id))) else (some false)).bind fun n =>
  some n)).bind fun o =>
  bif o then ((iQ a b c d p) s g (w64 (s - 1)))
  else ((iQ a b c d p) q g (w64 (s - 1))))
  else (pG a b c q r d)
def sT (a : List aO) : Option ((List aO)) :=
  some a
def eE (a : List aO) : Nat → Int → (List aO) → Option ((List aO))
 | 0, _, _ => none
 | b + 1, c, d =>
  bif decide (c < (a.length : Int)) then (iQ (eE a b) a c d BIG (d.length : Int) false (w64 ((d.length : Int) - 1)))
  else (sT d)
def mX (a : List aO) : Option ((List aO)) :=
  eE a BIG 0 ([] : List aO)
def uY : Option Int :=
  some (-1)
def lC (a : Int) (b : aK) : Nat → Int → Option Int
 | 0, _ => none
 | d + 1, e =>
  bif decide (e < (b.People.length : Int)) then ((idx b.People e).bind fun c =>
  bif decide (c.Player = a) then (some e)
  else ((lC a b d) (w64 (e + 1))))
  else (uY)
def mH (a : aK) (b : Int) : Option Int :=
  lC b a BIG 0
def uX : Option Bool :=
  some false
def lB (a : List Int) (b : Int) : Nat → Int → Option Bool
 | 0, _ => none
 | d + 1, e =>
  bif decide (e < (a.length : Int)) then ((idx a e).bind fun c =>
  bif decide (c = b) then (some true)
  else ((lB a b d) (w64 (e + 1))))
  else (uX)
def eP (a : List Int) (b : Int) : Option Bool :=
  lB a b BIG 0
def qQ (a : List Int) : Option ((List Int)) :=
  some a
def gO (a : List Int) (b : Int) : Nat → Int → (List Int) → Option ((List Int))
 | 0, _, _ => none
 | f + 1, g, h =>
  bif decide (g < (a.length : Int)) then ((idx a g).bind fun c =>
  bif !decide (c = b) then ((idx a g).bind fun d =>
  (app 8 h ([d])).bind fun e =>
  (gO a b f) (w64 (g + 1)) e)
  else ((gO a b f) (w64 (g + 1)) h))
  else (qQ h)
def eQ (a : List Int) (b : Int) : Option ((List Int)) :=
  gO a b BIG 0 ([] : List Int)
def kL (a : aT) (b : aK) (c : aO) : Option aK :=
  (app 24 ([] : List aD) b.People).bind fun d =>
  (mH (aK.mk d b.Wilds b.Back b.In) c.Player).bind fun e =>
  bif decide (e < 0) then ((app 24 d ([(aD.mk c.Player 0 false false false false false)])).bind fun f =>
  (idx f (w64 ((f.length : Int) - 1))).bind fun g =>
  bif decide (c.Kind = 1) then (bif decide (c.Kind = 1) then ((bif decide (a.Close < c.Hour) then (some true) else (some g.Entered)).bind fun h =>
  bif h then (some b)
  else ((sub f 0 (w64 ((f.length : Int) - 1))).bind fun i =>
  (app 24 ([] : List aD) i).bind fun j =>
  (sub f (w64 ((w64 ((f.length : Int) - 1)) + 1)) (f.length : Int)).bind fun k =>
  (app 24 j k).bind fun l =>
  (app 24 l ([(aD.mk g.Player c.Rank (decide (c.Kind = 2)) true g.Quit g.Signed g.Card)])).bind fun m =>
  some (aK.mk m b.Wilds b.Back b.In)))
  else (bif decide (c.Kind = 3) then ((bif decide (a.Freeze < c.Hour) then (some true) else (some g.Quit)).bind fun n =>
  (bif n then (some true) else ((eP b.Wilds c.Player).bind fun o =>
  some o)).bind fun p =>
  (bif p then (some true) else (some (decide (a.Wilds ≤ (b.Wilds.length : Int))))).bind fun q =>
  bif q then (some b)
  else ((app 8 ([] : List Int) b.Wilds).bind fun r =>
  (app 8 r ([c.Player])).bind fun s =>
  (idx f (w64 ((f.length : Int) - 1))).bind fun _ =>
  some (aK.mk (f.set (w64 ((f.length : Int) - 1)).toNat (aD.mk g.Player g.Rank g.Guard g.Entered g.Quit g.Signed true)) s b.Back b.In)))
  else (bif decide (c.Kind = 4) then ((eP b.Wilds c.Player).bind fun t =>
  (bif t then (some (decide (a.Freeze < c.Hour))) else (some false)).bind fun u =>
  bif u then ((eQ b.Wilds c.Player).bind fun v =>
  (idx f (w64 ((f.length : Int) - 1))).bind fun _ =>
  some (aK.mk (f.set (w64 ((f.length : Int) - 1)).toNat (aD.mk g.Player g.Rank g.Guard g.Entered true g.Signed g.Card)) v (w64 (b.Back + 1)) b.In))
  else ((eQ b.Wilds c.Player).bind fun w =>
  (idx f (w64 ((f.length : Int) - 1))).bind fun _ =>
  some (aK.mk (f.set (w64 ((f.length : Int) - 1)).toNat (aD.mk g.Player g.Rank g.Guard g.Entered true g.Signed g.Card)) w b.Back b.In)))
  else (bif decide (c.Kind = 5) then ((idx f (w64 ((f.length : Int) - 1))).bind fun _ =>
  some (aK.mk (f.set (w64 ((f.length : Int) - 1)).toNat (aD.mk g.Player g.Rank g.Guard g.Entered g.Quit true g.Card)) b.Wilds b.Back b.In))
  else ((idx f (w64 ((f.length : Int) - 1))).bind fun _ =>
  some (aK.mk (f.set (w64 ((f.length : Int) - 1)).toNat g) b.Wilds b.Back b.In))))))
  else (bif decide (c.Kind = 2) then ((bif decide (a.Close < c.Hour) then (some true) else (some g.Entered)).bind fun x =>
  bif x then (some b)
  else ((sub f 0 (w64 ((f.length : Int) - 1))).bind fun y =>
  (app 24 ([] : List aD) y).bind fun z =>
  (sub f (w64 ((w64 ((f.length : Int) - 1)) + 1)) (f.length : Int)).bind fun a0 =>
  (app 24 z a0).bind fun a1 =>
  (app 24 a1 ([(aD.mk g.Player c.Rank (decide (c.Kind = 2)) true g.Quit g.Signed g.Card)])).bind fun a2 =>
  some (aK.mk a2 b.Wilds b.Back b.In)))
  else (bif decide (c.Kind = 3) then ((bif decide (a.Freeze < c.Hour) then (some true) else (some g.Quit)).bind fun a3 =>
  (bif a3 then (some true) else ((eP b.Wilds c.Player).bind fun a4 =>
  some a4)).bind fun a5 =>
  (bif a5 then (some true) else (some (decide (a.Wilds ≤ (b.Wilds.length : Int))))).bind fun a6 =>
  bif a6 then (some b)
  else ((app 8 ([] : List Int) b.Wilds).bind fun a7 =>
  (app 8 a7 ([c.Player])).bind fun a8 =>
  (idx f (w64 ((f.length : Int) - 1))).bind fun _ =>
  some (aK.mk (f.set (w64 ((f.length : Int) - 1)).toNat (aD.mk g.Player g.Rank g.Guard g.Entered g.Quit g.Signed true)) a8 b.Back b.In)))
  else (bif decide (c.Kind = 4) then ((eP b.Wilds c.Player).bind fun a9 =>
  (bif a9 then (some (decide (a.Freeze < c.Hour))) else (some false)).bind fun b0 =>
  bif b0 then ((eQ b.Wilds c.Player).bind fun b1 =>
  (idx f (w64 ((f.length : Int) - 1))).bind fun _ =>
  some (aK.mk (f.set (w64 ((f.length : Int) - 1)).toNat (aD.mk g.Player g.Rank g.Guard g.Entered true g.Signed g.Card)) b1 (w64 (b.Back + 1)) b.In))
  else ((eQ b.Wilds c.Player).bind fun b2 =>
  (idx f (w64 ((f.length : Int) - 1))).bind fun _ =>
  some (aK.mk (f.set (w64 ((f.length : Int) - 1)).toNat (aD.mk g.Player g.Rank g.Guard g.Entered true g.Signed g.Card)) b2 b.Back b.In)))
  else (bif decide (c.Kind = 5) then ((idx f (w64 ((f.length : Int) - 1))).bind fun _ =>
  some (aK.mk (f.set (w64 ((f.length : Int) - 1)).toNat (aD.mk g.Player g.Rank g.Guard g.Entered g.Quit true g.Card)) b.Wilds b.Back b.In))
  else ((idx f (w64 ((f.length : Int) - 1))).bind fun _ =>
  some (aK.mk (f.set (w64 ((f.length : Int) - 1)).toNat g) b.Wilds b.Back b.In)))))))
  else ((idx d e).bind fun b3 =>
  bif decide (c.Kind = 1) then (bif decide (c.Kind = 1) then ((bif decide (a.Close < c.Hour) then (some true) else (some b3.Entered)).bind fun b4 =>
  bif b4 then (some b)
  else ((sub d 0 e).bind fun b5 =>
  (app 24 ([] : List aD) b5).bind fun b6 =>
  (sub d (w64 (e + 1)) (d.length : Int)).bind fun b7 =>
  (app 24 b6 b7).bind fun b8 =>
  (app 24 b8 ([(aD.mk b3.Player c.Rank (decide (c.Kind = 2)) true b3.Quit b3.Signed b3.Card)])).bind fun b9 =>
  some (aK.mk b9 b.Wilds b.Back b.In)))
  else (bif decide (c.Kind = 3) then ((bif decide (a.Freeze < c.Hour) then (some true) else (some b3.Quit)).bind fun c0 =>
  (bif c0 then (some true) else ((eP b.Wilds c.Player).bind fun c1 =>
  some c1)).bind fun c2 =>
  (bif c2 then (some true) else (some (decide (a.Wilds ≤ (b.Wilds.length : Int))))).bind fun c3 =>
  bif c3 then (some b)
  else ((app 8 ([] : List Int) b.Wilds).bind fun c4 =>
  (app 8 c4 ([c.Player])).bind fun c5 =>
  (idx d e).bind fun _ =>
  some (aK.mk (d.set e.toNat (aD.mk b3.Player b3.Rank b3.Guard b3.Entered b3.Quit b3.Signed true)) c5 b.Back b.In)))
  else (bif decide (c.Kind = 4) then ((eP b.Wilds c.Player).bind fun c6 =>
  (bif c6 then (some (decide (a.Freeze < c.Hour))) else (some false)).bind fun c7 =>
  bif c7 then ((eQ b.Wilds c.Player).bind fun c8 =>
  (idx d e).bind fun _ =>
  some (aK.mk (d.set e.toNat (aD.mk b3.Player b3.Rank b3.Guard b3.Entered true b3.Signed b3.Card)) c8 (w64 (b.Back + 1)) b.In))
  else ((eQ b.Wilds c.Player).bind fun c9 =>
  (idx d e).bind fun _ =>
  some (aK.mk (d.set e.toNat (aD.mk b3.Player b3.Rank b3.Guard b3.Entered true b3.Signed b3.Card)) c9 b.Back b.In)))
  else (bif decide (c.Kind = 5) then ((idx d e).bind fun _ =>
  some (aK.mk (d.set e.toNat (aD.mk b3.Player b3.Rank b3.Guard b3.Entered b3.Quit true b3.Card)) b.Wilds b.Back b.In))
  else ((idx d e).bind fun _ =>
  some (aK.mk (d.set e.toNat b3) b.Wilds b.Back b.In))))))
  else (bif decide (c.Kind = 2) then ((bif decide (a.Close < c.Hour) then (some true) else (some b3.Entered)).bind fun d0 =>
  bif d0 then (some b)
  else ((sub d 0 e).bind fun d1 =>
  (app 24 ([] : List aD) d1).bind fun d2 =>
  (sub d (w64 (e + 1)) (d.length : Int)).bind fun d3 =>
  (app 24 d2 d3).bind fun d4 =>
  (app 24 d4 ([(aD.mk b3.Player c.Rank (decide (c.Kind = 2)) true b3.Quit b3.Signed b3.Card)])).bind fun d5 =>
  some (aK.mk d5 b.Wilds b.Back b.In)))
  else (bif decide (c.Kind = 3) then ((bif decide (a.Freeze < c.Hour) then (some true) else (some b3.Quit)).bind fun d6 =>
  (bif d6 then (some true) else ((eP b.Wilds c.Player).bind fun d7 =>
  some d7)).bind fun d8 =>
  (bif d8 then (some true) else (some (decide (a.Wilds ≤ (b.Wilds.length : Int))))).bind fun d9 =>
  bif d9 then (some b)
  else ((app 8 ([] : List Int) b.Wilds).bind fun e0 =>
  (app 8 e0 ([c.Player])).bind fun e1 =>
  (idx d e).bind fun _ =>
  some (aK.mk (d.set e.toNat (aD.mk b3.Player b3.Rank b3.Guard b3.Entered b3.Quit b3.Signed true)) e1 b.Back b.In)))
  else (bif decide (c.Kind = 4) then ((eP b.Wilds c.Player).bind fun e2 =>
  (bif e2 then (some (decide (a.Freeze < c.Hour))) else (some false)).bind fun e3 =>
  bif e3 then ((eQ b.Wilds c.Player).bind fun e4 =>
  (idx d e).bind fun _ =>
  some (aK.mk (d.set e.toNat (aD.mk b3.Player b3.Rank b3.Guard b3.Entered true b3.Signed b3.Card)) e4 (w64 (b.Back + 1)) b.In))
  else ((eQ b.Wilds c.Player).bind fun e5 =>
  (idx d e).bind fun _ =>
  some (aK.mk (d.set e.toNat (aD.mk b3.Player b3.Rank b3.Guard b3.Entered true b3.Signed b3.Card)) e5 b.Back b.In)))
  else (bif decide (c.Kind = 5) then ((idx d e).bind fun _ =>
  some (aK.mk (d.set e.toNat (aD.mk b3.Player b3.Rank b3.Guard b3.Entered b3.Quit true b3.Card)) b.Wilds b.Back b.In))
  else ((idx d e).bind fun _ =>
  some (aK.mk (d.set e.toNat b3) b.Wilds b.Back b.In)))))))
def oB (a : aD) : Option Bool :=
  (bif a.Entered then (some (!a.Quit)) else (some false)).bind fun b =>
  (bif b then (some (!a.Card)) else (some false)).bind fun c =>
  some c
def kP (a : (List aD) → Int → Option ((List aD))) (b : List aD) (c : Int) (_ : aK) : Option ((List aD)) :=
  a b (w64 (c + 1))
def pF (a : (List aD) → Int → Option ((List aD))) (b : List aD) (c : Int) (d : Int) (e : aK) (f : aD) : Option ((List aD)) :=
  (sub b 0 d).bind fun g =>
  (app 24 ([] : List aD) g).bind fun h =>
  (app 24 h ([f])).bind fun i =>
  (sub b d (b.length : Int)).bind fun j =>
  (app 24 i j).bind fun k =>
  kP a k c e
def iP (a : (List aD) → Int → Option ((List aD))) (b : List aD) (c : Int) (d : aK) (e : aD) : Nat → Int → Int → Option ((List aD))
 | 0, _, _ => none
 | j + 1, k, l =>
  bif decide (0 ≤ l) then ((bif decide (0 < e.Rank) then ((idx b l).bind fun f =>
  (bif decide (f.Rank = 0) then (some true) else ((idx b l).bind fun g =>
  some (decide (e.Rank < g.Rank)))).bind fun h =>
  some h) else (some false)).bind fun i =>
  bif i then ((iP a b c d e j) l (w64 (l - 1)))
  else ((iP a b c d e j) k (w64 (l - 1))))
  else (pF a b c k d e)
def sR (a : List aD) : Option ((List aD)) :=
  some a
def fM (a : aK) : Nat → (List aD) → Int → Option ((List aD))
 | 0, _, _ => none
 | d + 1, e, f =>
  bif decide (f < (a.People.length : Int)) then ((idx a.People f).bind fun b =>
  (oB b).bind fun c =>
  bif !c then (kP (fM a d) e f a)
  else (iP (fM a d) e f a b BIG (e.length : Int) (w64 ((e.length : Int) - 1))))
  else (sR e)
def jT (a : aK) : Option ((List aD)) :=
  fM a BIG ([] : List aD) 0
def sP (a : Int → (List Int) → Option aK) (_ : List aD) (b : Int) (_ : aT) (_ : aK) (_ : aK) (c : List Int) : Option aK :=
  a (w64 (b + 1)) c
def mS (a : Int → (List Int) → Option aK) (b : List aD) (c : Int) (d : aT) (e : aK) (f : aK) (g : List Int) : Option aK :=
  sP a b c d e f g
def gI (a : Int → (List Int) → Option aK) (b : List aD) (c : Int) (d : aT) (e : aK) (f : aK) : Nat → Int → (List Int) → Option aK
 | 0, _, _ => none
 | k + 1, l, m =>
  bif decide (l < (b.length : Int)) then ((idx b l).bind fun g =>
  (idx e.In c).bind fun h =>
  bif decide (g.Player = h) then ((idx e.In c).bind fun i =>
  (app 8 m ([i])).bind fun j =>
  (gI a b c d e f k) (w64 (l + 1)) j)
  else ((gI a b c d e f k) (w64 (l + 1)) m))
  else (mS a b c d e f m)
def kO (a : aK) (_ : aK) (b : List Int) : Option aK :=
  some (aK.mk a.People a.Wilds a.Back b)
def sQ (a : (List Int) → Option aK) (_ : List aD) (_ : aT) (_ : aK) (_ : aK) (b : List Int) : Option aK :=
  a b
def pE (a : (List Int) → Option aK) (b : List aD) (c : Int) (d : aT) (e : aK) (f : aK) (g : List Int) : Option aK :=
  bif decide (c < 0) then (kO e f g)
  else ((app 8 g ([c])).bind fun h =>
  sQ a b d e f h)
def iO (a : (List Int) → Option aK) (b : List aD) (c : Int) (d : aT) (e : aK) (f : aK) (g : List Int) : Nat → Int → Int → Option aK
 | 0, _, _ => none
 | p + 1, q, r =>
  bif decide (0 ≤ r) then ((idx b r).bind fun h =>
  (bif h.Signed then ((idx b r).bind fun i =>
  (eP g i.Player).bind fun j =>
  some (!j)) else (some false)).bind fun k =>
  (bif k then ((idx b r).bind fun l =>
  (bif !l.Guard then (some true) else (some (decide (c < d.Guards)))).bind fun m =>
  some m) else (some false)).bind fun n =>
  bif n then ((idx b r).bind fun o =>
  (iO a b c d e f g p) o.Player (w64 (r - 1)))
  else ((iO a b c d e f g p) q (w64 (r - 1))))
  else (pE a b q d e f g)
def mT (a : (List Int) → Option aK) (b : List aD) (c : Int) (d : aT) (e : aK) (f : aK) (g : List Int) : Option aK :=
  iO a b c d e f g BIG (-1) (w64 ((b.length : Int) - 1))
def gJ (a : (List Int) → Option aK) (b : List aD) (c : aT) (d : aK) (e : aK) (f : List Int) : Nat → Int → Int → Option aK
 | 0, _, _ => none
 | k + 1, l, m =>
  bif decide (m < (b.length : Int)) then ((idx b m).bind fun g =>
  (bif g.Guard then ((idx b m).bind fun h =>
  (eP f h.Player).bind fun i =>
  some i) else (some false)).bind fun j =>
  bif j then ((gJ a b c d e f k) (w64 (l + 1)) (w64 (m + 1)))
  else ((gJ a b c d e f k) l (w64 (m + 1))))
  else (mT a b l c d e f)
def fL (a : List aD) (b : aT) (c : aK) (d : aK) : Nat → (List Int) → Option aK
 | 0, _ => none
 | e + 1, f =>
  bif decide ((f.length : Int) < (w64 (b.Places + c.Back))) then (gJ (fL a b c d e) a b c d f BIG 0 0)
  else (kO c d f)
def mR (a : List aD) (b : aT) (c : aK) (d : aK) (e : List Int) : Option aK :=
  fL a b c d BIG e
def gH (a : List aD) (b : aT) (c : aK) (d : aK) : Nat → Int → (List Int) → Option aK
 | 0, _, _ => none
 | e + 1, f, g =>
  bif decide (f < (c.In.length : Int)) then (gI (gH a b c d e) a f b c d BIG 0 g)
  else (mR a b c d g)
def oS (a : aT) (b : aK) : Option aK :=
  (jT b).bind fun c =>
  gH c a b (aK.mk ([] : List aD) ([] : List Int) 0 ([] : List Int)) BIG 0 ([] : List Int)
def rD (a : List Int) : Option ((List Int)) :=
  some a
def fV (a : List aD) (b : aT) : Nat → Int → Int → (List Int) → Option ((List Int))
 | 0, _, _, _ => none
 | i + 1, j, k, l =>
  bif decide (k < (a.length : Int)) then ((bif decide ((l.length : Int) < b.Places) then ((idx a k).bind fun c =>
  (bif !c.Guard then (some true) else (some (decide (j < b.Guards)))).bind fun d =>
  some d) else (some false)).bind fun e =>
  bif e then ((idx a k).bind fun f =>
  (app 8 l ([f.Player])).bind fun g =>
  (idx a k).bind fun h =>
  bif h.Guard then ((fV a b i) (w64 (j + 1)) (w64 (k + 1)) g)
  else ((fV a b i) j (w64 (k + 1)) g))
  else ((fV a b i) j (w64 (k + 1)) l))
  else (rD l)
def oC (a : aT) (b : aK) : Option ((List Int)) :=
  (jT b).bind fun c =>
  fV c a BIG 0 0 ([] : List Int)
def mW (a : aT) (b : aK) (c : aO) : Option aK :=
  (kL a b c).bind fun d =>
  bif decide (a.Freeze < c.Hour) then ((oS a d).bind fun e =>
  some e)
  else ((oC a d).bind fun f =>
  some (aK.mk d.People d.Wilds d.Back f))
def mO (_ : aK) (a : aK) : Option aK :=
  some a
def jJ (a : Int) (b : List aO) (c : aT) (d : aK) : Nat → Int → aK → Option aK
 | 0, _, _ => none
 | h + 1, i, j =>
  bif decide (i < (b.length : Int)) then ((idx b i).bind fun e =>
  bif decide (a < e.Hour) then (mO d j)
  else ((idx b i).bind fun f =>
  (mW c j f).bind fun g =>
  (jJ a b c d h) (w64 (i + 1)) g))
  else (mO d j)
def lA (a : aT) (b : List aO) (c : Int) : Option aK :=
  (mX b).bind fun d =>
  jJ c d a (aK.mk ([] : List aD) ([] : List Int) 0 ([] : List Int)) BIG 0 (aK.mk ([] : List aD) ([] : List Int) 0 ([] : List Int))
def qP (_ : dK) (a : List Int) (b : List Int) (c : List Int) (d : Int) : Option dK :=
  some (dK.mk b c a d)
def gN (a : List aD) (b : aK) (c : dK) : Nat → Int → (List Int) → (List Int) → (List Int) → Int → Option dK
 | 0, _, _, _, _, _ => none
 | h + 1, i, j, k, l, m =>
  bif decide (i < (a.length : Int)) then ((idx a i).bind fun d =>
  (eP b.In d.Player).bind fun e =>
  bif !e then ((idx a i).bind fun f =>
  (app 8 j ([f.Player])).bind fun g =>
  (gN a b c h) (w64 (i + 1)) g k l m)
  else ((gN a b c h) (w64 (i + 1)) j k l m))
  else (qP c j k l m)
def jS (a : aT) (b : aK) : Option dK :=
  (jT b).bind fun c =>
  gN c b (dK.mk ([] : List Int) ([] : List Int) ([] : List Int) 0) BIG 0 ([] : List Int) b.In b.Wilds (w64 ((w64 (a.Places + b.Back)) - (b.In.length : Int)))
def sS : Option Int :=
  some 0
def gK (a : List Int) (b : Int) : Nat → Int → Option Int
 | 0, _ => none
 | d + 1, e =>
  bif decide (e < (a.length : Int)) then ((idx a e).bind fun c =>
  bif decide (c = b) then (some (w64 (e + 1)))
  else ((gK a b d) (w64 (e + 1))))
  else (sS)
def lE (a : List Int) (b : Int) : Option Int :=
  gK a b BIG 0
def lF (a : dK) (b : Int) : Option (Int × Int) :=
  (lE a.Main b).bind fun c =>
  bif decide (0 < c) then (some (1, c))
  else ((lE a.Wilds b).bind fun d =>
  bif decide (0 < d) then (some (2, d))
  else ((lE a.Out b).bind fun e =>
  bif decide (0 < e) then (some (3, e))
  else (some (0, 0))))
def pI (_ : List Int) : Option Unit :=
  some ()
def qU {S : Type} (_ : S → Int → Int → Option (S × Bool)) (a : S) : Option (S × Bool) :=
  some (a, true)
def gB {S : Type} (a : S → Int → Int → Option (S × Bool)) (b : List Int) : Nat → Int → S → Option (S × Bool)
 | 0, _, _ => none
 | e + 1, f, g =>
  bif decide (0 ≤ f) then ((idx b f).bind fun c =>
  (a g f c).bind fun d =>
  bif !d.2 then (some d)
  else ((gB a b e) (w64 (f - 1)) d.1))
  else (qU a g)
def iJ {S : Type} (a : S → Int → Int → Option (S × Bool)) (b : List Int) (c : S) : Option (S × Bool) :=
  gB a b BIG (w64 ((b.length : Int) - 1)) c
def qZ (a : aT) (b : List aO) (c : Int) : Option (Int × Int) :=
  (pX a b c 0).bind fun d =>
  bif !decide (d.2 = 0) then (some (0, d.2))
  else ((d.1).bind fun e =>
  (eL e).bind fun f =>
  (d.1).bind fun g =>
  (fH g).bind fun h =>
  (pI h).bind fun _ =>
  (iJ (S := Int × Int) (fun i _ j =>
  (d.1).bind fun k =>
  (bif !((aL j (aA.mk false false 0 0 false false false false) k.players).guard) then ((fN f j).bind fun l =>
  some l) else (some false)).bind fun m =>
  bif m then (some (((aL j (aA.mk false false 0 0 false false false false) k.players).rank, 0), false))
  else (some ((i.1, i.2), true))) h (0, 0)).bind fun n =>
  bif n.2 then (some (0, 3))
  else (some (n.1.1, n.1.2)))
def yH : Option (Int × Int) :=
  some (0, 3)
def mA (a : List aD) (b : aK) : Nat → Int → Option (Int × Int)
 | 0, _ => none
 | h + 1, i =>
  bif decide (0 ≤ i) then ((idx a i).bind fun c =>
  (bif !c.Guard then ((idx a i).bind fun d =>
  (eP b.In d.Player).bind fun e =>
  some e) else (some false)).bind fun f =>
  bif f then ((idx a i).bind fun g =>
  some (g.Rank, 0))
  else ((mA a b h) (w64 (i - 1))))
  else (yH)
def lH (a : aT) (b : List aO) (c : Int) : Option (Int × Int) :=
  (lD a b c 0).bind fun d =>
  bif !decide (d = 0) then (some (0, d))
  else ((lA a b c).bind fun e =>
  (jT e).bind fun f =>
  mA f e BIG (w64 ((f.length : Int) - 1)))
def nR (a : aT) (b : aK) (c : Int) (d : Int) : Option aK :=
  (mW a b (aO.mk 0 c 4 d 0)).bind fun e =>
  some e
def nH (a : List Int) (b : List Int) : Option Bool :=
  some (decide ((a.length : Int) = (b.length : Int)))
def iF (a : List Int) (b : List Int) : Nat → Int → Option Bool
 | 0, _ => none
 | f + 1, g =>
  (bif decide (g < (a.length : Int)) then (some (decide (g < (b.length : Int)))) else (some false)).bind fun c =>
  bif c then ((idx a g).bind fun d =>
  (idx b g).bind fun e =>
  bif !decide (d = e) then (some false)
  else ((iF a b f) (w64 (g + 1))))
  else (nH a b)
def mU (a : List Int) (b : List Int) : Option Bool :=
  iF a b BIG 0
def sO (a : List aK) (b : aK) : Option ((List aK)) :=
  (app 80 a ([b])).bind fun c =>
  some c
def jK (a : List aK) (b : aK) : Nat → Int → Option ((List aK))
 | 0, _ => none
 | e + 1, f =>
  bif decide (f < (a.length : Int)) then ((idx a f).bind fun c =>
  (mU c.In b.In).bind fun d =>
  bif d then (some a)
  else ((jK a b e) (w64 (f + 1))))
  else (sO a b)
def oR (a : List aK) (b : aK) : Option ((List aK)) :=
  jK a b BIG 0
def mP (_ : (List aK) → Int → Option (Int × Int)) (_ : Int → (List aK) → Option (Int × Int)) (a : Int → (List aK) → Option (Int × Int)) (_ : Int) (_ : Int) (_ : List aK) (_ : Int) (_ : Int) (b : Int) (_ : aT) (c : List aK) : Option (Int × Int) :=
  a (w64 (b + 1)) c
def kN (a : (List aK) → Int → Option (Int × Int)) (b : Int → (List aK) → Option (Int × Int)) (c : Int → (List aK) → Option (Int × Int)) (d : Int) (e : Int) (f : List aK) (g : Int) (h : Int) (i : Int) (j : aT) (k : List aK) : Option (Int × Int) :=
  mP a b c d e f g h i j k
def eW (a : (List aK) → Int → Option (Int × Int)) (b : Int → (List aK) → Option (Int × Int)) (c : Int → (List aK) → Option (Int × Int)) (d : Int) (e : Int) (f : List aK) (g : Int) (h : Int) (i : Int) (j : aT) : Nat → Int → (List aK) → Option (Int × Int)
 | 0, _, _ => none
 | u + 1, v, w =>
  (idx f h).bind fun k =>
  bif decide (v < (k.In.length : Int)) then ((idx f h).bind fun l =>
  (idx f h).bind fun m =>
  (idx f h).bind fun n =>
  (idx n.In v).bind fun o =>
  (mH m o).bind fun p =>
  (idx l.People p).bind fun q =>
  bif decide (q.Guard = (decide (i = 1))) then ((idx f h).bind fun r =>
  (nR j r d q.Player).bind fun s =>
  (oR w s).bind fun t =>
  kN a b c d e f g h i j t)
  else ((eW a b c d e f g h i j u) (w64 (v + 1)) w))
  else (kN a b c d e f g h i j w)
def wE (_ : (List aK) → Int → Option (Int × Int)) (a : Int → (List aK) → Option (Int × Int)) (_ : Int) (_ : Int) (_ : List aK) (_ : Int) (b : Int) (_ : aT) (c : List aK) : Option (Int × Int) :=
  a (w64 (b + 1)) c
def wF (a : (List aK) → Int → Option (Int × Int)) (b : Int → (List aK) → Option (Int × Int)) (c : Int) (d : Int) (e : List aK) (f : Int) (g : Int) (h : aT) (i : List aK) : Option (Int × Int) :=
  wE a b c d e f g h i
def dE (a : (List aK) → Int → Option (Int × Int)) (b : Int → (List aK) → Option (Int × Int)) (c : Int) (d : Int) (e : List aK) (f : Int) (g : Int) (h : aT) : Nat → Int → (List aK) → Option (Int × Int)
 | 0, _, _ => none
 | i + 1, j, k =>
  bif decide (j < 2) then (eW a b (dE a b c d e f g h i) c d e f g j h BIG 0 k)
  else (wF a b c d e f g h k)
def sM (a : (List aK) → Int → Option (Int × Int)) (_ : Int) (_ : Int) (b : Int) (_ : aT) (c : List aK) : Option (Int × Int) :=
  a c (w64 (b + 1))
def sN (a : (List aK) → Int → Option (Int × Int)) (b : Int) (c : Int) (d : Int) (e : aT) (f : List aK) : Option (Int × Int) :=
  sM a b c d e f
def dR (a : (List aK) → Int → Option (Int × Int)) (b : Int) (c : Int) (d : List aK) (e : Int) (f : aT) : Nat → Int → (List aK) → Option (Int × Int)
 | 0, _, _ => none
 | i + 1, j, k =>
  bif decide (j < (d.length : Int)) then ((idx d j).bind fun g =>
  (eP g.In c).bind fun h =>
  bif h then (some (e, 0))
  else (dE a (dR a b c d e f i) b c d e j f BIG 0 k))
  else (sN a b c e f k)
def wD : Option (Int × Int) :=
  some (0, 3)
def cQ (a : Int) (b : Int) (c : aT) : Nat → (List aK) → Int → Option (Int × Int)
 | 0, _, _ => none
 | d + 1, e, f =>
  bif decide (0 < (e.length : Int)) then (dR (cQ a b c d) a b e f c BIG 0 ([] : List aK))
  else (wD)
def jR (a : aT) (b : List aO) (c : Int) (d : Int) : Option (Int × Int) :=
  (lD a b c d).bind fun e =>
  bif !decide (e = 0) then (some (0, e))
  else ((lA a b c).bind fun f =>
  (idx ([f]) 0).bind fun g =>
  (jS a g).bind fun h =>
  (lF h d).bind fun i =>
  (bif !decide (i.1 = 1) then (some (!decide (i.1 = 3))) else (some false)).bind fun j =>
  bif j then (some (0, 3))
  else (cQ c d a BIG ([f]) 0))
def tJ : Option (Int × Int) :=
  some (0, 3)
def iY (a : List aO) (b : Int) (c : List aO) (d : aT) : Nat → Int → Option (Int × Int)
 | 0, _ => none
 | k + 1, l =>
  bif decide (l < (c.length : Int)) then ((idx c l).bind fun e =>
  (lA d a e.Hour).bind fun f =>
  (jS d f).bind fun g =>
  (lF g b).bind fun h =>
  (bif decide (h.1 = 1) then (some true) else (some (decide (h.1 = 2)))).bind fun i =>
  bif i then ((idx c l).bind fun j =>
  some (j.Hour, 0))
  else ((iY a b c d k) (w64 (l + 1))))
  else (tJ)
def kK (a : aT) (b : List aO) (c : Int) : Option (Int × Int) :=
  (lD a b 0 c).bind fun d =>
  bif !decide (d = 0) then (some (0, d))
  else ((mX b).bind fun e =>
  iY b c e a BIG 0)
def oG (a : aT) (b : List aO) (c : pP) : Option Bool :=
  (qN b).bind fun d =>
  bif d then ((mV).bind fun e =>
  some e)
  else ((app 40 ([] : List aO) b).bind fun f =>
  (qZ a f c.Hour).bind fun g =>
  (lH a b c.Hour).bind fun h =>
  (kT a f c.Hour c.Player).bind fun i =>
  (jR a b c.Hour c.Player).bind fun j =>
  (nJ a f c.Player).bind fun k =>
  (kK a b c.Player).bind fun l =>
  (bif decide (g.1 = h.1) then (some (decide (g.2 = h.2))) else (some false)).bind fun m =>
  (bif m then (some (decide (i.1 = j.1))) else (some false)).bind fun n =>
  (bif n then (some (decide (i.2 = j.2))) else (some false)).bind fun o =>
  (bif o then (some (decide (k.1 = l.1))) else (some false)).bind fun p =>
  (bif p then (some (decide (k.2 = l.2))) else (some false)).bind fun q =>
  (bif q then ((mV).bind fun r =>
  some r) else (some false)).bind fun s =>
  some s)
end Go.Am
