/- Shallow functions, printed by program. -/
import Derived.Test.YtfdappeickbpeaaGreatAmFull
import Derived.Test.YtfdappeickbpeaaGreatAmNd
import Derived.Test.YtfdappeickbpeaaGreatAmSort
import Derived.Test.YtfdappeickbpeaaGreatAmSortF
namespace Go.Am
structure aM where
 Id : Int
 Hour : Int
 Kind : Int
 Player : Int
 Rank : Int
 deriving DecidableEq, Inhabited
def aI (x : aM) : List D := [.lit (.int .i64 x.Id), .lit (.int .i64 x.Hour), .lit (.int .i64 x.Kind), .lit (.int .i64 x.Player), .lit (.int .i64 x.Rank)]
def aDn (x : List aM) : List D := [.sl 5 (x.map aI)]
structure aY where
 Places : Int
 Wilds : Int
 Guards : Int
 Close : Int
 Freeze : Int
 deriving DecidableEq, Inhabited
def aQ (x : aY) : List D := [.lit (.int .i64 x.Places), .lit (.int .i64 x.Wilds), .lit (.int .i64 x.Guards), .lit (.int .i64 x.Close), .lit (.int .i64 x.Freeze)]
def mB (x : List Int) : List D := [.sl 1 (x.map aH)]
structure aA where
 entered : Bool
 guard : Bool
 rank : Int
 turn : Int
 quit : Bool
 signed : Bool
 wild : Bool
 had : Bool
 deriving DecidableEq, Inhabited
def aG (x : aA) : List D := [.lit (.bool x.entered), .lit (.bool x.guard), .lit (.int .i64 x.rank), .lit (.int .i64 x.turn), .lit (.bool x.quit), .lit (.bool x.signed), .lit (.bool x.wild), .lit (.bool x.had)]
structure aO where
 Field : aY
 players : List (Int × aA)
 wilds : List Int
 frozen : Bool
 first : List Int
 late : List Int
 more : Int
 entered : Int
 deriving DecidableEq, Inhabited
def bD (x : aO) : List D := [.lit (.int .i64 x.Field.Places), .lit (.int .i64 x.Field.Wilds), .lit (.int .i64 x.Field.Guards), .lit (.int .i64 x.Field.Close), .lit (.int .i64 x.Field.Freeze), .mp true (x.players.map fun p : Int × aA => ((fun n : Int => Value.int .i64 n) p.1, aG p.2)), .sl 1 (x.wilds.map aH), .lit (.bool x.frozen), .sl 1 (x.first.map aH), .sl 1 (x.late.map aH), .lit (.int .i64 x.more), .lit (.int .i64 x.entered)]
structure bU where
 Main : List Int
 Wilds : List Int
 Out : List Int
 Open : Int
 deriving DecidableEq, Inhabited
def cE (x : bU) : List D := [.sl 1 (x.Main.map aH), .sl 1 (x.Wilds.map aH), .sl 1 (x.Out.map aH), .lit (.int .i64 x.Open)]
structure aZ where
 free : Int
 guarded : Int
 moved : Int
 covered : Int
 deriving DecidableEq, Inhabited
def aW (x : aZ) : List D := [.lit (.int .i64 x.free), .lit (.int .i64 x.guarded), .lit (.int .i64 x.moved), .lit (.int .i64 x.covered)]
structure aD where
 Player : Int
 Rank : Int
 Guard : Bool
 Entered : Bool
 Quit : Bool
 Signed : Bool
 Card : Bool
 deriving DecidableEq, Inhabited
def aB (x : aD) : List D := [.lit (.int .i64 x.Player), .lit (.int .i64 x.Rank), .lit (.bool x.Guard), .lit (.bool x.Entered), .lit (.bool x.Quit), .lit (.bool x.Signed), .lit (.bool x.Card)]
structure aN where
 People : List aD
 Wilds : List Int
 Back : Int
 In : List Int
 deriving DecidableEq, Inhabited
def aJ (x : aN) : List D := [.sl 7 (x.People.map aB), .sl 1 (x.Wilds.map aH), .lit (.int .i64 x.Back), .sl 1 (x.In.map aH)]
structure nZ where
 Hour : Int
 Player : Int
 deriving DecidableEq, Inhabited
def rA (x : nZ) : List D := [.lit (.int .i64 x.Hour), .lit (.int .i64 x.Player)]
def aEe (x : aY) : Prop := okI x.Places ∧ okI x.Wilds ∧ okI x.Guards ∧ okI x.Close ∧ okI x.Freeze
def yD (x : aM) : Prop := okI x.Id ∧ okI x.Hour ∧ okI x.Kind ∧ okI x.Player ∧ okI x.Rank
def vW (x : nZ) : Prop := okI x.Hour ∧ okI x.Player
def oQ (a : List aM) : Option Bool :=
  (bif decide (20 < (a.length : Int)) then (some (decide ((a.length : Int) ≤ 60))) else (some false)).bind fun b =>
  (bif b then (some true) else (some (decide (100 < (a.length : Int))))).bind fun c =>
  some c
def cN (a : Int) (b : Int) (c : Int) : Option Bool :=
  (bif decide (b ≤ a) then (some (decide (a ≤ c))) else (some false)).bind fun d =>
  some d
def lD (a : aM) : Option Bool :=
  (cN a.Id 0 999).bind fun b =>
  (bif !b then (some true) else ((cN a.Player 0 999).bind fun c =>
  some (!c))).bind fun d =>
  (bif d then (some true) else ((cN a.Hour 0 9999).bind fun e =>
  some (!e))).bind fun f =>
  bif f then (some false)
  else (bif decide (a.Kind = 1) then ((cN a.Rank 0 9999).bind fun g =>
  some g)
  else (bif decide (a.Kind = 2) then ((cN a.Rank 1 9999).bind fun h =>
  some h)
  else (bif decide (a.Kind = 3) then (bif decide (a.Kind = 3) then (some (decide (a.Rank = 0)))
  else (some false))
  else (bif decide (a.Kind = 4) then (bif decide (a.Kind = 4) then (some (decide (a.Rank = 0)))
  else (some false))
  else (bif decide (a.Kind = 5) then (some (decide (a.Rank = 0)))
  else (some false))))))
def qD (a : Int → Option Int) (_ : List aM) (b : Int) : Option Int :=
  a (w64 (b + 1))
def qE (a : Int → Option Int) (b : List aM) (c : Int) : Option Int :=
  qD a b c
def gS (a : Int → Option Int) (b : List aM) (c : Int) : Nat → Int → Option Int
 | 0, _ => none
 | i + 1, j =>
  bif decide (j < c) then ((idx b j).bind fun d =>
  (idx b c).bind fun e =>
  (bif decide (d.Id = e.Id) then ((idx b j).bind fun f =>
  (idx b c).bind fun g =>
  some (!decide (f = g))) else (some false)).bind fun h =>
  bif h then (some 51)
  else ((gS a b c i) (w64 (j + 1))))
  else (qE a b c)
def qC : Option Int :=
  some 0
def gR (a : List aM) : Nat → Int → Option Int
 | 0, _ => none
 | d + 1, e =>
  bif decide (e < (a.length : Int)) then ((idx a e).bind fun b =>
  (lD b).bind fun c =>
  bif !c then (some 51)
  else (gS (gR a d) a e BIG 0))
  else (qC)
def lJ (a : aY) (b : List aM) : Option Int :=
  (cN a.Places 1 32).bind fun c =>
  (bif !c then (some true) else ((cN a.Wilds 0 32).bind fun d =>
  some (!d))).bind fun e =>
  (bif e then (some true) else ((cN a.Guards 0 32).bind fun f =>
  some (!f))).bind fun g =>
  (bif g then (some true) else ((cN a.Close 0 9999).bind fun h =>
  some (!h))).bind fun i =>
  (bif i then (some true) else ((cN a.Freeze a.Close 9999).bind fun j =>
  some (!j))).bind fun k =>
  bif k then (some 50)
  else (bif decide (60 < (b.length : Int)) then (some 51)
  else (gR b BIG 0))
def dX (a : Int) (b : Int) (c : Int) (d : Int) (e : Int) : Option aM :=
  some (aM.mk a b c d e)
def jW : Option (aY × (List aM)) :=
  (dX 0 1 1 7 50).bind fun a =>
  (dX 1 2 1 8 20).bind fun b =>
  (dX 2 3 2 9 10).bind fun c =>
  (dX 3 4 2 6 30).bind fun d =>
  (dX 4 5 1 5 70).bind fun e =>
  (dX 5 6 1 4 0).bind fun f =>
  (dX 6 11 1 3 1).bind fun g =>
  (dX 7 12 3 7 0).bind fun h =>
  (dX 8 15 4 8 0).bind fun i =>
  (dX 9 21 5 4 0).bind fun j =>
  (dX 10 22 4 5 0).bind fun k =>
  some ((aY.mk 3 1 1 10 20), [a, b, c, d, e, f, g, h, i, j, k])
def cJ (a : Int) (b : Int) (c : Int) : Option Bool :=
  (bif decide (b ≤ a) then (some (decide (a ≤ c))) else (some false)).bind fun d =>
  some d
def pQ (a : aY) : Option Bool :=
  (cJ a.Places 1 32).bind fun b =>
  (bif b then ((cJ a.Wilds 0 32).bind fun c =>
  some c) else (some false)).bind fun d =>
  (bif d then ((cJ a.Guards 0 32).bind fun e =>
  some e) else (some false)).bind fun f =>
  (bif f then ((cJ a.Close 0 9999).bind fun g =>
  some g) else (some false)).bind fun h =>
  (bif h then ((cJ a.Freeze a.Close 9999).bind fun i =>
  some i) else (some false)).bind fun j =>
  some j
def oV (a : aM) : Option Bool :=
  bif decide (a.Kind = 1) then ((cJ a.Id 0 999).bind fun b =>
  (bif b then ((cJ a.Player 0 999).bind fun c =>
  some c) else (some false)).bind fun d =>
  (bif d then ((cJ a.Hour 0 9999).bind fun e =>
  some e) else (some false)).bind fun f =>
  (bif f then ((cJ a.Rank 0 9999).bind fun g =>
  some g) else (some false)).bind fun h =>
  some h)
  else (bif decide (a.Kind = 2) then ((cJ a.Id 0 999).bind fun i =>
  (bif i then ((cJ a.Player 0 999).bind fun j =>
  some j) else (some false)).bind fun k =>
  (bif k then ((cJ a.Hour 0 9999).bind fun l =>
  some l) else (some false)).bind fun m =>
  (bif m then ((cJ a.Rank 1 9999).bind fun n =>
  some n) else (some false)).bind fun o =>
  some o)
  else (bif decide (a.Kind = 3) then (bif decide (a.Kind = 3) then ((cJ a.Id 0 999).bind fun p =>
  (bif p then ((cJ a.Player 0 999).bind fun q =>
  some q) else (some false)).bind fun r =>
  (bif r then ((cJ a.Hour 0 9999).bind fun s =>
  some s) else (some false)).bind fun t =>
  (bif t then ((cJ a.Rank 0 0).bind fun u =>
  some u) else (some false)).bind fun v =>
  some v)
  else (some false))
  else (bif decide (a.Kind = 4) then (bif decide (a.Kind = 4) then ((cJ a.Id 0 999).bind fun w =>
  (bif w then ((cJ a.Player 0 999).bind fun x =>
  some x) else (some false)).bind fun y =>
  (bif y then ((cJ a.Hour 0 9999).bind fun z =>
  some z) else (some false)).bind fun a0 =>
  (bif a0 then ((cJ a.Rank 0 0).bind fun a1 =>
  some a1) else (some false)).bind fun a2 =>
  some a2)
  else (some false))
  else (bif decide (a.Kind = 5) then ((cJ a.Id 0 999).bind fun a3 =>
  (bif a3 then ((cJ a.Player 0 999).bind fun a4 =>
  some a4) else (some false)).bind fun a5 =>
  (bif a5 then ((cJ a.Hour 0 9999).bind fun a6 =>
  some a6) else (some false)).bind fun a7 =>
  (bif a7 then ((cJ a.Rank 0 0).bind fun a8 =>
  some a8) else (some false)).bind fun a9 =>
  some a9)
  else (some false)))))
def tW : Option Int :=
  some 0
def jY (a : List aM) (b : Int) : Nat → Int → (List (Int × aM)) → Option Int
 | 0, _, _ => none
 | g + 1, h, i =>
  bif decide (h < b) then ((idx a h).bind fun c =>
  (oV c).bind fun d =>
  (bif !d then (some true) else ((bif hM c.Id i then (some (!decide ((aK c.Id (aM.mk 0 0 0 0 0) i) = c))) else (some false)).bind fun e =>
  some e)).bind fun f =>
  bif f then (some 51)
  else ((jY a b g) (w64 (h + 1)) (cT c.Id c i)))
  else (tW)
def pX (a : aY) (b : List aM) : Option Int :=
  (pQ a).bind fun c =>
  bif !c then (some 50)
  else (bif decide (60 < (b.length : Int)) then (some 51)
  else (jY b (b.length : Int) BIG 0 ([] : List (Int × aM))))
def kQ (_ : List aM) : Option Unit :=
  some ()
def iG {S : Type} (_ : S → aM → Option (S × Bool)) (a : S) : Option (S × Bool) :=
  some (a, true)
def cY {S : Type} (a : S → aM → Option (S × Bool)) (b : List aM) (c : Int) : Nat → Int → S → Option (S × Bool)
 | 0, _, _ => none
 | f + 1, g, h =>
  bif decide (g < c) then ((idx b g).bind fun d =>
  (a h d).bind fun e =>
  bif !e.2 then (some e)
  else ((cY a b c f) (w64 (g + 1)) e.1))
  else (iG a h)
def fW {S : Type} (a : S → aM → Option (S × Bool)) (b : List aM) (c : S) : Option (S × Bool) :=
  cY a b (b.length : Int) BIG 0 c
def jI (a : List aM) : Option ((List aM)) :=
  (fW (S := (List aM)) (fun b c =>
  (app 40 b ([c])).bind fun d =>
  some (d, true)) a ([] : List aM)).bind fun e =>
  bif e.2 then (some e.1)
  else (none)
def iQ (a : List aM) : Option ((List aM)) :=
  (jI a).bind fun b =>
  some b
def mI (x : List aM) (a : aM → aM → Option Int) : Option (List aM) := sJ x a
def hC (a : List aM) (b : aM → aM → Option Int) : Option ((List aM)) :=
  (iQ a).bind fun c =>
  (mI c b).bind fun d =>
  some d
def sD (a : Int) : Option Int :=
  some a
def nX (a : Int) (b : List Int) (c : Int) : Nat → Int → Option Int
 | 0, _ => none
 | e + 1, f =>
  bif decide (f < c) then ((idx b f).bind fun d =>
  bif !decide (d = a) then (some d)
  else ((nX a b c e) (w64 (f + 1))))
  else (sD a)
def oA (a : List Int) : Option Int :=
  nX 0 a (a.length : Int) BIG 0
def eM (a : aM) (b : aM) : Option Int :=
  (oA ([w64 (a.Hour - b.Hour), w64 (a.Id - b.Id)])).bind fun c =>
  some c
def lQ (_ : Int → (List aM) → Option ((List aM))) (a : Int) (b : List aM) : Option ((List aM)) :=
  (chk (decide (0 ≤ a) && decide (a ≤ (b.length : Int)))).bind fun _ =>
  (chk (decide (a.toNat ≤ b.length))).bind fun _ =>
  (chk (decide (0 ≤ a))).bind fun _ =>
  some (b.take a.toNat)
def dQ (a : Int → (List aM) → Option ((List aM))) (b : Int) : Nat → Int → Int → (List aM) → Option ((List aM))
 | 0, _, _, _ => none
 | f + 1, g, h, i =>
  bif decide (h < ((i.drop b.toNat).length : Int)) then ((idx (i.drop b.toNat) h).bind fun c =>
  (idx (i.drop b.toNat) (w64 (h - 1))).bind fun d =>
  bif !decide (c = d) then ((idx (i.drop b.toNat) h).bind fun e =>
  (idx i g).bind fun _ =>
  (dQ a b f) (w64 (g + 1)) (w64 (h + 1)) (i.set g.toNat e))
  else ((dQ a b f) g (w64 (h + 1)) i))
  else (lQ a g i)
def lP (a : Int → (List aM) → Option ((List aM))) (b : Int) (c : List aM) : Option ((List aM)) :=
  a (w64 (b + 1)) c
def lO (a : List aM) : Option ((List aM)) :=
  some a
def dB : Nat → Int → (List aM) → Option ((List aM))
 | 0, _, _ => none
 | c + 1, d, e =>
  bif decide (d < (e.length : Int)) then ((idx e d).bind fun a =>
  (idx e (w64 (d - 1))).bind fun b =>
  bif decide (a = b) then ((chk (decide (0 ≤ d) && decide (d ≤ (e.length : Int)))).bind fun _ =>
  dQ (dB c) d BIG d 1 e)
  else (lP (dB c) d e))
  else (lO e)
def gQ (a : List aM) : Option ((List aM)) :=
  bif decide ((a.length : Int) < 2) then (some a)
  else (dB BIG 1 a)
def eX (a : aO) : Option Int :=
  some (w64 (a.Field.Places + a.more))
def pH (a : Int) : Option Int :=
  some a
def gG (a : aO) (b : List Int) (c : Int) : Nat → Int → Int → Option Int
 | 0, _, _ => none
 | e + 1, f, g =>
  bif decide (g < c) then ((idx b g).bind fun d =>
  bif (aK d (aA.mk false false 0 0 false false false false) a.players).guard then ((gG a b c e) (w64 (f + 1)) (w64 (g + 1)))
  else ((gG a b c e) f (w64 (g + 1))))
  else (pH f)
def iZ (a : aO) (b : List Int) : Option Int :=
  gG a b (b.length : Int) BIG 0 0
def gH (a : List (Int × aA)) (b : Int) : Option Bool :=
  (bif (aK b (aA.mk false false 0 0 false false false false) a).entered then (some (!((aK b (aA.mk false false 0 0 false false false false) a).quit))) else (some false)).bind fun c =>
  (bif c then (some (!((aK b (aA.mk false false 0 0 false false false false) a).had))) else (some false)).bind fun d =>
  some d
def qR (x : List Int) (a : Int → Int → Option Int) : Option (List Int) := sJ x a
def iN (a : aA) : Option Int :=
  bif decide (a.rank = 0) then (some 1)
  else (some 0)
def eN (a : Int) (b : Int) (c : aO) : Option Int :=
  (iN (aK a (aA.mk false false 0 0 false false false false) c.players)).bind fun d =>
  (iN (aK b (aA.mk false false 0 0 false false false false) c.players)).bind fun e =>
  (oA ([w64 (d - e), w64 (((aK a (aA.mk false false 0 0 false false false false) c.players).rank) - ((aK b (aA.mk false false 0 0 false false false false) c.players).rank)), w64 (((aK a (aA.mk false false 0 0 false false false false) c.players).turn) - ((aK b (aA.mk false false 0 0 false false false false) c.players).turn))])).bind fun f =>
  some f
def mC (a : ((List Int)) → Prop) (b : aO) (c : List Int) : Prop :=
  nb (qR c (fun d e => eN d e b)) fun f =>
  a f
def gY (a : ((List Int)) → Prop) (b : aO) : Nat → (List Int) → (List (Int × aA)) → Prop
 | 0, _, _ => False
 | g + 1, h, i =>
  aMs i (mC a b h)
  (fun c d =>
  nb (gH b.players c.1) fun e =>
  bif e then (nb (app 8 h ([c.1])) fun f =>
  (gY a b g) f d)
  else ((gY a b g) h d))
def oD (a : aO) (Q : ((List Int)) → Prop) : Prop :=
  aFg a.players fun b =>
  gY Q a BIG ([] : List Int) b
def fE (l : aO) : Option (List Int) := if l.players.length < 4294967296 then sJ ((l.players.filter fun p => (gH l.players p.1).getD false).map Prod.fst) (fun a b => eN a b l) else none
def pI (a : List Int) : Option ((List Int)) :=
  some a
def gI (a : aO) (b : List Int) (c : Int) : Nat → Int → (List Int) → Option ((List Int))
 | 0, _, _ => none
 | j + 1, k, l =>
  bif decide (k < c) then ((idx b k).bind fun d =>
  (eX a).bind fun e =>
  (bif decide ((l.length : Int) < e) then ((bif !((aK d (aA.mk false false 0 0 false false false false) a.players).guard) then (some true) else ((iZ a l).bind fun f =>
  some (decide (f < a.Field.Guards)))).bind fun g =>
  some g) else (some false)).bind fun h =>
  bif h then ((app 8 l ([d])).bind fun i =>
  (gI a b c j) (w64 (k + 1)) i)
  else ((gI a b c j) (w64 (k + 1)) l))
  else (pI l)
def kW (a : aO) : Option ((List Int)) :=
  (fE a).bind fun b =>
  gI a b (b.length : Int) BIG 0 ([] : List Int)
def kV (a : aO) : Option aO :=
  bif !a.frozen then ((kW a).bind fun b =>
  some (aO.mk a.Field a.players a.wilds true b a.late a.more a.entered))
  else (some a)
def nV : Option Int :=
  some (-1)
def fY (a : List Int) (b : Int → Option Bool) (c : Int) : Nat → Int → Option Int
 | 0, _ => none
 | f + 1, g =>
  bif decide (g < c) then ((idx a g).bind fun d =>
  (b d).bind fun e =>
  bif e then (some g)
  else ((fY a b c f) (w64 (g + 1))))
  else (nV)
def iF (a : List Int) (b : Int → Option Bool) : Option Int :=
  fY a b (a.length : Int) BIG 0
def nM (a : Int) (b : List Int) : Option ((List Int)) :=
  (chk (decide (0 ≤ a) && decide (a ≤ (b.length : Int)))).bind fun _ =>
  (chk (decide (a.toNat ≤ b.length))).bind fun _ =>
  (chk (decide (0 ≤ a))).bind fun _ =>
  some (b.take a.toNat)
def eP (a : Int → Option Bool) : Nat → Int → Int → (List Int) → Option ((List Int))
 | 0, _, _, _ => none
 | d + 1, e, f, g =>
  bif decide (f < (g.length : Int)) then ((idx g f).bind fun b =>
  (a b).bind fun c =>
  bif !c then ((idx g e).bind fun _ =>
  (eP a d) (w64 (e + 1)) (w64 (f + 1)) (g.set e.toNat b))
  else ((eP a d) e (w64 (f + 1)) g))
  else (nM e g)
def cU (a : List Int) (b : Int → Option Bool) : Option ((List Int)) :=
  (iF a b).bind fun c =>
  bif decide (c = (-1)) then (some a)
  else (eP b BIG c (w64 (c + 1)) a)
def eY (a : Int) (b : aM) : Option Bool :=
  some (decide (a = b.Player))
def kJ (a : aO) (b : aM) : Option aO :=
  bif decide (b.Kind = 1) then (bif decide (b.Kind = 1) then ((bif decide (b.Hour ≤ a.Field.Close) then (some (!((aK b.Player (aA.mk false false 0 0 false false false false) a.players).entered))) else (some false)).bind fun c =>
  bif c then (some (aO.mk a.Field (cT b.Player (aA.mk true (decide (b.Kind = 2)) b.Rank (w64 (a.entered + 1)) ((aK b.Player (aA.mk false false 0 0 false false false false) a.players).quit) ((aK b.Player (aA.mk false false 0 0 false false false false) a.players).signed) ((aK b.Player (aA.mk false false 0 0 false false false false) a.players).wild) ((aK b.Player (aA.mk false false 0 0 false false false false) a.players).had)) a.players) a.wilds a.frozen a.first a.late a.more (w64 (a.entered + 1))))
  else (some (aO.mk a.Field (cT b.Player (aK b.Player (aA.mk false false 0 0 false false false false) a.players) a.players) a.wilds a.frozen a.first a.late a.more a.entered)))
  else (bif decide (b.Kind = 3) then ((bif decide (b.Hour ≤ a.Field.Freeze) then (some (!((aK b.Player (aA.mk false false 0 0 false false false false) a.players).wild))) else (some false)).bind fun d =>
  (bif d then (some (!((aK b.Player (aA.mk false false 0 0 false false false false) a.players).quit))) else (some false)).bind fun e =>
  (bif e then (some (decide ((a.wilds.length : Int) < a.Field.Wilds))) else (some false)).bind fun f =>
  bif f then ((app 8 a.wilds ([b.Player])).bind fun g =>
  some (aO.mk a.Field (cT b.Player (aA.mk ((aK b.Player (aA.mk false false 0 0 false false false false) a.players).entered) ((aK b.Player (aA.mk false false 0 0 false false false false) a.players).guard) ((aK b.Player (aA.mk false false 0 0 false false false false) a.players).rank) ((aK b.Player (aA.mk false false 0 0 false false false false) a.players).turn) ((aK b.Player (aA.mk false false 0 0 false false false false) a.players).quit) ((aK b.Player (aA.mk false false 0 0 false false false false) a.players).signed) true true) a.players) g a.frozen a.first a.late a.more a.entered))
  else (some (aO.mk a.Field (cT b.Player (aK b.Player (aA.mk false false 0 0 false false false false) a.players) a.players) a.wilds a.frozen a.first a.late a.more a.entered)))
  else (bif decide (b.Kind = 4) then ((bif (aK b.Player (aA.mk false false 0 0 false false false false) a.players).wild then (some (decide (a.Field.Freeze < b.Hour))) else (some false)).bind fun h =>
  bif h then ((cU a.wilds (fun i => eY i b)).bind fun j =>
  some (aO.mk a.Field (cT b.Player (aA.mk ((aK b.Player (aA.mk false false 0 0 false false false false) a.players).entered) ((aK b.Player (aA.mk false false 0 0 false false false false) a.players).guard) ((aK b.Player (aA.mk false false 0 0 false false false false) a.players).rank) ((aK b.Player (aA.mk false false 0 0 false false false false) a.players).turn) true ((aK b.Player (aA.mk false false 0 0 false false false false) a.players).signed) false ((aK b.Player (aA.mk false false 0 0 false false false false) a.players).had)) a.players) j a.frozen a.first a.late (w64 (a.more + 1)) a.entered))
  else ((cU a.wilds (fun k => eY k b)).bind fun l =>
  some (aO.mk a.Field (cT b.Player (aA.mk ((aK b.Player (aA.mk false false 0 0 false false false false) a.players).entered) ((aK b.Player (aA.mk false false 0 0 false false false false) a.players).guard) ((aK b.Player (aA.mk false false 0 0 false false false false) a.players).rank) ((aK b.Player (aA.mk false false 0 0 false false false false) a.players).turn) true ((aK b.Player (aA.mk false false 0 0 false false false false) a.players).signed) false ((aK b.Player (aA.mk false false 0 0 false false false false) a.players).had)) a.players) l a.frozen a.first a.late a.more a.entered)))
  else (bif decide (b.Kind = 5) then (some (aO.mk a.Field (cT b.Player (aA.mk ((aK b.Player (aA.mk false false 0 0 false false false false) a.players).entered) ((aK b.Player (aA.mk false false 0 0 false false false false) a.players).guard) ((aK b.Player (aA.mk false false 0 0 false false false false) a.players).rank) ((aK b.Player (aA.mk false false 0 0 false false false false) a.players).turn) ((aK b.Player (aA.mk false false 0 0 false false false false) a.players).quit) true ((aK b.Player (aA.mk false false 0 0 false false false false) a.players).wild) ((aK b.Player (aA.mk false false 0 0 false false false false) a.players).had)) a.players) a.wilds a.frozen a.first a.late a.more a.entered))
  else (some (aO.mk a.Field (cT b.Player (aK b.Player (aA.mk false false 0 0 false false false false) a.players) a.players) a.wilds a.frozen a.first a.late a.more a.entered))))))
  else (bif decide (b.Kind = 2) then ((bif decide (b.Hour ≤ a.Field.Close) then (some (!((aK b.Player (aA.mk false false 0 0 false false false false) a.players).entered))) else (some false)).bind fun m =>
  bif m then (some (aO.mk a.Field (cT b.Player (aA.mk true (decide (b.Kind = 2)) b.Rank (w64 (a.entered + 1)) ((aK b.Player (aA.mk false false 0 0 false false false false) a.players).quit) ((aK b.Player (aA.mk false false 0 0 false false false false) a.players).signed) ((aK b.Player (aA.mk false false 0 0 false false false false) a.players).wild) ((aK b.Player (aA.mk false false 0 0 false false false false) a.players).had)) a.players) a.wilds a.frozen a.first a.late a.more (w64 (a.entered + 1))))
  else (some (aO.mk a.Field (cT b.Player (aK b.Player (aA.mk false false 0 0 false false false false) a.players) a.players) a.wilds a.frozen a.first a.late a.more a.entered)))
  else (bif decide (b.Kind = 3) then ((bif decide (b.Hour ≤ a.Field.Freeze) then (some (!((aK b.Player (aA.mk false false 0 0 false false false false) a.players).wild))) else (some false)).bind fun n =>
  (bif n then (some (!((aK b.Player (aA.mk false false 0 0 false false false false) a.players).quit))) else (some false)).bind fun o =>
  (bif o then (some (decide ((a.wilds.length : Int) < a.Field.Wilds))) else (some false)).bind fun p =>
  bif p then ((app 8 a.wilds ([b.Player])).bind fun q =>
  some (aO.mk a.Field (cT b.Player (aA.mk ((aK b.Player (aA.mk false false 0 0 false false false false) a.players).entered) ((aK b.Player (aA.mk false false 0 0 false false false false) a.players).guard) ((aK b.Player (aA.mk false false 0 0 false false false false) a.players).rank) ((aK b.Player (aA.mk false false 0 0 false false false false) a.players).turn) ((aK b.Player (aA.mk false false 0 0 false false false false) a.players).quit) ((aK b.Player (aA.mk false false 0 0 false false false false) a.players).signed) true true) a.players) q a.frozen a.first a.late a.more a.entered))
  else (some (aO.mk a.Field (cT b.Player (aK b.Player (aA.mk false false 0 0 false false false false) a.players) a.players) a.wilds a.frozen a.first a.late a.more a.entered)))
  else (bif decide (b.Kind = 4) then ((bif (aK b.Player (aA.mk false false 0 0 false false false false) a.players).wild then (some (decide (a.Field.Freeze < b.Hour))) else (some false)).bind fun r =>
  bif r then ((cU a.wilds (fun s => eY s b)).bind fun t =>
  some (aO.mk a.Field (cT b.Player (aA.mk ((aK b.Player (aA.mk false false 0 0 false false false false) a.players).entered) ((aK b.Player (aA.mk false false 0 0 false false false false) a.players).guard) ((aK b.Player (aA.mk false false 0 0 false false false false) a.players).rank) ((aK b.Player (aA.mk false false 0 0 false false false false) a.players).turn) true ((aK b.Player (aA.mk false false 0 0 false false false false) a.players).signed) false ((aK b.Player (aA.mk false false 0 0 false false false false) a.players).had)) a.players) t a.frozen a.first a.late (w64 (a.more + 1)) a.entered))
  else ((cU a.wilds (fun u => eY u b)).bind fun v =>
  some (aO.mk a.Field (cT b.Player (aA.mk ((aK b.Player (aA.mk false false 0 0 false false false false) a.players).entered) ((aK b.Player (aA.mk false false 0 0 false false false false) a.players).guard) ((aK b.Player (aA.mk false false 0 0 false false false false) a.players).rank) ((aK b.Player (aA.mk false false 0 0 false false false false) a.players).turn) true ((aK b.Player (aA.mk false false 0 0 false false false false) a.players).signed) false ((aK b.Player (aA.mk false false 0 0 false false false false) a.players).had)) a.players) v a.frozen a.first a.late a.more a.entered)))
  else (bif decide (b.Kind = 5) then (some (aO.mk a.Field (cT b.Player (aA.mk ((aK b.Player (aA.mk false false 0 0 false false false false) a.players).entered) ((aK b.Player (aA.mk false false 0 0 false false false false) a.players).guard) ((aK b.Player (aA.mk false false 0 0 false false false false) a.players).rank) ((aK b.Player (aA.mk false false 0 0 false false false false) a.players).turn) ((aK b.Player (aA.mk false false 0 0 false false false false) a.players).quit) true ((aK b.Player (aA.mk false false 0 0 false false false false) a.players).wild) ((aK b.Player (aA.mk false false 0 0 false false false false) a.players).had)) a.players) a.wilds a.frozen a.first a.late a.more a.entered))
  else (some (aO.mk a.Field (cT b.Player (aK b.Player (aA.mk false false 0 0 false false false false) a.players) a.players) a.wilds a.frozen a.first a.late a.more a.entered))))))
def fS (a : Int) (b : List (Int × aA)) : Option Bool :=
  (gH b a).bind fun c =>
  some (!c)
def oI (a : Int) : Option ((List Int)) :=
  bif decide (a < 0) then (none)
  else (bif decide (0 < (w64 (a - (w64 (0 - 0))))) then ((chk (decide (0 ≤ 0))).bind fun _ =>
  (chk (decide (0 < (w64 (a - (w64 (0 - 0))))) && decide ((w64 (a - (w64 (0 - 0)))) * ((8 : Nat) : Int) ≤ 140737488355328))).bind fun _ =>
  (chk (decide (0 ≤ 0))).bind fun _ =>
  some ([] : List Int))
  else (some ([] : List Int)))
def tP (a : List Int) : Option ((List Int)) :=
  some a
def gJ (a : List (List Int)) (b : Int) : Nat → Int → (List Int) → Option ((List Int))
 | 0, _, _ => none
 | e + 1, f, g =>
  bif decide (f < b) then ((idx a f).bind fun c =>
  (app 8 g c).bind fun d =>
  (gJ a b e) (w64 (f + 1)) d)
  else (tP g)
def pM (a : List (List Int)) (b : Int) : Option ((List Int)) :=
  (oI b).bind fun c =>
  gJ a (a.length : Int) BIG 0 c
def iE (a : List (List Int)) (b : List (List Int)) (c : Int) : Nat → Int → Int → Option ((List Int))
 | 0, _, _ => none
 | e + 1, f, g =>
  bif decide (g < c) then ((idx b g).bind fun d =>
  bif decide ((w64 (f + (d.length : Int))) < 0) then (none)
  else ((iE a b c e) (w64 (f + (d.length : Int))) (w64 (g + 1))))
  else (pM a f)
def mP (a : List (List Int)) : Option ((List Int)) :=
  iE a a (a.length : Int) BIG 0 0
def eH (a : aO) : Option ((List Int)) :=
  bif !a.frozen then ((kW a).bind fun b =>
  some b)
  else ((mP ([a.first, a.late])).bind fun c =>
  some c)
def nU : Option Int :=
  some (-1)
def eU (a : List Int) (b : Int) (c : Int) : Nat → Int → Option Int
 | 0, _ => none
 | e + 1, f =>
  bif decide (f < c) then ((idx a f).bind fun d =>
  bif decide (b = d) then (some f)
  else ((eU a b c e) (w64 (f + 1))))
  else (nU)
def iT (a : List Int) (b : Int) : Option Int :=
  eU a b (a.length : Int) BIG 0
def jN (a : List Int) (b : Int) : Option Bool :=
  (iT a b).bind fun c =>
  some (decide (0 ≤ c))
def kU (a : Int) (b : aO) (c : List Int) : Option Bool :=
  (bif (aK a (aA.mk false false 0 0 false false false false) b.players).signed then ((jN c a).bind fun d =>
  some (!d)) else (some false)).bind fun e =>
  (bif e then ((bif !((aK a (aA.mk false false 0 0 false false false false) b.players).guard) then (some true) else ((iZ b c).bind fun f =>
  some (decide (f < b.Field.Guards)))).bind fun g =>
  some g) else (some false)).bind fun h =>
  some h
def oE (a : List (Int × aA)) (b : List Int) (c : List Int) (d : List Int) (e : aY) (f : Bool) (g : Int) (h : Int) : Option aO :=
  some (aO.mk e a b f c d g h)
def iS (a : List (Int × aA)) (b : List Int) (c : List Int) : Nat → (List Int) → aY → Bool → Int → Int → (List Int) → Option aO
 | 0, _, _, _, _, _, _ => none
 | l + 1, m, n, o, p, q, r =>
  (eX (aO.mk n a b o c m p q)).bind fun d =>
  bif decide ((r.length : Int) < d) then ((fE (aO.mk n a b o c m p q)).bind fun e =>
  (iF e (fun f => kU f (aO.mk n a b o c m p q) r)).bind fun g =>
  bif decide (g < 0) then (some (aO.mk n a b o c m p q))
  else ((fE (aO.mk n a b o c m p q)).bind fun h =>
  (idx h g).bind fun i =>
  (app 8 m ([i])).bind fun j =>
  (eH (aO.mk n a b o c j p q)).bind fun k =>
  (iS a b c l) j n o p q k))
  else (oE a b c m n o p q)
def kI (a : aO) : Option aO :=
  (cU a.first (fun b => fS b a.players)).bind fun c =>
  (cU a.late (fun d => fS d a.players)).bind fun e =>
  (eH (aO.mk a.Field a.players a.wilds a.frozen c e a.more a.entered)).bind fun f =>
  iS a.players a.wilds c BIG e a.Field a.frozen a.more a.entered f
def mY (a : Int) (b : aY) (c : List (Int × aA)) (d : List Int) (e : List Int) (f : List Int) (g : aY) (h : Bool) (i : Int) (j : Int) : Option ((Option aO)) :=
  bif decide (b.Freeze < a) then ((kV (aO.mk g c d h e f i j)).bind fun k =>
  some (some k))
  else (some (some (aO.mk g c d h e f i j)))
def gA (a : Int) (b : Int) (c : aY) (d : List aM) : Nat → Int → (List (Int × aA)) → (List Int) → (List Int) → (List Int) → aY → Bool → Int → Int → Option ((Option aO))
 | 0, _, _, _, _, _, _, _, _, _ => none
 | k + 1, l, m, n, o, p, q, r, s, t =>
  bif decide (l < b) then ((idx d l).bind fun e =>
  bif decide (a < e.Hour) then (mY a c m n o p q r s t)
  else (bif decide (c.Freeze < e.Hour) then ((kV (aO.mk q m n r o p s t)).bind fun f =>
  (kJ f e).bind fun g =>
  bif g.frozen then ((kI g).bind fun h =>
  (gA a b c d k) (w64 (l + 1)) h.players h.wilds h.first h.late h.Field h.frozen h.more h.entered)
  else ((gA a b c d k) (w64 (l + 1)) g.players g.wilds g.first g.late g.Field g.frozen g.more g.entered))
  else ((kJ (aO.mk q m n r o p s t) e).bind fun i =>
  bif i.frozen then ((kI i).bind fun j =>
  (gA a b c d k) (w64 (l + 1)) j.players j.wilds j.first j.late j.Field j.frozen j.more j.entered)
  else ((gA a b c d k) (w64 (l + 1)) i.players i.wilds i.first i.late i.Field i.frozen i.more i.entered))))
  else (mY a c m n o p q r s t)
def pY (a : aY) (b : List aM) (c : Int) : Option ((Option aO)) :=
  (kQ b).bind fun _ =>
  (hC b (fun d e => eM d e)).bind fun f =>
  (gQ f).bind fun g =>
  gA c (g.length : Int) a g BIG 0 ([] : List (Int × aA)) ([] : List Int) ([] : List Int) ([] : List Int) a false 0 0
def oF (a : aY) (b : List aM) (c : Int) (d : Int) : Option ((Option aO) × Int) :=
  (pX a b).bind fun e =>
  bif !decide (e = 0) then (some ((none : Option aO), e))
  else ((cJ c 0 9999).bind fun f =>
  (bif !f then (some true) else ((cJ d 0 999).bind fun g =>
  some (!g))).bind fun h =>
  bif h then (some ((none : Option aO), 1))
  else ((pY a b c).bind fun i =>
  some (i, 0)))
def lM (a : Int) (b : List Int) : Option Bool :=
  (jN b a).bind fun c =>
  some c
def iW (a : aO) : Option ((List Int)) :=
  (eH a).bind fun b =>
  (fE a).bind fun c =>
  (cU c (fun d => lM d b)).bind fun e =>
  some e
def lR (a : aY) (b : List aM) (c : Int) : Option (bU × Int) :=
  (oF a b c 0).bind fun d =>
  bif !decide (d.2 = 0) then (some ((bU.mk ([] : List Int) ([] : List Int) ([] : List Int) 0), d.2))
  else ((d.1).bind fun e =>
  (eH e).bind fun f =>
  (d.1).bind fun g =>
  (iW g).bind fun h =>
  (eX g).bind fun i =>
  some ((bU.mk f g.wilds h (w64 (i - (f.length : Int)))), 0))
def qN : Option (Int × Int) :=
  some (0, 0)
def jM (a : Int) (b : List (List Int)) (c : Int) : Nat → Int → Option (Int × Int)
 | 0, _ => none
 | f + 1, g =>
  bif decide (g < c) then ((idx b g).bind fun d =>
  (iT d a).bind fun e =>
  bif decide (0 ≤ e) then (some (w64 (g + 1), w64 (e + 1)))
  else ((jM a b c f) (w64 (g + 1))))
  else (qN)
def jV (a : aO) (b : Int) : Option (Int × Int) :=
  (eH a).bind fun c =>
  (iW a).bind fun d =>
  jM b ([c, a.wilds, d]) (([c, a.wilds, d]).length : Int) BIG 0
def nR (a : Int) (b : aO) : Option Bool :=
  some (!((aK a (aA.mk false false 0 0 false false false false) b.players).signed))
def lS (a : aZ → aZ → Option (aZ × Bool)) (_ : aO) (_ : List Int) (_ : Int) (b : aZ) (c : aZ) : Option (aZ × Bool) :=
  a b c
def iL (a : aZ → aZ → Option (aZ × Bool)) (b : aO) (c : List Int) (d : Int) (e : Bool) (f : aZ) (g : aZ) : Option (aZ × Bool) :=
  bif !e then (some (f, false))
  else (lS a b c d f g)
def iM (a : aZ → aZ → Option (aZ × Bool)) (b : aO) (c : List Int) (d : Int) (e : List Int) (f : Int) : Nat → Int → Int → Bool → Int → aZ → aZ → Option (aZ × Bool)
 | 0, _, _, _, _, _, _ => none
 | k + 1, l, m, n, o, p, q =>
  bif decide (o < f) then ((idx e o).bind fun g =>
  (bif (aK g (aA.mk false false 0 0 false false false false) b.players).guard then (some (decide (m < p.covered))) else (some false)).bind fun h =>
  bif h then ((iM a b c d e f k) l (w64 (m + 1)) n (w64 (o + 1)) p q)
  else ((bif !((aK g (aA.mk false false 0 0 false false false false) b.players).guard) then (some (decide (l < p.moved))) else (some false)).bind fun i =>
  bif i then ((iM a b c d e f k) (w64 (l + 1)) m n (w64 (o + 1)) p q)
  else ((bif (aK g (aA.mk false false 0 0 false false false false) b.players).guard then (some (decide (b.Field.Guards ≤ p.guarded))) else (some false)).bind fun j =>
  bif j then ((iM a b c d e f k) l m n (w64 (o + 1)) p q)
  else (bif decide (g = d) then (some (p, true))
  else (bif (aK g (aA.mk false false 0 0 false false false false) b.players).guard then (iL a b c d true (aZ.mk p.free (w64 (p.guarded + 1)) p.moved (w64 (p.covered + 1))) q)
  else (iL a b c d true (aZ.mk (w64 (p.free + 1)) p.guarded (w64 (p.moved + 1)) p.covered) q))))))
  else (iL a b c d n p q)
def sA (a : aZ) (_ : aZ) : Option (aZ × Bool) :=
  some (a, false)
def jO (a : aO) (b : List Int) (c : Int) : Nat → aZ → aZ → Option (aZ × Bool)
 | 0, _, _ => none
 | e + 1, f, g =>
  (eX a).bind fun d =>
  bif decide ((w64 (f.free + f.guarded)) < d) then (iM (jO a b c e) a b c b (b.length : Int) BIG 0 0 false 0 f g)
  else (sA f g)
def nS (a : aZ) (b : aO) (c : List Int) (d : Int) : Option (aZ × Bool) :=
  jO b c d BIG a (aZ.mk 0 0 0 0)
def tE (_ : (List aZ) → Int → (List (aZ × Int)) → Option Int) (a : Int → (List aZ) → (List (aZ × Int)) → Option Int) (_ : aO) (_ : List Int) (_ : Int) (_ : Int) (_ : List aZ) (_ : Int) (b : Int) (c : List aZ) (d : List (aZ × Int)) : Option Int :=
  a (w64 (b + 1)) c d
def tF (a : (List aZ) → Int → (List (aZ × Int)) → Option Int) (b : Int → (List aZ) → (List (aZ × Int)) → Option Int) (c : aO) (d : List Int) (e : Int) (f : Int) (g : List aZ) (h : Int) (i : Int) (j : List aZ) (k : List (aZ × Int)) : Option Int :=
  tE a b c d e f g h i j k
def fA (a : (List aZ) → Int → (List (aZ × Int)) → Option Int) (b : Int → (List aZ) → (List (aZ × Int)) → Option Int) (c : aO) (d : List Int) (e : Int) (f : Int) (g : List aZ) (h : Int) (i : Int) (j : aZ) : Nat → Int → (List aZ) → (List (aZ × Int)) → Option Int
 | 0, _, _, _ => none
 | q + 1, r, s, t =>
  bif decide (r < 2) then (bif decide (r = 1) then ((bif decide ((w64 (j.guarded - 1)) < 0) then (some true) else (some (decide (j.free < 0)))).bind fun k =>
  bif k then ((fA a b c d e f g h i j q) (w64 (r + 1)) s t)
  else ((nS (aZ.mk j.free (w64 (j.guarded - 1)) j.moved j.covered) c d e).bind fun l =>
  bif l.2 then (some f)
  else (bif decide ((aK l.1 0 (cT l.1 (w64 ((aK l.1 0 t) + 1)) t)) = 1) then ((app 32 s ([l.1])).bind fun m =>
  (fA a b c d e f g h i j q) (w64 (r + 1)) m (cT l.1 (w64 ((aK l.1 0 t) + 1)) t))
  else ((fA a b c d e f g h i j q) (w64 (r + 1)) s (cT l.1 (w64 ((aK l.1 0 t) + 1)) t)))))
  else ((bif decide (j.guarded < 0) then (some true) else (some (decide ((w64 (j.free - 1)) < 0)))).bind fun n =>
  bif n then ((fA a b c d e f g h i j q) (w64 (r + 1)) s t)
  else ((nS (aZ.mk (w64 (j.free - 1)) j.guarded j.moved j.covered) c d e).bind fun o =>
  bif o.2 then (some f)
  else (bif decide ((aK o.1 0 (cT o.1 (w64 ((aK o.1 0 t) + 1)) t)) = 1) then ((app 32 s ([o.1])).bind fun p =>
  (fA a b c d e f g h i j q) (w64 (r + 1)) p (cT o.1 (w64 ((aK o.1 0 t) + 1)) t))
  else ((fA a b c d e f g h i j q) (w64 (r + 1)) s (cT o.1 (w64 ((aK o.1 0 t) + 1)) t))))))
  else (tF a b c d e f g h i s t)
def tC (a : (List aZ) → Int → (List (aZ × Int)) → Option Int) (_ : aO) (_ : List Int) (_ : Int) (b : Int) (c : List aZ) (d : List (aZ × Int)) : Option Int :=
  a c (w64 (b + 1)) d
def tD (a : (List aZ) → Int → (List (aZ × Int)) → Option Int) (b : aO) (c : List Int) (d : Int) (e : Int) (f : List aZ) (g : List (aZ × Int)) : Option Int :=
  tC a b c d e f g
def kH (a : (List aZ) → Int → (List (aZ × Int)) → Option Int) (b : aO) (c : List Int) (d : Int) (e : Int) (f : List aZ) (g : Int) : Nat → Int → (List aZ) → (List (aZ × Int)) → Option Int
 | 0, _, _, _ => none
 | i + 1, j, k, l =>
  bif decide (j < g) then ((idx f j).bind fun h =>
  fA a (kH a b c d e f g i) b c d e f g j h BIG 0 k l)
  else (tD a b c d e k l)
def tB : Option Int :=
  some 61
def iB (a : aO) (b : List Int) (c : Int) : Nat → (List aZ) → Int → (List (aZ × Int)) → Option Int
 | 0, _, _, _ => none
 | d + 1, e, f, g =>
  bif decide (0 < (e.length : Int)) then (kH (iB a b c d) a b c f e (e.length : Int) BIG 0 ([] : List aZ) g)
  else (tB)
def rT (a : aO) (b : Int) : Option Int :=
  (eH a).bind fun c =>
  (iZ a c).bind fun d =>
  (iW a).bind fun e =>
  (cU e (fun f => nR f a)).bind fun g =>
  iB a g b BIG ([(aZ.mk (w64 ((c.length : Int) - d)) d 0 0)]) 1 ([] : List (aZ × Int))
def pF (a : Int → Int → Option Int) (_ : aO) (_ : Int) (_ : Int) (_ : Int) (b : Int) (_ : Int) (c : Int) : Option Int :=
  a b (w64 (c + 1))
def pG (a : Int → Int → Option Int) (b : aO) (c : Int) (d : Int) (e : Int) (f : Int) (g : Int) (h : Int) : Option Int :=
  pF a b c d e f g h
def iA (a : Int → Int → Option Int) (b : aO) (c : Int) (d : Int) (e : Int) (f : Int) (g : Int) (h : Int) (i : Int) : Nat → Int → Int → Option Int
 | 0, _, _ => none
 | m + 1, n, o =>
  bif decide (o < i) then ((eX b).bind fun j =>
  (bif decide ((w64 ((w64 (d - f)) + (min (w64 (e - o)) b.Field.Guards))) < j) then ((bif !((aK c (aA.mk false false 0 0 false false false false) b.players).guard) then (some true) else (some (decide ((min (w64 (e - o)) b.Field.Guards) < b.Field.Guards)))).bind fun k =>
  some k) else (some false)).bind fun l =>
  bif l then ((iA a b c d e f g h i m) (min n (w64 (f + o))) (w64 (o + 1)))
  else ((iA a b c d e f g h i m) n (w64 (o + 1))))
  else (pG a b c d e n g h)
def pE (a : Int) : Option Int :=
  some a
def gF (a : aO) (b : Int) (c : Int) (d : Int) (e : Int) : Nat → Int → Int → Option Int
 | 0, _, _ => none
 | f + 1, g, h =>
  bif decide (h < e) then (iA (gF a b c d e f) a b c d h e h (w64 (d + 1)) BIG g 0)
  else (pE g)
def mQ (a : aO) (b : Int) (c : Int) (d : Int) : Option Int :=
  gF a b c d (w64 (c + 1)) BIG 61 0
def kG (a : aO) (b : Int) (c : List Int) (d : Int) : Nat → Int → Int → Int → Option Int
 | 0, _, _, _ => none
 | f + 1, g, h, i =>
  bif decide (i < d) then ((idx c i).bind fun e =>
  bif decide (e = b) then (mQ a b g h)
  else (bif (aK e (aA.mk false false 0 0 false false false false) a.players).guard then ((kG a b c d f) g (w64 (h + 1)) (w64 (i + 1)))
  else ((kG a b c d f) (w64 (g + 1)) h (w64 (i + 1)))))
  else (mQ a b g h)
def mM (a : aO) (b : Int) : Option Int :=
  (fE a).bind fun c =>
  kG a b c (c.length : Int) BIG 0 0 0
def rZ (a : aY) (b : List aM) (c : Int) (d : Int) : Option (Int × Int) :=
  (oF a b c d).bind fun e =>
  bif !decide (e.2 = 0) then (some (0, e.2))
  else ((e.1).bind fun f =>
  (jV f d).bind fun g =>
  bif decide (g.1 = 1) then (bif decide (0 = 61) then (some (0, 3))
  else (some (0, 0)))
  else ((bif decide (g.1 = 3) then ((e.1).bind fun h =>
  some h.frozen) else (some false)).bind fun i =>
  bif i then ((e.1).bind fun j =>
  (rT j d).bind fun k =>
  bif decide (k = 61) then (some (0, 3))
  else (some (k, 0)))
  else (bif decide (g.1 = 3) then ((e.1).bind fun l =>
  (mM l d).bind fun m =>
  bif decide (m = 61) then (some (0, 3))
  else (some (m, 0)))
  else (bif decide (61 = 61) then (some (0, 3))
  else (some (61, 0))))))
def slices_Sort_int (x : List Int) : Option (List Int) := if x.length < 4611686018427387904 then some (sK x) else none
def oZ (_ : Int → (List Int) → Option ((List Int))) (a : Int) (b : List Int) : Option ((List Int)) :=
  (chk (decide (0 ≤ a) && decide (a ≤ (b.length : Int)))).bind fun _ =>
  (chk (decide (a.toNat ≤ b.length))).bind fun _ =>
  (chk (decide (0 ≤ a))).bind fun _ =>
  some (b.take a.toNat)
def fR (a : Int → (List Int) → Option ((List Int))) (b : Int) : Nat → Int → Int → (List Int) → Option ((List Int))
 | 0, _, _, _ => none
 | f + 1, g, h, i =>
  bif decide (h < ((i.drop b.toNat).length : Int)) then ((idx (i.drop b.toNat) h).bind fun c =>
  (idx (i.drop b.toNat) (w64 (h - 1))).bind fun d =>
  bif !decide (c = d) then ((idx (i.drop b.toNat) h).bind fun e =>
  (idx i g).bind fun _ =>
  (fR a b f) (w64 (g + 1)) (w64 (h + 1)) (i.set g.toNat e))
  else ((fR a b f) g (w64 (h + 1)) i))
  else (oZ a g i)
def oY (a : Int → (List Int) → Option ((List Int))) (b : Int) (c : List Int) : Option ((List Int)) :=
  a (w64 (b + 1)) c
def oX (a : List Int) : Option ((List Int)) :=
  some a
def eC : Nat → Int → (List Int) → Option ((List Int))
 | 0, _, _ => none
 | c + 1, d, e =>
  bif decide (d < (e.length : Int)) then ((idx e d).bind fun a =>
  (idx e (w64 (d - 1))).bind fun b =>
  bif decide (a = b) then ((chk (decide (0 ≤ d) && decide (d ≤ (e.length : Int)))).bind fun _ =>
  fR (eC c) d BIG d 1 e)
  else (oY (eC c) d e))
  else (oX e)
def lZ (a : List Int) : Option ((List Int)) :=
  bif decide ((a.length : Int) < 2) then (some a)
  else (eC BIG 1 a)
def vR : Option (Int × Int) :=
  some (0, 3)
def mH (a : List aM) (b : Int) (c : Int) (d : aY) (e : List Int) : Nat → Int → Option (Int × Int)
 | 0, _ => none
 | k + 1, l =>
  bif decide (l < c) then ((idx e l).bind fun f =>
  (pY d a f).bind fun g =>
  (g).bind fun h =>
  (jV h b).bind fun i =>
  (bif decide (i.1 = 1) then (some true) else (some (decide (i.1 = 2)))).bind fun j =>
  bif j then (some (f, 0))
  else ((mH a b c d e k) (w64 (l + 1))))
  else (vR)
def sE (a : List aM) (b : Int) (c : aY) (d : List Int) : Option (Int × Int) :=
  (slices_Sort_int d).bind fun e =>
  (lZ e).bind fun f =>
  mH a b (f.length : Int) c f BIG 0
def mG (a : List aM) (b : Int) (c : List aM) (d : Int) (e : aY) : Nat → Int → (List Int) → Option (Int × Int)
 | 0, _, _ => none
 | h + 1, i, j =>
  bif decide (i < d) then ((idx c i).bind fun f =>
  (app 8 j ([f.Hour])).bind fun g =>
  (mG a b c d e h) (w64 (i + 1)) g)
  else (sE a b e j)
def rR (a : aY) (b : List aM) (c : Int) : Option (Int × Int) :=
  (oF a b 0 c).bind fun d =>
  bif !decide (d.2 = 0) then (some (0, d.2))
  else (mG b c b (b.length : Int) a BIG 0 ([] : List Int))
def oK : Option Bool :=
  some true
def gL (a : List Int) (b : List Int) : Nat → Int → Option Bool
 | 0, _ => none
 | e + 1, f =>
  bif decide (f < (a.length : Int)) then ((idx a f).bind fun c =>
  (idx b f).bind fun d =>
  bif !decide (c = d) then (some false)
  else ((gL a b e) (w64 (f + 1))))
  else (oK)
def eR (a : List Int) (b : List Int) : Option Bool :=
  bif !decide ((a.length : Int) = (b.length : Int)) then (some false)
  else (gL a b BIG 0)
def lH : Option Bool :=
  (jW).bind fun a =>
  (lR a.1 a.2 12).bind fun b =>
  (rZ a.1 a.2 10 4).bind fun c =>
  (rR a.1 a.2 4).bind fun d =>
  (bif decide (b.2 = 0) then (some (decide (c.2 = 0))) else (some false)).bind fun e =>
  (bif e then (some (decide (d.2 = 0))) else (some false)).bind fun f =>
  (bif f then (some (decide (c.1 = 2))) else (some false)).bind fun g =>
  (bif g then (some (decide (d.1 = 15))) else (some false)).bind fun h =>
  (bif h then ((eR b.1.Main ([9, 8, 5])).bind fun i =>
  some i) else (some false)).bind fun j =>
  (bif j then ((eR b.1.Wilds ([7])).bind fun k =>
  some k) else (some false)).bind fun l =>
  (bif l then ((eR b.1.Out ([6, 4])).bind fun m =>
  some m) else (some false)).bind fun n =>
  some n
def jE (a : bU) (b : bU) : Option Bool :=
  (eR a.Main b.Main).bind fun c =>
  (bif c then ((eR a.Wilds b.Wilds).bind fun d =>
  some d) else (some false)).bind fun e =>
  (bif e then ((eR a.Out b.Out).bind fun f =>
  some f) else (some false)).bind fun g =>
  (bif g then (some (decide (a.Open = b.Open))) else (some false)).bind fun h =>
  some h
def lK (a : aY) (b : List aM) (c : Int) (d : Int) : Option Int :=
  (lJ a b).bind fun e =>
  bif !decide (e = 0) then (some e)
  else ((cN c 0 9999).bind fun f =>
  (bif !f then (some true) else ((cN d 0 999).bind fun g =>
  some (!g))).bind fun h =>
  bif h then (some 1)
  else (some 0))
def jL (a : Int → (List aM) → Option ((List aM))) (_ : List aM) (b : Int) (c : List aM) : Option ((List aM)) :=
  a (w64 (b + 1)) c
def qK (a : Int → (List aM) → Option ((List aM))) (b : List aM) (c : Int) (d : List aM) : Option ((List aM)) :=
  jL a b c d
def iP (a : Int → (List aM) → Option ((List aM))) (b : List aM) (c : Int) (d : Int) : Nat → Int → (List aM) → Option ((List aM))
 | 0, _, _ => none
 | g + 1, h, i =>
  bif decide (d < h) then ((idx i (w64 (h - 1))).bind fun e =>
  (idx i h).bind fun f =>
  (idx i h).bind fun _ =>
  (idx (i.set h.toNat e) (w64 (h - 1))).bind fun _ =>
  (iP a b c d g) (w64 (h - 1)) ((i.set h.toNat e).set (w64 (h - 1)).toNat f))
  else (qK a b c i)
def nQ (a : Int → (List aM) → Option ((List aM))) (b : List aM) (c : Int) (d : Int) (e : Bool) (f : List aM) : Option ((List aM)) :=
  bif e then (jL a b c f)
  else ((idx b c).bind fun g =>
  (app 40 f ([g])).bind fun h =>
  iP a b c d BIG (w64 ((h.length : Int) - 1)) h)
def gV (a : Int → (List aM) → Option ((List aM))) (b : List aM) (c : Int) (d : List aM) : Nat → Int → Bool → Int → Option ((List aM))
 | 0, _, _, _ => none
 | p + 1, q, r, s =>
  bif decide (0 ≤ s) then ((bif r then (some true) else ((idx d s).bind fun e =>
  (idx b c).bind fun f =>
  some (decide (e = f)))).bind fun g =>
  (idx b c).bind fun h =>
  (idx d s).bind fun i =>
  (bif decide (h.Hour < i.Hour) then (some true) else ((idx b c).bind fun j =>
  (idx d s).bind fun k =>
  (bif decide (j.Hour = k.Hour) then ((idx b c).bind fun l =>
  (idx d s).bind fun m =>
  some (decide (l.Id < m.Id))) else (some false)).bind fun n =>
  some n)).bind fun o =>
  bif o then ((gV a b c d p) s g (w64 (s - 1)))
  else ((gV a b c d p) q g (w64 (s - 1))))
  else (nQ a b c q r d)
def qJ (a : List aM) : Option ((List aM)) :=
  some a
def dS (a : List aM) : Nat → Int → (List aM) → Option ((List aM))
 | 0, _, _ => none
 | b + 1, c, d =>
  bif decide (c < (a.length : Int)) then (gV (dS a b) a c d BIG (d.length : Int) false (w64 ((d.length : Int) - 1)))
  else (qJ d)
def nE (a : List aM) : Option ((List aM)) :=
  dS a BIG 0 ([] : List aM)
def sN : Option Int :=
  some (-1)
def jS (a : Int) (b : aN) : Nat → Int → Option Int
 | 0, _ => none
 | d + 1, e =>
  bif decide (e < (b.People.length : Int)) then ((idx b.People e).bind fun c =>
  bif decide (c.Player = a) then (some e)
  else ((jS a b d) (w64 (e + 1))))
  else (sN)
def pO (a : aN) (b : Int) : Option Int :=
  jS b a BIG 0
def sM : Option Bool :=
  some false
def jR (a : List Int) (b : Int) : Nat → Int → Option Bool
 | 0, _ => none
 | d + 1, e =>
  bif decide (e < (a.length : Int)) then ((idx a e).bind fun c =>
  bif decide (c = b) then (some true)
  else ((jR a b d) (w64 (e + 1))))
  else (sM)
def eV (a : List Int) (b : Int) : Option Bool :=
  jR a b BIG 0
def oU (a : List Int) : Option ((List Int)) :=
  some a
def fP (a : List Int) (b : Int) : Nat → Int → (List Int) → Option ((List Int))
 | 0, _, _ => none
 | f + 1, g, h =>
  bif decide (g < (a.length : Int)) then ((idx a g).bind fun c =>
  bif !decide (c = b) then ((idx a g).bind fun d =>
  (app 8 h ([d])).bind fun e =>
  (fP a b f) (w64 (g + 1)) e)
  else ((fP a b f) (w64 (g + 1)) h))
  else (oU h)
def dZ (a : List Int) (b : Int) : Option ((List Int)) :=
  fP a b BIG 0 ([] : List Int)
def jF (a : aY) (b : aN) (c : aM) : Option aN :=
  (app 24 ([] : List aD) b.People).bind fun d =>
  (pO (aN.mk d b.Wilds b.Back b.In) c.Player).bind fun e =>
  bif decide (e < 0) then ((app 24 d ([(aD.mk c.Player 0 false false false false false)])).bind fun f =>
  (idx f (w64 ((f.length : Int) - 1))).bind fun g =>
  bif decide (c.Kind = 1) then (bif decide (c.Kind = 1) then ((bif decide (a.Close < c.Hour) then (some true) else (some g.Entered)).bind fun h =>
  bif h then (some b)
  else ((sub f 0 (w64 ((f.length : Int) - 1))).bind fun i =>
  (app 24 ([] : List aD) i).bind fun j =>
  (sub f (w64 ((w64 ((f.length : Int) - 1)) + 1)) (f.length : Int)).bind fun k =>
  (app 24 j k).bind fun l =>
  (app 24 l ([(aD.mk g.Player c.Rank (decide (c.Kind = 2)) true g.Quit g.Signed g.Card)])).bind fun m =>
  some (aN.mk m b.Wilds b.Back b.In)))
  else (bif decide (c.Kind = 3) then ((bif decide (a.Freeze < c.Hour) then (some true) else (some g.Quit)).bind fun n =>
  (bif n then (some true) else ((eV b.Wilds c.Player).bind fun o =>
  some o)).bind fun p =>
  (bif p then (some true) else (some (decide (a.Wilds ≤ (b.Wilds.length : Int))))).bind fun q =>
  bif q then (some b)
  else ((app 8 ([] : List Int) b.Wilds).bind fun r =>
  (app 8 r ([c.Player])).bind fun s =>
  (idx f (w64 ((f.length : Int) - 1))).bind fun _ =>
  some (aN.mk (f.set (w64 ((f.length : Int) - 1)).toNat (aD.mk g.Player g.Rank g.Guard g.Entered g.Quit g.Signed true)) s b.Back b.In)))
  else (bif decide (c.Kind = 4) then ((eV b.Wilds c.Player).bind fun t =>
  (bif t then (some (decide (a.Freeze < c.Hour))) else (some false)).bind fun u =>
  bif u then ((dZ b.Wilds c.Player).bind fun v =>
  (idx f (w64 ((f.length : Int) - 1))).bind fun _ =>
  some (aN.mk (f.set (w64 ((f.length : Int) - 1)).toNat (aD.mk g.Player g.Rank g.Guard g.Entered true g.Signed g.Card)) v (w64 (b.Back + 1)) b.In))
  else ((dZ b.Wilds c.Player).bind fun w =>
  (idx f (w64 ((f.length : Int) - 1))).bind fun _ =>
  some (aN.mk (f.set (w64 ((f.length : Int) - 1)).toNat (aD.mk g.Player g.Rank g.Guard g.Entered true g.Signed g.Card)) w b.Back b.In)))
  else (bif decide (c.Kind = 5) then ((idx f (w64 ((f.length : Int) - 1))).bind fun _ =>
  some (aN.mk (f.set (w64 ((f.length : Int) - 1)).toNat (aD.mk g.Player g.Rank g.Guard g.Entered g.Quit true g.Card)) b.Wilds b.Back b.In))
  else ((idx f (w64 ((f.length : Int) - 1))).bind fun _ =>
  some (aN.mk (f.set (w64 ((f.length : Int) - 1)).toNat g) b.Wilds b.Back b.In))))))
  else (bif decide (c.Kind = 2) then ((bif decide (a.Close < c.Hour) then (some true) else (some g.Entered)).bind fun x =>
  bif x then (some b)
  else ((sub f 0 (w64 ((f.length : Int) - 1))).bind fun y =>
  (app 24 ([] : List aD) y).bind fun z =>
  (sub f (w64 ((w64 ((f.length : Int) - 1)) + 1)) (f.length : Int)).bind fun a0 =>
  (app 24 z a0).bind fun a1 =>
  (app 24 a1 ([(aD.mk g.Player c.Rank (decide (c.Kind = 2)) true g.Quit g.Signed g.Card)])).bind fun a2 =>
  some (aN.mk a2 b.Wilds b.Back b.In)))
  else (bif decide (c.Kind = 3) then ((bif decide (a.Freeze < c.Hour) then (some true) else (some g.Quit)).bind fun a3 =>
  (bif a3 then (some true) else ((eV b.Wilds c.Player).bind fun a4 =>
  some a4)).bind fun a5 =>
  (bif a5 then (some true) else (some (decide (a.Wilds ≤ (b.Wilds.length : Int))))).bind fun a6 =>
  bif a6 then (some b)
  else ((app 8 ([] : List Int) b.Wilds).bind fun a7 =>
  (app 8 a7 ([c.Player])).bind fun a8 =>
  (idx f (w64 ((f.length : Int) - 1))).bind fun _ =>
  some (aN.mk (f.set (w64 ((f.length : Int) - 1)).toNat (aD.mk g.Player g.Rank g.Guard g.Entered g.Quit g.Signed true)) a8 b.Back b.In)))
  else (bif decide (c.Kind = 4) then ((eV b.Wilds c.Player).bind fun a9 =>
  (bif a9 then (some (decide (a.Freeze < c.Hour))) else (some false)).bind fun b0 =>
  bif b0 then ((dZ b.Wilds c.Player).bind fun b1 =>
  (idx f (w64 ((f.length : Int) - 1))).bind fun _ =>
  some (aN.mk (f.set (w64 ((f.length : Int) - 1)).toNat (aD.mk g.Player g.Rank g.Guard g.Entered true g.Signed g.Card)) b1 (w64 (b.Back + 1)) b.In))
  else ((dZ b.Wilds c.Player).bind fun b2 =>
  (idx f (w64 ((f.length : Int) - 1))).bind fun _ =>
  some (aN.mk (f.set (w64 ((f.length : Int) - 1)).toNat (aD.mk g.Player g.Rank g.Guard g.Entered true g.Signed g.Card)) b2 b.Back b.In)))
  else (bif decide (c.Kind = 5) then ((idx f (w64 ((f.length : Int) - 1))).bind fun _ =>
  some (aN.mk (f.set (w64 ((f.length : Int) - 1)).toNat (aD.mk g.Player g.Rank g.Guard g.Entered g.Quit true g.Card)) b.Wilds b.Back b.In))
  else ((idx f (w64 ((f.length : Int) - 1))).bind fun _ =>
  some (aN.mk (f.set (w64 ((f.length : Int) - 1)).toNat g) b.Wilds b.Back b.In)))))))
  else ((idx d e).bind fun b3 =>
  bif decide (c.Kind = 1) then (bif decide (c.Kind = 1) then ((bif decide (a.Close < c.Hour) then (some true) else (some b3.Entered)).bind fun b4 =>
  bif b4 then (some b)
  else ((sub d 0 e).bind fun b5 =>
  (app 24 ([] : List aD) b5).bind fun b6 =>
  (sub d (w64 (e + 1)) (d.length : Int)).bind fun b7 =>
  (app 24 b6 b7).bind fun b8 =>
  (app 24 b8 ([(aD.mk b3.Player c.Rank (decide (c.Kind = 2)) true b3.Quit b3.Signed b3.Card)])).bind fun b9 =>
  some (aN.mk b9 b.Wilds b.Back b.In)))
  else (bif decide (c.Kind = 3) then ((bif decide (a.Freeze < c.Hour) then (some true) else (some b3.Quit)).bind fun c0 =>
  (bif c0 then (some true) else ((eV b.Wilds c.Player).bind fun c1 =>
  some c1)).bind fun c2 =>
  (bif c2 then (some true) else (some (decide (a.Wilds ≤ (b.Wilds.length : Int))))).bind fun c3 =>
  bif c3 then (some b)
  else ((app 8 ([] : List Int) b.Wilds).bind fun c4 =>
  (app 8 c4 ([c.Player])).bind fun c5 =>
  (idx d e).bind fun _ =>
  some (aN.mk (d.set e.toNat (aD.mk b3.Player b3.Rank b3.Guard b3.Entered b3.Quit b3.Signed true)) c5 b.Back b.In)))
  else (bif decide (c.Kind = 4) then ((eV b.Wilds c.Player).bind fun c6 =>
  (bif c6 then (some (decide (a.Freeze < c.Hour))) else (some false)).bind fun c7 =>
  bif c7 then ((dZ b.Wilds c.Player).bind fun c8 =>
  (idx d e).bind fun _ =>
  some (aN.mk (d.set e.toNat (aD.mk b3.Player b3.Rank b3.Guard b3.Entered true b3.Signed b3.Card)) c8 (w64 (b.Back + 1)) b.In))
  else ((dZ b.Wilds c.Player).bind fun c9 =>
  (idx d e).bind fun _ =>
  some (aN.mk (d.set e.toNat (aD.mk b3.Player b3.Rank b3.Guard b3.Entered true b3.Signed b3.Card)) c9 b.Back b.In)))
  else (bif decide (c.Kind = 5) then ((idx d e).bind fun _ =>
  some (aN.mk (d.set e.toNat (aD.mk b3.Player b3.Rank b3.Guard b3.Entered b3.Quit true b3.Card)) b.Wilds b.Back b.In))
  else ((idx d e).bind fun _ =>
  some (aN.mk (d.set e.toNat b3) b.Wilds b.Back b.In))))))
  else (bif decide (c.Kind = 2) then ((bif decide (a.Close < c.Hour) then (some true) else (some b3.Entered)).bind fun d0 =>
  bif d0 then (some b)
  else ((sub d 0 e).bind fun d1 =>
  (app 24 ([] : List aD) d1).bind fun d2 =>
  (sub d (w64 (e + 1)) (d.length : Int)).bind fun d3 =>
  (app 24 d2 d3).bind fun d4 =>
  (app 24 d4 ([(aD.mk b3.Player c.Rank (decide (c.Kind = 2)) true b3.Quit b3.Signed b3.Card)])).bind fun d5 =>
  some (aN.mk d5 b.Wilds b.Back b.In)))
  else (bif decide (c.Kind = 3) then ((bif decide (a.Freeze < c.Hour) then (some true) else (some b3.Quit)).bind fun d6 =>
  (bif d6 then (some true) else ((eV b.Wilds c.Player).bind fun d7 =>
  some d7)).bind fun d8 =>
  (bif d8 then (some true) else (some (decide (a.Wilds ≤ (b.Wilds.length : Int))))).bind fun d9 =>
  bif d9 then (some b)
  else ((app 8 ([] : List Int) b.Wilds).bind fun e0 =>
  (app 8 e0 ([c.Player])).bind fun e1 =>
  (idx d e).bind fun _ =>
  some (aN.mk (d.set e.toNat (aD.mk b3.Player b3.Rank b3.Guard b3.Entered b3.Quit b3.Signed true)) e1 b.Back b.In)))
  else (bif decide (c.Kind = 4) then ((eV b.Wilds c.Player).bind fun e2 =>
  (bif e2 then (some (decide (a.Freeze < c.Hour))) else (some false)).bind fun e3 =>
  bif e3 then ((dZ b.Wilds c.Player).bind fun e4 =>
  (idx d e).bind fun _ =>
  some (aN.mk (d.set e.toNat (aD.mk b3.Player b3.Rank b3.Guard b3.Entered true b3.Signed b3.Card)) e4 (w64 (b.Back + 1)) b.In))
  else ((dZ b.Wilds c.Player).bind fun e5 =>
  (idx d e).bind fun _ =>
  some (aN.mk (d.set e.toNat (aD.mk b3.Player b3.Rank b3.Guard b3.Entered true b3.Signed b3.Card)) e5 b.Back b.In)))
  else (bif decide (c.Kind = 5) then ((idx d e).bind fun _ =>
  some (aN.mk (d.set e.toNat (aD.mk b3.Player b3.Rank b3.Guard b3.Entered b3.Quit true b3.Card)) b.Wilds b.Back b.In))
  else ((idx d e).bind fun _ =>
  some (aN.mk (d.set e.toNat b3) b.Wilds b.Back b.In)))))))
def mK (a : aD) : Option Bool :=
  (bif a.Entered then (some (!a.Quit)) else (some false)).bind fun b =>
  (bif b then (some (!a.Card)) else (some false)).bind fun c =>
  some c
def jK (a : (List aD) → Int → Option ((List aD))) (b : List aD) (c : Int) (_ : aN) : Option ((List aD)) :=
  a b (w64 (c + 1))
def nP (a : (List aD) → Int → Option ((List aD))) (b : List aD) (c : Int) (d : Int) (e : aN) (f : aD) : Option ((List aD)) :=
  (sub b 0 d).bind fun g =>
  (app 24 ([] : List aD) g).bind fun h =>
  (app 24 h ([f])).bind fun i =>
  (sub b d (b.length : Int)).bind fun j =>
  (app 24 i j).bind fun k =>
  jK a k c e
def gU (a : (List aD) → Int → Option ((List aD))) (b : List aD) (c : Int) (d : aN) (e : aD) : Nat → Int → Int → Option ((List aD))
 | 0, _, _ => none
 | j + 1, k, l =>
  bif decide (0 ≤ l) then ((bif decide (0 < e.Rank) then ((idx b l).bind fun f =>
  (bif decide (f.Rank = 0) then (some true) else ((idx b l).bind fun g =>
  some (decide (e.Rank < g.Rank)))).bind fun h =>
  some h) else (some false)).bind fun i =>
  bif i then ((gU a b c d e j) l (w64 (l - 1)))
  else ((gU a b c d e j) k (w64 (l - 1))))
  else (nP a b c k d e)
def qH (a : List aD) : Option ((List aD)) :=
  some a
def eT (a : aN) : Nat → (List aD) → Int → Option ((List aD))
 | 0, _, _ => none
 | d + 1, e, f =>
  bif decide (f < (a.People.length : Int)) then ((idx a.People f).bind fun b =>
  (mK b).bind fun c =>
  bif !c then (jK (eT a d) e f a)
  else (gU (eT a d) e f a b BIG (e.length : Int) (w64 ((e.length : Int) - 1))))
  else (qH e)
def jT (a : aN) : Option ((List aD)) :=
  eT a BIG ([] : List aD) 0
def qF (a : Int → (List Int) → Option aN) (_ : List aD) (b : Int) (_ : aY) (_ : aN) (_ : aN) (c : List Int) : Option aN :=
  a (w64 (b + 1)) c
def lF (a : Int → (List Int) → Option aN) (b : List aD) (c : Int) (d : aY) (e : aN) (f : aN) (g : List Int) : Option aN :=
  qF a b c d e f g
def fJ (a : Int → (List Int) → Option aN) (b : List aD) (c : Int) (d : aY) (e : aN) (f : aN) : Nat → Int → (List Int) → Option aN
 | 0, _, _ => none
 | k + 1, l, m =>
  bif decide (l < (b.length : Int)) then ((idx b l).bind fun g =>
  (idx e.In c).bind fun h =>
  bif decide (g.Player = h) then ((idx e.In c).bind fun i =>
  (app 8 m ([i])).bind fun j =>
  (fJ a b c d e f k) (w64 (l + 1)) j)
  else ((fJ a b c d e f k) (w64 (l + 1)) m))
  else (lF a b c d e f m)
def jJ (a : aN) (_ : aN) (b : List Int) : Option aN :=
  some (aN.mk a.People a.Wilds a.Back b)
def qG (a : (List Int) → Option aN) (_ : List aD) (_ : aY) (_ : aN) (_ : aN) (b : List Int) : Option aN :=
  a b
def nO (a : (List Int) → Option aN) (b : List aD) (c : Int) (d : aY) (e : aN) (f : aN) (g : List Int) : Option aN :=
  bif decide (c < 0) then (jJ e f g)
  else ((app 8 g ([c])).bind fun h =>
  qG a b d e f h)
def gT (a : (List Int) → Option aN) (b : List aD) (c : Int) (d : aY) (e : aN) (f : aN) (g : List Int) : Nat → Int → Int → Option aN
 | 0, _, _ => none
 | p + 1, q, r =>
  bif decide (0 ≤ r) then ((idx b r).bind fun h =>
  (bif h.Signed then ((idx b r).bind fun i =>
  (eV g i.Player).bind fun j =>
  some (!j)) else (some false)).bind fun k =>
  (bif k then ((idx b r).bind fun l =>
  (bif !l.Guard then (some true) else (some (decide (c < d.Guards)))).bind fun m =>
  some m) else (some false)).bind fun n =>
  bif n then ((idx b r).bind fun o =>
  (gT a b c d e f g p) o.Player (w64 (r - 1)))
  else ((gT a b c d e f g p) q (w64 (r - 1))))
  else (nO a b q d e f g)
def lG (a : (List Int) → Option aN) (b : List aD) (c : Int) (d : aY) (e : aN) (f : aN) (g : List Int) : Option aN :=
  gT a b c d e f g BIG (-1) (w64 ((b.length : Int) - 1))
def fK (a : (List Int) → Option aN) (b : List aD) (c : aY) (d : aN) (e : aN) (f : List Int) : Nat → Int → Int → Option aN
 | 0, _, _ => none
 | k + 1, l, m =>
  bif decide (m < (b.length : Int)) then ((idx b m).bind fun g =>
  (bif g.Guard then ((idx b m).bind fun h =>
  (eV f h.Player).bind fun i =>
  some i) else (some false)).bind fun j =>
  bif j then ((fK a b c d e f k) (w64 (l + 1)) (w64 (m + 1)))
  else ((fK a b c d e f k) l (w64 (m + 1))))
  else (lG a b l c d e f)
def eS (a : List aD) (b : aY) (c : aN) (d : aN) : Nat → (List Int) → Option aN
 | 0, _ => none
 | e + 1, f =>
  bif decide ((f.length : Int) < (w64 (b.Places + c.Back))) then (fK (eS a b c d e) a b c d f BIG 0 0)
  else (jJ c d f)
def lE (a : List aD) (b : aY) (c : aN) (d : aN) (e : List Int) : Option aN :=
  eS a b c d BIG e
def fI (a : List aD) (b : aY) (c : aN) (d : aN) : Nat → Int → (List Int) → Option aN
 | 0, _, _ => none
 | e + 1, f, g =>
  bif decide (f < (c.In.length : Int)) then (fJ (fI a b c d e) a f b c d BIG 0 g)
  else (lE a b c d g)
def nC (a : aY) (b : aN) : Option aN :=
  (jT b).bind fun c =>
  fI c a b (aN.mk ([] : List aD) ([] : List Int) 0 ([] : List Int)) BIG 0 ([] : List Int)
def pC (a : List Int) : Option ((List Int)) :=
  some a
def eZ (a : List aD) (b : aY) : Nat → Int → Int → (List Int) → Option ((List Int))
 | 0, _, _, _ => none
 | i + 1, j, k, l =>
  bif decide (k < (a.length : Int)) then ((bif decide ((l.length : Int) < b.Places) then ((idx a k).bind fun c =>
  (bif !c.Guard then (some true) else (some (decide (j < b.Guards)))).bind fun d =>
  some d) else (some false)).bind fun e =>
  bif e then ((idx a k).bind fun f =>
  (app 8 l ([f.Player])).bind fun g =>
  (idx a k).bind fun h =>
  bif h.Guard then ((eZ a b i) (w64 (j + 1)) (w64 (k + 1)) g)
  else ((eZ a b i) j (w64 (k + 1)) g))
  else ((eZ a b i) j (w64 (k + 1)) l))
  else (pC l)
def mL (a : aY) (b : aN) : Option ((List Int)) :=
  (jT b).bind fun c =>
  eZ c a BIG 0 0 ([] : List Int)
def oS (a : aY) (b : aN) (c : aM) : Option aN :=
  (jF a b c).bind fun d =>
  bif decide (a.Freeze < c.Hour) then ((nC a d).bind fun e =>
  some e)
  else ((mL a d).bind fun f =>
  some (aN.mk d.People d.Wilds d.Back f))
def lC (_ : aN) (a : aN) : Option aN :=
  some a
def iO (a : Int) (b : List aM) (c : aY) (d : aN) : Nat → Int → aN → Option aN
 | 0, _, _ => none
 | h + 1, i, j =>
  bif decide (i < (b.length : Int)) then ((idx b i).bind fun e =>
  bif decide (a < e.Hour) then (lC d j)
  else ((idx b i).bind fun f =>
  (oS c j f).bind fun g =>
  (iO a b c d h) (w64 (i + 1)) g))
  else (lC d j)
def lI (a : aY) (b : List aM) (c : Int) : Option aN :=
  (nE b).bind fun d =>
  iO c d a (aN.mk ([] : List aD) ([] : List Int) 0 ([] : List Int)) BIG 0 (aN.mk ([] : List aD) ([] : List Int) 0 ([] : List Int))
def oR (_ : bU) (a : List Int) (b : List Int) (c : List Int) (d : Int) : Option bU :=
  some (bU.mk b c a d)
def fO (a : List aD) (b : aN) (c : bU) : Nat → Int → (List Int) → (List Int) → (List Int) → Int → Option bU
 | 0, _, _, _, _, _ => none
 | h + 1, i, j, k, l, m =>
  bif decide (i < (a.length : Int)) then ((idx a i).bind fun d =>
  (eV b.In d.Player).bind fun e =>
  bif !e then ((idx a i).bind fun f =>
  (app 8 j ([f.Player])).bind fun g =>
  (fO a b c h) (w64 (i + 1)) g k l m)
  else ((fO a b c h) (w64 (i + 1)) j k l m))
  else (oR c j k l m)
def jX (a : aY) (b : aN) : Option bU :=
  (jT b).bind fun c =>
  fO c b (bU.mk ([] : List Int) ([] : List Int) ([] : List Int) 0) BIG 0 ([] : List Int) b.In b.Wilds (w64 ((w64 (a.Places + b.Back)) - (b.In.length : Int)))
def oB (a : aY) (b : List aM) (c : Int) : Option (bU × Int) :=
  (lK a b c 0).bind fun d =>
  bif !decide (d = 0) then (some ((bU.mk ([] : List Int) ([] : List Int) ([] : List Int) 0), d))
  else ((lI a b c).bind fun e =>
  (jX a e).bind fun f =>
  some (f, 0))
def mT (a : aY) (b : List aM) (c : Int) (d : Int) : Option (Int × Int × Int) :=
  (oF a b c d).bind fun e =>
  bif !decide (e.2 = 0) then (some (0, 0, e.2))
  else ((e.1).bind fun f =>
  (jV f d).bind fun g =>
  some (g.1, g.2, 0))
def qI : Option Int :=
  some 0
def fL (a : List Int) (b : Int) : Nat → Int → Option Int
 | 0, _ => none
 | d + 1, e =>
  bif decide (e < (a.length : Int)) then ((idx a e).bind fun c =>
  bif decide (c = b) then (some (w64 (e + 1)))
  else ((fL a b d) (w64 (e + 1))))
  else (qI)
def jU (a : List Int) (b : Int) : Option Int :=
  fL a b BIG 0
def nD (a : bU) (b : Int) : Option (Int × Int) :=
  (jU a.Main b).bind fun c =>
  bif decide (0 < c) then (some (1, c))
  else ((jU a.Wilds b).bind fun d =>
  bif decide (0 < d) then (some (2, d))
  else ((jU a.Out b).bind fun e =>
  bif decide (0 < e) then (some (3, e))
  else (some (0, 0))))
def nB (a : aY) (b : List aM) (c : Int) (d : Int) : Option (Int × Int × Int) :=
  (lK a b c d).bind fun e =>
  bif !decide (e = 0) then (some (0, 0, e))
  else ((lI a b c).bind fun f =>
  (jX a f).bind fun g =>
  (nD g d).bind fun h =>
  some (h.1, h.2, 0))
def nA : Option Bool :=
  (lH).bind fun a =>
  some a
def eO (a : List aM) (b : List aM) : Nat → Int → Option Bool
 | 0, _ => none
 | e + 1, f =>
  bif decide (f < (b.length : Int)) then ((idx b f).bind fun c =>
  (idx a f).bind fun d =>
  bif !decide (c = d) then (some false)
  else ((eO a b e) (w64 (f + 1))))
  else (nA)
def mA (a : aY) (b : List aM) (c : nZ) : Option Bool :=
  (oQ b).bind fun d =>
  bif d then ((lH).bind fun e =>
  some e)
  else ((app 40 ([] : List aM) b).bind fun f =>
  (pX a f).bind fun g =>
  (lJ a b).bind fun h =>
  bif !decide (g = h) then (some false)
  else ((lR a f c.Hour).bind fun i =>
  (oB a b c.Hour).bind fun j =>
  (mT a f c.Hour c.Player).bind fun k =>
  (nB a b c.Hour c.Player).bind fun l =>
  (jE i.1 j.1).bind fun m =>
  (bif !m then (some true) else (some (!decide (i.2 = j.2)))).bind fun n =>
  (bif n then (some true) else (some (!decide (k.1 = l.1)))).bind fun o =>
  (bif o then (some true) else (some (!decide (k.2.1 = l.2.1)))).bind fun p =>
  (bif p then (some true) else (some (!decide (k.2.2 = l.2.2)))).bind fun q =>
  bif q then (some false)
  else (eO b f BIG 0)))
end Go.Am
