/- Shallow functions, printed by program. -/
import Derived.Test.YtfdappeickbpeaaGreatAmFull
import Derived.Test.YtfdappeickbpeaaGreatAmNd
import Derived.Test.YtfdappeickbpeaaGreatAmSort
import Derived.Test.YtfdappeickbpeaaGreatAmSortF
namespace Go.Am
structure aG where
 Id : Int
 Hour : Int
 Kind : Int
 Player : Int
 Rank : Int
 deriving DecidableEq, Inhabited
def aJ (x : aG) : List D := [.lit (.int .i64 x.Id), .lit (.int .i64 x.Hour), .lit (.int .i64 x.Kind), .lit (.int .i64 x.Player), .lit (.int .i64 x.Rank)]
def aDw (x : List aG) : List D := [.sl 5 (x.map aJ)]
structure aP where
 Places : Int
 Wilds : Int
 Guards : Int
 Close : Int
 Freeze : Int
 deriving DecidableEq, Inhabited
def aX (x : aP) : List D := [.lit (.int .i64 x.Places), .lit (.int .i64 x.Wilds), .lit (.int .i64 x.Guards), .lit (.int .i64 x.Close), .lit (.int .i64 x.Freeze)]
def lB (x : List Int) : List D := [.sl 1 (x.map aI)]
structure aA where
 entered : Bool
 guard : Bool
 rank : Int
 turn : Int
 quit : Bool
 signed : Bool
 wild : Bool
 had : Bool
 deriving DecidableEq, Inhabited
def aB (x : aA) : List D := [.lit (.bool x.entered), .lit (.bool x.guard), .lit (.int .i64 x.rank), .lit (.int .i64 x.turn), .lit (.bool x.quit), .lit (.bool x.signed), .lit (.bool x.wild), .lit (.bool x.had)]
structure aH where
 Field : aP
 players : List (Int × aA)
 wilds : List Int
 frozen : Bool
 first : List Int
 late : List Int
 more : Int
 entered : Int
 deriving DecidableEq, Inhabited
def bA (x : aH) : List D := [.lit (.int .i64 x.Field.Places), .lit (.int .i64 x.Field.Wilds), .lit (.int .i64 x.Field.Guards), .lit (.int .i64 x.Field.Close), .lit (.int .i64 x.Field.Freeze), .mp true (x.players.map fun p : Int × aA => ((fun n : Int => Value.int .i64 n) p.1, aB p.2)), .sl 1 (x.wilds.map aI), .lit (.bool x.frozen), .sl 1 (x.first.map aI), .sl 1 (x.late.map aI), .lit (.int .i64 x.more), .lit (.int .i64 x.entered)]
structure gM where
 Main : List Int
 Wilds : List Int
 Out : List Int
 Open : Int
 deriving DecidableEq, Inhabited
def gB (x : gM) : List D := [.sl 1 (x.Main.map aI), .sl 1 (x.Wilds.map aI), .sl 1 (x.Out.map aI), .lit (.int .i64 x.Open)]
structure aO where
 free : Int
 guarded : Int
 moved : Int
 covered : Int
 deriving DecidableEq, Inhabited
def aQ (x : aO) : List D := [.lit (.int .i64 x.free), .lit (.int .i64 x.guarded), .lit (.int .i64 x.moved), .lit (.int .i64 x.covered)]
structure dJ where
 Hour : Int
 Player : Int
 Places : List Int
 deriving DecidableEq, Inhabited
def iF (x : dJ) : List D := [.lit (.int .i64 x.Hour), .lit (.int .i64 x.Player), .sl 1 (x.Places.map aI)]
structure aN where
 Player : Int
 Rank : Int
 Guard : Bool
 Entered : Bool
 Quit : Bool
 Signed : Bool
 Card : Bool
 deriving DecidableEq, Inhabited
structure aL where
 People : List aN
 Wilds : List Int
 Back : Int
 In : List Int
 deriving DecidableEq, Inhabited
def aEr (x : aP) : Prop := okI x.Places ∧ okI x.Wilds ∧ okI x.Guards ∧ okI x.Close ∧ okI x.Freeze
def yF (x : aG) : Prop := okI x.Id ∧ okI x.Hour ∧ okI x.Kind ∧ okI x.Player ∧ okI x.Rank
def tE (x : dJ) : Prop := okI x.Hour ∧ okI x.Player ∧ (okL okI) x.Places
def oD (a : List aG) : Option Bool :=
  (bif decide (20 < (a.length : Int)) then (some (decide ((a.length : Int) ≤ 60))) else (some false)).bind fun b =>
  (bif b then (some true) else (some (decide (100 < (a.length : Int))))).bind fun c =>
  some c
def cH (a : Int) (b : Int) (c : Int) : Option Bool :=
  (bif decide (b ≤ a) then (some (decide (a ≤ c))) else (some false)).bind fun d =>
  some d
def kY (a : aG) : Option Bool :=
  (cH a.Id 0 999).bind fun b =>
  (bif !b then (some true) else ((cH a.Player 0 999).bind fun c =>
  some (!c))).bind fun d =>
  (bif d then (some true) else ((cH a.Hour 0 9999).bind fun e =>
  some (!e))).bind fun f =>
  bif f then (some false)
  else (bif decide (a.Kind = 1) then ((cH a.Rank 0 9999).bind fun g =>
  some g)
  else (bif decide (a.Kind = 2) then ((cH a.Rank 1 9999).bind fun h =>
  some h)
  else (bif decide (a.Kind = 3) then (bif decide (a.Kind = 3) then (some (decide (a.Rank = 0)))
  else (some false))
  else (bif decide (a.Kind = 4) then (bif decide (a.Kind = 4) then (some (decide (a.Rank = 0)))
  else (some false))
  else (bif decide (a.Kind = 5) then (some (decide (a.Rank = 0)))
  else (some false))))))
def pW (a : Int → Option Int) (b : List aG) (c : Int) : Option Int :=
  a (w64 (c + 1))
def pX (a : Int → Option Int) (b : List aG) (c : Int) : Option Int :=
  pW a b c
def fX (a : Int → Option Int) (b : List aG) (c : Int) : Nat → Int → Option Int
 | 0, _ => none
 | i + 1, j =>
  bif decide (j < c) then ((idx b j).bind fun d =>
  (idx b c).bind fun e =>
  (bif decide (d.Id = e.Id) then ((idx b j).bind fun f =>
  (idx b c).bind fun g =>
  some (!decide (f = g))) else (some false)).bind fun h =>
  bif h then (some 51)
  else ((fX a b c i) (w64 (j + 1))))
  else (pX a b c)
def pV : Option Int :=
  some 0
def fW (a : List aG) : Nat → Int → Option Int
 | 0, _ => none
 | d + 1, e =>
  bif decide (e < (a.length : Int)) then ((idx a e).bind fun b =>
  (kY b).bind fun c =>
  bif !c then (some 51)
  else (fX (fW a d) a e BIG 0))
  else (pV)
def mS (a : aP) (b : List aG) : Option Int :=
  (cH a.Places 1 32).bind fun c =>
  (bif !c then (some true) else ((cH a.Wilds 0 32).bind fun d =>
  some (!d))).bind fun e =>
  (bif e then (some true) else ((cH a.Guards 0 32).bind fun f =>
  some (!f))).bind fun g =>
  (bif g then (some true) else ((cH a.Close 0 9999).bind fun h =>
  some (!h))).bind fun i =>
  (bif i then (some true) else ((cH a.Freeze a.Close 9999).bind fun j =>
  some (!j))).bind fun k =>
  bif k then (some 50)
  else (bif decide (60 < (b.length : Int)) then (some 51)
  else (fW b BIG 0))
def mR (a : aP) (b : List aG) : Option Bool :=
  (oD b).bind fun c =>
  (bif !c then ((mS a b).bind fun d =>
  some (decide (d = 0))) else (some false)).bind fun e =>
  some e
def mC (a : Int) : Option Bool :=
  (bif decide (0 ≤ a) then (some (decide (a ≤ 9999))) else (some false)).bind fun b =>
  some b
def dS (a : Int) (b : Int) (c : Int) (d : Int) (e : Int) : Option aG :=
  some (aG.mk a b c d e)
def jV : Option (aP × (List aG)) :=
  (dS 0 1 1 7 50).bind fun a =>
  (dS 1 2 1 8 20).bind fun b =>
  (dS 2 3 2 9 10).bind fun c =>
  (dS 3 4 2 6 30).bind fun d =>
  (dS 4 5 1 5 70).bind fun e =>
  (dS 5 6 1 4 0).bind fun f =>
  (dS 6 11 1 3 1).bind fun g =>
  (dS 7 12 3 7 0).bind fun h =>
  (dS 8 15 4 8 0).bind fun i =>
  (dS 9 21 5 4 0).bind fun j =>
  (dS 10 22 4 5 0).bind fun k =>
  some ((aP.mk 3 1 1 10 20), [a, b, c, d, e, f, g, h, i, j, k])
def bX (a : Int) (b : Int) (c : Int) : Option Bool :=
  (bif decide (b ≤ a) then (some (decide (a ≤ c))) else (some false)).bind fun d =>
  some d
def pM (a : aP) : Option Bool :=
  (bX a.Places 1 32).bind fun b =>
  (bif b then ((bX a.Wilds 0 32).bind fun c =>
  some c) else (some false)).bind fun d =>
  (bif d then ((bX a.Guards 0 32).bind fun e =>
  some e) else (some false)).bind fun f =>
  (bif f then ((bX a.Close 0 9999).bind fun g =>
  some g) else (some false)).bind fun h =>
  (bif h then ((bX a.Freeze a.Close 9999).bind fun i =>
  some i) else (some false)).bind fun j =>
  some j
def oG (a : aG) : Option Bool :=
  bif decide (a.Kind = 1) then ((bX a.Id 0 999).bind fun b =>
  (bif b then ((bX a.Player 0 999).bind fun c =>
  some c) else (some false)).bind fun d =>
  (bif d then ((bX a.Hour 0 9999).bind fun e =>
  some e) else (some false)).bind fun f =>
  (bif f then ((bX a.Rank 0 9999).bind fun g =>
  some g) else (some false)).bind fun h =>
  some h)
  else (bif decide (a.Kind = 2) then ((bX a.Id 0 999).bind fun i =>
  (bif i then ((bX a.Player 0 999).bind fun j =>
  some j) else (some false)).bind fun k =>
  (bif k then ((bX a.Hour 0 9999).bind fun l =>
  some l) else (some false)).bind fun m =>
  (bif m then ((bX a.Rank 1 9999).bind fun n =>
  some n) else (some false)).bind fun o =>
  some o)
  else (bif decide (a.Kind = 3) then (bif decide (a.Kind = 3) then ((bX a.Id 0 999).bind fun p =>
  (bif p then ((bX a.Player 0 999).bind fun q =>
  some q) else (some false)).bind fun r =>
  (bif r then ((bX a.Hour 0 9999).bind fun s =>
  some s) else (some false)).bind fun t =>
  (bif t then ((bX a.Rank 0 0).bind fun u =>
  some u) else (some false)).bind fun v =>
  some v)
  else (some false))
  else (bif decide (a.Kind = 4) then (bif decide (a.Kind = 4) then ((bX a.Id 0 999).bind fun w =>
  (bif w then ((bX a.Player 0 999).bind fun x =>
  some x) else (some false)).bind fun y =>
  (bif y then ((bX a.Hour 0 9999).bind fun z =>
  some z) else (some false)).bind fun a0 =>
  (bif a0 then ((bX a.Rank 0 0).bind fun a1 =>
  some a1) else (some false)).bind fun a2 =>
  some a2)
  else (some false))
  else (bif decide (a.Kind = 5) then ((bX a.Id 0 999).bind fun a3 =>
  (bif a3 then ((bX a.Player 0 999).bind fun a4 =>
  some a4) else (some false)).bind fun a5 =>
  (bif a5 then ((bX a.Hour 0 9999).bind fun a6 =>
  some a6) else (some false)).bind fun a7 =>
  (bif a7 then ((bX a.Rank 0 0).bind fun a8 =>
  some a8) else (some false)).bind fun a9 =>
  some a9)
  else (some false)))))
def tW : Option Int :=
  some 0
def jX (a : List aG) (b : Int) : Nat → Int → (List (Int × aG)) → Option Int
 | 0, _, _ => none
 | g + 1, h, i =>
  bif decide (h < b) then ((idx a h).bind fun c =>
  (oG c).bind fun d =>
  (bif !d then (some true) else ((bif gJ c.Id i then (some (!decide ((aE c.Id (aG.mk 0 0 0 0 0) i) = c))) else (some false)).bind fun e =>
  some e)).bind fun f =>
  bif f then (some 51)
  else ((jX a b g) (w64 (h + 1)) (bY c.Id c i)))
  else (tW)
def rV (a : aP) (b : List aG) : Option Int :=
  (pM a).bind fun c =>
  bif !c then (some 50)
  else (bif decide (60 < (b.length : Int)) then (some 51)
  else (jX b (b.length : Int) BIG 0 ([] : List (Int × aG))))
def kL (a : List aG) : Option Unit :=
  some ()
def gR {S : Type} (a : S → aG → Option (S × Bool)) (b : S) : Option (S × Bool) :=
  some (b, true)
def cL {S : Type} (a : S → aG → Option (S × Bool)) (b : List aG) (c : Int) : Nat → Int → S → Option (S × Bool)
 | 0, _, _ => none
 | f + 1, g, h =>
  bif decide (g < c) then ((idx b g).bind fun d =>
  (a h d).bind fun e =>
  bif !e.2 then (some e)
  else ((cL a b c f) (w64 (g + 1)) e.1))
  else (gR a h)
def fG {S : Type} (a : S → aG → Option (S × Bool)) (b : List aG) (c : S) : Option (S × Bool) :=
  cL a b (b.length : Int) BIG 0 c
def jA (a : List aG) : Option ((List aG)) :=
  (fG (S := (List aG)) (fun b c =>
  (app 40 b ([c])).bind fun d =>
  some (d, true)) a ([] : List aG)).bind fun e =>
  bif e.2 then (some e.1)
  else (none)
def iD (a : List aG) : Option ((List aG)) :=
  (jA a).bind fun b =>
  some b
def mB (x : List aG) (a : aG → aG → Option Int) : Option (List aG) := sG x a
def gI (a : List aG) (b : aG → aG → Option Int) : Option ((List aG)) :=
  (iD a).bind fun c =>
  (mB c b).bind fun d =>
  some d
def sA (a : Int) : Option Int :=
  some a
def nL (a : Int) (b : List Int) (c : Int) : Nat → Int → Option Int
 | 0, _ => none
 | e + 1, f =>
  bif decide (f < c) then ((idx b f).bind fun d =>
  bif !decide (d = a) then (some d)
  else ((nL a b c e) (w64 (f + 1))))
  else (sA a)
def nN (a : List Int) : Option Int :=
  nL 0 a (a.length : Int) BIG 0
def eC (a : aG) (b : aG) : Option Int :=
  (nN ([w64 (a.Hour - b.Hour), w64 (a.Id - b.Id)])).bind fun c =>
  some c
def lH (a : Int → (List aG) → Option ((List aG))) (b : Int) (c : List aG) : Option ((List aG)) :=
  (chk (decide (0 ≤ b) && decide (b ≤ (c.length : Int)))).bind fun d =>
  (chk (decide (b.toNat ≤ c.length))).bind fun e =>
  (chk (decide (0 ≤ b))).bind fun f =>
  some (c.take b.toNat)
def dK (a : Int → (List aG) → Option ((List aG))) (b : Int) : Nat → Int → Int → (List aG) → Option ((List aG))
 | 0, _, _, _ => none
 | g + 1, h, i, j =>
  bif decide (i < ((j.drop b.toNat).length : Int)) then ((idx (j.drop b.toNat) i).bind fun c =>
  (idx (j.drop b.toNat) (w64 (i - 1))).bind fun d =>
  bif !decide (c = d) then ((idx (j.drop b.toNat) i).bind fun e =>
  (idx j h).bind fun f =>
  (dK a b g) (w64 (h + 1)) (w64 (i + 1)) (j.set h.toNat e))
  else ((dK a b g) h (w64 (i + 1)) j))
  else (lH a h j)
def lG (a : Int → (List aG) → Option ((List aG))) (b : Int) (c : List aG) : Option ((List aG)) :=
  a (w64 (b + 1)) c
def lF (a : List aG) : Option ((List aG)) :=
  some a
def cP : Nat → Int → (List aG) → Option ((List aG))
 | 0, _, _ => none
 | d + 1, e, f =>
  bif decide (e < (f.length : Int)) then ((idx f e).bind fun a =>
  (idx f (w64 (e - 1))).bind fun b =>
  bif decide (a = b) then ((chk (decide (0 ≤ e) && decide (e ≤ (f.length : Int)))).bind fun c =>
  dK (cP d) e BIG e 1 f)
  else (lG (cP d) e f))
  else (lF f)
def fV (a : List aG) : Option ((List aG)) :=
  bif decide ((a.length : Int) < 2) then (some a)
  else (cP BIG 1 a)
def eO (a : aH) : Option Int :=
  some (w64 (a.Field.Places + a.more))
def oZ (a : Int) : Option Int :=
  some a
def fO (a : aH) (b : List Int) (c : Int) : Nat → Int → Int → Option Int
 | 0, _, _ => none
 | e + 1, f, g =>
  bif decide (g < c) then ((idx b g).bind fun d =>
  bif (aE d (aA.mk false false 0 0 false false false false) a.players).guard then ((fO a b c e) (w64 (f + 1)) (w64 (g + 1)))
  else ((fO a b c e) f (w64 (g + 1))))
  else (oZ f)
def iU (a : aH) (b : List Int) : Option Int :=
  fO a b (b.length : Int) BIG 0 0
def fP (a : List (Int × aA)) (b : Int) : Option Bool :=
  (bif (aE b (aA.mk false false 0 0 false false false false) a).entered then (some (!((aE b (aA.mk false false 0 0 false false false false) a).quit))) else (some false)).bind fun c =>
  (bif c then (some (!((aE b (aA.mk false false 0 0 false false false false) a).had))) else (some false)).bind fun d =>
  some d
def qI (x : List Int) (a : Int → Int → Option Int) : Option (List Int) := sG x a
def gW (a : aA) : Option Int :=
  bif decide (a.rank = 0) then (some 1)
  else (some 0)
def eG (a : Int) (b : Int) (c : aH) : Option Int :=
  (gW (aE a (aA.mk false false 0 0 false false false false) c.players)).bind fun d =>
  (gW (aE b (aA.mk false false 0 0 false false false false) c.players)).bind fun e =>
  (nN ([w64 (d - e), w64 (((aE a (aA.mk false false 0 0 false false false false) c.players).rank) - ((aE b (aA.mk false false 0 0 false false false false) c.players).rank)), w64 (((aE a (aA.mk false false 0 0 false false false false) c.players).turn) - ((aE b (aA.mk false false 0 0 false false false false) c.players).turn))])).bind fun f =>
  some f
def lU (a : ((List Int)) → Prop) (b : aH) (c : List Int) : Prop :=
  nb (qI c (fun d e => eG d e b)) fun f =>
  a f
def gG (a : ((List Int)) → Prop) (b : aH) : Nat → (List Int) → (List (Int × aA)) → Prop
 | 0, _, _ => False
 | g + 1, h, i =>
  aOz i (lU a b h)
  (fun c d =>
  nb (fP b.players c.1) fun e =>
  bif e then (nb (app 8 h ([c.1])) fun f =>
  (gG a b g) f d)
  else ((gG a b g) h d))
def nP (a : aH) (Q : ((List Int)) → Prop) : Prop :=
  aFu a.players fun b =>
  gG Q a BIG ([] : List Int) b
def eY (l : aH) : Option (List Int) := if l.players.length < 4294967296 then sG ((l.players.filter fun p => (fP l.players p.1).getD false).map Prod.fst) (fun a b => eG a b l) else none
def pA (a : List Int) : Option ((List Int)) :=
  some a
def fQ (a : aH) (b : List Int) (c : Int) : Nat → Int → (List Int) → Option ((List Int))
 | 0, _, _ => none
 | j + 1, k, l =>
  bif decide (k < c) then ((idx b k).bind fun d =>
  (eO a).bind fun e =>
  (bif decide ((l.length : Int) < e) then ((bif !((aE d (aA.mk false false 0 0 false false false false) a.players).guard) then (some true) else ((iU a l).bind fun f =>
  some (decide (f < a.Field.Guards)))).bind fun g =>
  some g) else (some false)).bind fun h =>
  bif h then ((app 8 l ([d])).bind fun i =>
  (fQ a b c j) (w64 (k + 1)) i)
  else ((fQ a b c j) (w64 (k + 1)) l))
  else (pA l)
def kQ (a : aH) : Option ((List Int)) :=
  (eY a).bind fun b =>
  fQ a b (b.length : Int) BIG 0 ([] : List Int)
def kP (a : aH) : Option aH :=
  bif !a.frozen then ((kQ a).bind fun b =>
  some (aH.mk a.Field a.players a.wilds true b a.late a.more a.entered))
  else (some a)
def nJ : Option Int :=
  some (-1)
def fJ (a : List Int) (b : Int → Option Bool) (c : Int) : Nat → Int → Option Int
 | 0, _ => none
 | f + 1, g =>
  bif decide (g < c) then ((idx a g).bind fun d =>
  (b d).bind fun e =>
  bif e then (some g)
  else ((fJ a b c f) (w64 (g + 1))))
  else (nJ)
def gQ (a : List Int) (b : Int → Option Bool) : Option Int :=
  fJ a b (a.length : Int) BIG 0
def mY (a : Int) (b : List Int) : Option ((List Int)) :=
  (chk (decide (0 ≤ a) && decide (a ≤ (b.length : Int)))).bind fun c =>
  (chk (decide (a.toNat ≤ b.length))).bind fun d =>
  (chk (decide (0 ≤ a))).bind fun e =>
  some (b.take a.toNat)
def eI (a : Int → Option Bool) : Nat → Int → Int → (List Int) → Option ((List Int))
 | 0, _, _, _ => none
 | e + 1, f, g, h =>
  bif decide (g < (h.length : Int)) then ((idx h g).bind fun b =>
  (a b).bind fun c =>
  bif !c then ((idx h f).bind fun d =>
  (eI a e) (w64 (f + 1)) (w64 (g + 1)) (h.set f.toNat b))
  else ((eI a e) f (w64 (g + 1)) h))
  else (mY f h)
def cA (a : List Int) (b : Int → Option Bool) : Option ((List Int)) :=
  (gQ a b).bind fun c =>
  bif decide (c = (-1)) then (some a)
  else (eI b BIG c (w64 (c + 1)) a)
def eP (a : Int) (b : aG) : Option Bool :=
  some (decide (a = b.Player))
def kH (a : aH) (b : aG) : Option aH :=
  bif decide (b.Kind = 1) then (bif decide (b.Kind = 1) then ((bif decide (b.Hour ≤ a.Field.Close) then (some (!((aE b.Player (aA.mk false false 0 0 false false false false) a.players).entered))) else (some false)).bind fun c =>
  bif c then (some (aH.mk a.Field (bY b.Player (aA.mk true (decide (b.Kind = 2)) b.Rank (w64 (a.entered + 1)) ((aE b.Player (aA.mk false false 0 0 false false false false) a.players).quit) ((aE b.Player (aA.mk false false 0 0 false false false false) a.players).signed) ((aE b.Player (aA.mk false false 0 0 false false false false) a.players).wild) ((aE b.Player (aA.mk false false 0 0 false false false false) a.players).had)) a.players) a.wilds a.frozen a.first a.late a.more (w64 (a.entered + 1))))
  else (some (aH.mk a.Field (bY b.Player (aE b.Player (aA.mk false false 0 0 false false false false) a.players) a.players) a.wilds a.frozen a.first a.late a.more a.entered)))
  else (bif decide (b.Kind = 3) then ((bif decide (b.Hour ≤ a.Field.Freeze) then (some (!((aE b.Player (aA.mk false false 0 0 false false false false) a.players).wild))) else (some false)).bind fun d =>
  (bif d then (some (!((aE b.Player (aA.mk false false 0 0 false false false false) a.players).quit))) else (some false)).bind fun e =>
  (bif e then (some (decide ((a.wilds.length : Int) < a.Field.Wilds))) else (some false)).bind fun f =>
  bif f then ((app 8 a.wilds ([b.Player])).bind fun g =>
  some (aH.mk a.Field (bY b.Player (aA.mk ((aE b.Player (aA.mk false false 0 0 false false false false) a.players).entered) ((aE b.Player (aA.mk false false 0 0 false false false false) a.players).guard) ((aE b.Player (aA.mk false false 0 0 false false false false) a.players).rank) ((aE b.Player (aA.mk false false 0 0 false false false false) a.players).turn) ((aE b.Player (aA.mk false false 0 0 false false false false) a.players).quit) ((aE b.Player (aA.mk false false 0 0 false false false false) a.players).signed) true true) a.players) g a.frozen a.first a.late a.more a.entered))
  else (some (aH.mk a.Field (bY b.Player (aE b.Player (aA.mk false false 0 0 false false false false) a.players) a.players) a.wilds a.frozen a.first a.late a.more a.entered)))
  else (bif decide (b.Kind = 4) then ((bif (aE b.Player (aA.mk false false 0 0 false false false false) a.players).wild then (some (decide (a.Field.Freeze < b.Hour))) else (some false)).bind fun h =>
  bif h then ((cA a.wilds (fun i => eP i b)).bind fun j =>
  some (aH.mk a.Field (bY b.Player (aA.mk ((aE b.Player (aA.mk false false 0 0 false false false false) a.players).entered) ((aE b.Player (aA.mk false false 0 0 false false false false) a.players).guard) ((aE b.Player (aA.mk false false 0 0 false false false false) a.players).rank) ((aE b.Player (aA.mk false false 0 0 false false false false) a.players).turn) true ((aE b.Player (aA.mk false false 0 0 false false false false) a.players).signed) false ((aE b.Player (aA.mk false false 0 0 false false false false) a.players).had)) a.players) j a.frozen a.first a.late (w64 (a.more + 1)) a.entered))
  else ((cA a.wilds (fun k => eP k b)).bind fun l =>
  some (aH.mk a.Field (bY b.Player (aA.mk ((aE b.Player (aA.mk false false 0 0 false false false false) a.players).entered) ((aE b.Player (aA.mk false false 0 0 false false false false) a.players).guard) ((aE b.Player (aA.mk false false 0 0 false false false false) a.players).rank) ((aE b.Player (aA.mk false false 0 0 false false false false) a.players).turn) true ((aE b.Player (aA.mk false false 0 0 false false false false) a.players).signed) false ((aE b.Player (aA.mk false false 0 0 false false false false) a.players).had)) a.players) l a.frozen a.first a.late a.more a.entered)))
  else (bif decide (b.Kind = 5) then (some (aH.mk a.Field (bY b.Player (aA.mk ((aE b.Player (aA.mk false false 0 0 false false false false) a.players).entered) ((aE b.Player (aA.mk false false 0 0 false false false false) a.players).guard) ((aE b.Player (aA.mk false false 0 0 false false false false) a.players).rank) ((aE b.Player (aA.mk false false 0 0 false false false false) a.players).turn) ((aE b.Player (aA.mk false false 0 0 false false false false) a.players).quit) true ((aE b.Player (aA.mk false false 0 0 false false false false) a.players).wild) ((aE b.Player (aA.mk false false 0 0 false false false false) a.players).had)) a.players) a.wilds a.frozen a.first a.late a.more a.entered))
  else (some (aH.mk a.Field (bY b.Player (aE b.Player (aA.mk false false 0 0 false false false false) a.players) a.players) a.wilds a.frozen a.first a.late a.more a.entered))))))
  else (bif decide (b.Kind = 2) then ((bif decide (b.Hour ≤ a.Field.Close) then (some (!((aE b.Player (aA.mk false false 0 0 false false false false) a.players).entered))) else (some false)).bind fun m =>
  bif m then (some (aH.mk a.Field (bY b.Player (aA.mk true (decide (b.Kind = 2)) b.Rank (w64 (a.entered + 1)) ((aE b.Player (aA.mk false false 0 0 false false false false) a.players).quit) ((aE b.Player (aA.mk false false 0 0 false false false false) a.players).signed) ((aE b.Player (aA.mk false false 0 0 false false false false) a.players).wild) ((aE b.Player (aA.mk false false 0 0 false false false false) a.players).had)) a.players) a.wilds a.frozen a.first a.late a.more (w64 (a.entered + 1))))
  else (some (aH.mk a.Field (bY b.Player (aE b.Player (aA.mk false false 0 0 false false false false) a.players) a.players) a.wilds a.frozen a.first a.late a.more a.entered)))
  else (bif decide (b.Kind = 3) then ((bif decide (b.Hour ≤ a.Field.Freeze) then (some (!((aE b.Player (aA.mk false false 0 0 false false false false) a.players).wild))) else (some false)).bind fun n =>
  (bif n then (some (!((aE b.Player (aA.mk false false 0 0 false false false false) a.players).quit))) else (some false)).bind fun o =>
  (bif o then (some (decide ((a.wilds.length : Int) < a.Field.Wilds))) else (some false)).bind fun p =>
  bif p then ((app 8 a.wilds ([b.Player])).bind fun q =>
  some (aH.mk a.Field (bY b.Player (aA.mk ((aE b.Player (aA.mk false false 0 0 false false false false) a.players).entered) ((aE b.Player (aA.mk false false 0 0 false false false false) a.players).guard) ((aE b.Player (aA.mk false false 0 0 false false false false) a.players).rank) ((aE b.Player (aA.mk false false 0 0 false false false false) a.players).turn) ((aE b.Player (aA.mk false false 0 0 false false false false) a.players).quit) ((aE b.Player (aA.mk false false 0 0 false false false false) a.players).signed) true true) a.players) q a.frozen a.first a.late a.more a.entered))
  else (some (aH.mk a.Field (bY b.Player (aE b.Player (aA.mk false false 0 0 false false false false) a.players) a.players) a.wilds a.frozen a.first a.late a.more a.entered)))
  else (bif decide (b.Kind = 4) then ((bif (aE b.Player (aA.mk false false 0 0 false false false false) a.players).wild then (some (decide (a.Field.Freeze < b.Hour))) else (some false)).bind fun r =>
  bif r then ((cA a.wilds (fun s => eP s b)).bind fun t =>
  some (aH.mk a.Field (bY b.Player (aA.mk ((aE b.Player (aA.mk false false 0 0 false false false false) a.players).entered) ((aE b.Player (aA.mk false false 0 0 false false false false) a.players).guard) ((aE b.Player (aA.mk false false 0 0 false false false false) a.players).rank) ((aE b.Player (aA.mk false false 0 0 false false false false) a.players).turn) true ((aE b.Player (aA.mk false false 0 0 false false false false) a.players).signed) false ((aE b.Player (aA.mk false false 0 0 false false false false) a.players).had)) a.players) t a.frozen a.first a.late (w64 (a.more + 1)) a.entered))
  else ((cA a.wilds (fun u => eP u b)).bind fun v =>
  some (aH.mk a.Field (bY b.Player (aA.mk ((aE b.Player (aA.mk false false 0 0 false false false false) a.players).entered) ((aE b.Player (aA.mk false false 0 0 false false false false) a.players).guard) ((aE b.Player (aA.mk false false 0 0 false false false false) a.players).rank) ((aE b.Player (aA.mk false false 0 0 false false false false) a.players).turn) true ((aE b.Player (aA.mk false false 0 0 false false false false) a.players).signed) false ((aE b.Player (aA.mk false false 0 0 false false false false) a.players).had)) a.players) v a.frozen a.first a.late a.more a.entered)))
  else (bif decide (b.Kind = 5) then (some (aH.mk a.Field (bY b.Player (aA.mk ((aE b.Player (aA.mk false false 0 0 false false false false) a.players).entered) ((aE b.Player (aA.mk false false 0 0 false false false false) a.players).guard) ((aE b.Player (aA.mk false false 0 0 false false false false) a.players).rank) ((aE b.Player (aA.mk false false 0 0 false false false false) a.players).turn) ((aE b.Player (aA.mk false false 0 0 false false false false) a.players).quit) true ((aE b.Player (aA.mk false false 0 0 false false false false) a.players).wild) ((aE b.Player (aA.mk false false 0 0 false false false false) a.players).had)) a.players) a.wilds a.frozen a.first a.late a.more a.entered))
  else (some (aH.mk a.Field (bY b.Player (aE b.Player (aA.mk false false 0 0 false false false false) a.players) a.players) a.wilds a.frozen a.first a.late a.more a.entered))))))
def fE (a : Int) (b : List (Int × aA)) : Option Bool :=
  (fP b a).bind fun c =>
  some (!c)
def nS (a : Int) : Option ((List Int)) :=
  bif decide (a < 0) then (none)
  else (bif decide (0 < (w64 (a - (w64 (0 - 0))))) then ((chk (decide (0 ≤ 0))).bind fun b =>
  (chk (decide (0 < (w64 (a - (w64 (0 - 0))))) && decide ((w64 (a - (w64 (0 - 0)))) * ((8 : Nat) : Int) ≤ 140737488355328))).bind fun c =>
  (chk (decide (0 ≤ 0))).bind fun d =>
  some ([] : List Int))
  else (some ([] : List Int)))
def tL (a : List Int) : Option ((List Int)) :=
  some a
def fR (a : List (List Int)) (b : Int) : Nat → Int → (List Int) → Option ((List Int))
 | 0, _, _ => none
 | e + 1, f, g =>
  bif decide (f < b) then ((idx a f).bind fun c =>
  (app 8 g c).bind fun d =>
  (fR a b e) (w64 (f + 1)) d)
  else (tL g)
def pF (a : List (List Int)) (b : Int) : Option ((List Int)) :=
  (nS b).bind fun c =>
  fR a (a.length : Int) BIG 0 c
def gP (a : List (List Int)) (b : List (List Int)) (c : Int) : Nat → Int → Int → Option ((List Int))
 | 0, _, _ => none
 | e + 1, f, g =>
  bif decide (g < c) then ((idx b g).bind fun d =>
  bif decide ((w64 (f + (d.length : Int))) < 0) then (none)
  else ((gP a b c e) (w64 (f + (d.length : Int))) (w64 (g + 1))))
  else (pF a f)
def mG (a : List (List Int)) : Option ((List Int)) :=
  gP a a (a.length : Int) BIG 0 0
def dY (a : aH) : Option ((List Int)) :=
  bif !a.frozen then ((kQ a).bind fun b =>
  some b)
  else ((mG ([a.first, a.late])).bind fun c =>
  some c)
def nG : Option Int :=
  some (-1)
def eL (a : List Int) (b : Int) (c : Int) : Nat → Int → Option Int
 | 0, _ => none
 | e + 1, f =>
  bif decide (f < c) then ((idx a f).bind fun d =>
  bif decide (b = d) then (some f)
  else ((eL a b c e) (w64 (f + 1))))
  else (nG)
def iJ (a : List Int) (b : Int) : Option Int :=
  eL a b (a.length : Int) BIG 0
def jI (a : List Int) (b : Int) : Option Bool :=
  (iJ a b).bind fun c =>
  some (decide (0 ≤ c))
def kO (a : Int) (b : aH) (c : List Int) : Option Bool :=
  (bif (aE a (aA.mk false false 0 0 false false false false) b.players).signed then ((jI c a).bind fun d =>
  some (!d)) else (some false)).bind fun e =>
  (bif e then ((bif !((aE a (aA.mk false false 0 0 false false false false) b.players).guard) then (some true) else ((iU b c).bind fun f =>
  some (decide (f < b.Field.Guards)))).bind fun g =>
  some g) else (some false)).bind fun h =>
  some h
def nQ (a : List (Int × aA)) (b : List Int) (c : List Int) (d : List Int) (e : aP) (f : Bool) (g : Int) (h : Int) : Option aH :=
  some (aH.mk e a b f c d g h)
def iH (a : List (Int × aA)) (b : List Int) (c : List Int) : Nat → (List Int) → aP → Bool → Int → Int → (List Int) → Option aH
 | 0, _, _, _, _, _, _ => none
 | l + 1, m, n, o, p, q, r =>
  (eO (aH.mk n a b o c m p q)).bind fun d =>
  bif decide ((r.length : Int) < d) then ((eY (aH.mk n a b o c m p q)).bind fun e =>
  (gQ e (fun f => kO f (aH.mk n a b o c m p q) r)).bind fun g =>
  bif decide (g < 0) then (some (aH.mk n a b o c m p q))
  else ((eY (aH.mk n a b o c m p q)).bind fun h =>
  (idx h g).bind fun i =>
  (app 8 m ([i])).bind fun j =>
  (dY (aH.mk n a b o c j p q)).bind fun k =>
  (iH a b c l) j n o p q k))
  else (nQ a b c m n o p q)
def kG (a : aH) : Option aH :=
  (cA a.first (fun b => fE b a.players)).bind fun c =>
  (cA a.late (fun d => fE d a.players)).bind fun e =>
  (dY (aH.mk a.Field a.players a.wilds a.frozen c e a.more a.entered)).bind fun f =>
  iH a.players a.wilds c BIG e a.Field a.frozen a.more a.entered f
def mQ (a : Int) (b : aP) (c : List (Int × aA)) (d : List Int) (e : List Int) (f : List Int) (g : aP) (h : Bool) (i : Int) (j : Int) : Option ((Option aH)) :=
  bif decide (b.Freeze < a) then ((kP (aH.mk g c d h e f i j)).bind fun k =>
  some (some k))
  else (some (some (aH.mk g c d h e f i j)))
def fL (a : Int) (b : Int) (c : aP) (d : List aG) : Nat → Int → (List (Int × aA)) → (List Int) → (List Int) → (List Int) → aP → Bool → Int → Int → Option ((Option aH))
 | 0, _, _, _, _, _, _, _, _, _ => none
 | k + 1, l, m, n, o, p, q, r, s, t =>
  bif decide (l < b) then ((idx d l).bind fun e =>
  bif decide (a < e.Hour) then (mQ a c m n o p q r s t)
  else (bif decide (c.Freeze < e.Hour) then ((kP (aH.mk q m n r o p s t)).bind fun f =>
  (kH f e).bind fun g =>
  bif g.frozen then ((kG g).bind fun h =>
  (fL a b c d k) (w64 (l + 1)) h.players h.wilds h.first h.late h.Field h.frozen h.more h.entered)
  else ((fL a b c d k) (w64 (l + 1)) g.players g.wilds g.first g.late g.Field g.frozen g.more g.entered))
  else ((kH (aH.mk q m n r o p s t) e).bind fun i =>
  bif i.frozen then ((kG i).bind fun j =>
  (fL a b c d k) (w64 (l + 1)) j.players j.wilds j.first j.late j.Field j.frozen j.more j.entered)
  else ((fL a b c d k) (w64 (l + 1)) i.players i.wilds i.first i.late i.Field i.frozen i.more i.entered))))
  else (mQ a c m n o p q r s t)
def pR (a : aP) (b : List aG) (c : Int) : Option ((Option aH)) :=
  (kL b).bind fun d =>
  (gI b (fun e f => eC e f)).bind fun g =>
  (fV g).bind fun h =>
  fL c (h.length : Int) a h BIG 0 ([] : List (Int × aA)) ([] : List Int) ([] : List Int) ([] : List Int) a false 0 0
def pC (a : aP) (b : List aG) (c : Int) (d : Int) : Option ((Option aH) × Int) :=
  (rV a b).bind fun e =>
  bif !decide (e = 0) then (some ((none : Option aH), e))
  else ((bX c 0 9999).bind fun f =>
  (bif !f then (some true) else ((bX d 0 999).bind fun g =>
  some (!g))).bind fun h =>
  bif h then (some ((none : Option aH), 1))
  else ((pR a b c).bind fun i =>
  some (i, 0)))
def lC (a : Int) (b : List Int) : Option Bool :=
  (jI b a).bind fun c =>
  some c
def iN (a : aH) : Option ((List Int)) :=
  (dY a).bind fun b =>
  (eY a).bind fun c =>
  (cA c (fun d => lC d b)).bind fun e =>
  some e
def oU (a : aP) (b : List aG) (c : Int) : Option (gM × Int) :=
  (pC a b c 0).bind fun d =>
  bif !decide (d.2 = 0) then (some ((gM.mk ([] : List Int) ([] : List Int) ([] : List Int) 0), d.2))
  else ((d.1).bind fun e =>
  (dY e).bind fun f =>
  (d.1).bind fun g =>
  (iN g).bind fun h =>
  (eO g).bind fun i =>
  some ((gM.mk f g.wilds h (w64 (i - (f.length : Int)))), 0))
def qD : Option (Int × Int) :=
  some (0, 0)
def jH (a : Int) (b : List (List Int)) (c : Int) : Nat → Int → Option (Int × Int)
 | 0, _ => none
 | f + 1, g =>
  bif decide (g < c) then ((idx b g).bind fun d =>
  (iJ d a).bind fun e =>
  bif decide (0 ≤ e) then (some (w64 (g + 1), w64 (e + 1)))
  else ((jH a b c f) (w64 (g + 1))))
  else (qD)
def lD (a : aH) (b : Int) : Option (Int × Int) :=
  (dY a).bind fun c =>
  (iN a).bind fun d =>
  jH b ([c, a.wilds, d]) (([c, a.wilds, d]).length : Int) BIG 0
def jG (a : Int) (b : aH) : Option Bool :=
  some (!((aE a (aA.mk false false 0 0 false false false false) b.players).signed))
def gV (a : aO → aO → Option (aO × Bool)) (b : aH) (c : List Int) (d : Int) (e : aO) (f : aO) : Option (aO × Bool) :=
  a e f
def eD (a : aO → aO → Option (aO × Bool)) (b : aH) (c : List Int) (d : Int) (e : Bool) (f : aO) (g : aO) : Option (aO × Bool) :=
  bif !e then (some (f, false))
  else (gV a b c d f g)
def dN (a : aO → aO → Option (aO × Bool)) (b : aH) (c : List Int) (d : Int) (e : List Int) (f : Int) : Nat → Int → Int → Bool → Int → aO → aO → Option (aO × Bool)
 | 0, _, _, _, _, _, _ => none
 | k + 1, l, m, n, o, p, q =>
  bif decide (o < f) then ((idx e o).bind fun g =>
  (bif (aE g (aA.mk false false 0 0 false false false false) b.players).guard then (some (decide (m < p.covered))) else (some false)).bind fun h =>
  bif h then ((dN a b c d e f k) l (w64 (m + 1)) n (w64 (o + 1)) p q)
  else ((bif !((aE g (aA.mk false false 0 0 false false false false) b.players).guard) then (some (decide (l < p.moved))) else (some false)).bind fun i =>
  bif i then ((dN a b c d e f k) (w64 (l + 1)) m n (w64 (o + 1)) p q)
  else ((bif (aE g (aA.mk false false 0 0 false false false false) b.players).guard then (some (decide (b.Field.Guards ≤ p.guarded))) else (some false)).bind fun j =>
  bif j then ((dN a b c d e f k) l m n (w64 (o + 1)) p q)
  else (bif decide (g = d) then (some (p, true))
  else (bif (aE g (aA.mk false false 0 0 false false false false) b.players).guard then (eD a b c d true (aO.mk p.free (w64 (p.guarded + 1)) p.moved (w64 (p.covered + 1))) q)
  else (eD a b c d true (aO.mk (w64 (p.free + 1)) p.guarded (w64 (p.moved + 1)) p.covered) q))))))
  else (eD a b c d n p q)
def rW (a : aO) (b : aO) : Option (aO × Bool) :=
  some (a, false)
def eE (a : aH) (b : List Int) (c : Int) : Nat → aO → aO → Option (aO × Bool)
 | 0, _, _ => none
 | e + 1, f, g =>
  (eO a).bind fun d =>
  bif decide ((w64 (f.free + f.guarded)) < d) then (dN (eE a b c e) a b c b (b.length : Int) BIG 0 0 false 0 f g)
  else (rW f g)
def iB (a : aO) (b : aH) (c : List Int) (d : Int) : Option (aO × Bool) :=
  eE b c d BIG a (aO.mk 0 0 0 0)
def oX (a : (List aO) → Int → (List (aO × Int)) → Option Int) (b : Int → (List aO) → (List (aO × Int)) → Option Int) (c : aH) (d : List Int) (e : Int) (f : Int) (g : List aO) (h : Int) (i : Int) (j : List aO) (k : List (aO × Int)) : Option Int :=
  b (w64 (i + 1)) j k
def oY (a : (List aO) → Int → (List (aO × Int)) → Option Int) (b : Int → (List aO) → (List (aO × Int)) → Option Int) (c : aH) (d : List Int) (e : Int) (f : Int) (g : List aO) (h : Int) (i : Int) (j : List aO) (k : List (aO × Int)) : Option Int :=
  oX a b c d e f g h i j k
def bT (a : (List aO) → Int → (List (aO × Int)) → Option Int) (b : Int → (List aO) → (List (aO × Int)) → Option Int) (c : aH) (d : List Int) (e : Int) (f : Int) (g : List aO) (h : Int) (i : Int) (j : aO) : Nat → Int → (List aO) → (List (aO × Int)) → Option Int
 | 0, _, _, _ => none
 | q + 1, r, s, t =>
  bif decide (r < 2) then (bif decide (r = 1) then ((bif decide ((w64 (j.guarded - 1)) < 0) then (some true) else (some (decide (j.free < 0)))).bind fun k =>
  bif k then ((bT a b c d e f g h i j q) (w64 (r + 1)) s t)
  else ((iB (aO.mk j.free (w64 (j.guarded - 1)) j.moved j.covered) c d e).bind fun l =>
  bif l.2 then (some f)
  else (bif decide ((aE l.1 0 (bY l.1 (w64 ((aE l.1 0 t) + 1)) t)) = 1) then ((app 32 s ([l.1])).bind fun m =>
  (bT a b c d e f g h i j q) (w64 (r + 1)) m (bY l.1 (w64 ((aE l.1 0 t) + 1)) t))
  else ((bT a b c d e f g h i j q) (w64 (r + 1)) s (bY l.1 (w64 ((aE l.1 0 t) + 1)) t)))))
  else ((bif decide (j.guarded < 0) then (some true) else (some (decide ((w64 (j.free - 1)) < 0)))).bind fun n =>
  bif n then ((bT a b c d e f g h i j q) (w64 (r + 1)) s t)
  else ((iB (aO.mk (w64 (j.free - 1)) j.guarded j.moved j.covered) c d e).bind fun o =>
  bif o.2 then (some f)
  else (bif decide ((aE o.1 0 (bY o.1 (w64 ((aE o.1 0 t) + 1)) t)) = 1) then ((app 32 s ([o.1])).bind fun p =>
  (bT a b c d e f g h i j q) (w64 (r + 1)) p (bY o.1 (w64 ((aE o.1 0 t) + 1)) t))
  else ((bT a b c d e f g h i j q) (w64 (r + 1)) s (bY o.1 (w64 ((aE o.1 0 t) + 1)) t))))))
  else (oY a b c d e f g h i s t)
def oV (a : (List aO) → Int → (List (aO × Int)) → Option Int) (b : aH) (c : List Int) (d : Int) (e : Int) (f : List aO) (g : List (aO × Int)) : Option Int :=
  a f (w64 (e + 1)) g
def oW (a : (List aO) → Int → (List (aO × Int)) → Option Int) (b : aH) (c : List Int) (d : Int) (e : Int) (f : List aO) (g : List (aO × Int)) : Option Int :=
  oV a b c d e f g
def eF (a : (List aO) → Int → (List (aO × Int)) → Option Int) (b : aH) (c : List Int) (d : Int) (e : Int) (f : List aO) (g : Int) : Nat → Int → (List aO) → (List (aO × Int)) → Option Int
 | 0, _, _, _ => none
 | i + 1, j, k, l =>
  bif decide (j < g) then ((idx f j).bind fun h =>
  bT a (eF a b c d e f g i) b c d e f g j h BIG 0 k l)
  else (oW a b c d e k l)
def tA : Option Int :=
  some 61
def eS (a : aH) (b : List Int) (c : Int) : Nat → (List aO) → Int → (List (aO × Int)) → Option Int
 | 0, _, _, _ => none
 | d + 1, e, f, g =>
  bif decide (0 < (e.length : Int)) then (eF (eS a b c d) a b c f e (e.length : Int) BIG 0 ([] : List aO) g)
  else (tA)
def mD (a : aH) (b : Int) : Option Int :=
  (dY a).bind fun c =>
  (iU a c).bind fun d =>
  (iN a).bind fun e =>
  (cA e (fun f => jG f a)).bind fun g =>
  eS a g b BIG ([(aO.mk (w64 ((c.length : Int) - d)) d 0 0)]) 1 ([] : List (aO × Int))
def mJ (a : Int → Int → Option Int) (b : aH) (c : Int) (d : Int) (e : Int) (f : Int) (g : Int) (h : Int) : Option Int :=
  a f (w64 (h + 1))
def mK (a : Int → Int → Option Int) (b : aH) (c : Int) (d : Int) (e : Int) (f : Int) (g : Int) (h : Int) : Option Int :=
  mJ a b c d e f g h
def dP (a : Int → Int → Option Int) (b : aH) (c : Int) (d : Int) (e : Int) (f : Int) (g : Int) (h : Int) (i : Int) : Nat → Int → Int → Option Int
 | 0, _, _ => none
 | m + 1, n, o =>
  bif decide (o < i) then ((eO b).bind fun j =>
  (bif decide ((w64 ((w64 (d - f)) + (min (w64 (e - o)) b.Field.Guards))) < j) then ((bif !((aE c (aA.mk false false 0 0 false false false false) b.players).guard) then (some true) else (some (decide ((min (w64 (e - o)) b.Field.Guards) < b.Field.Guards)))).bind fun k =>
  some k) else (some false)).bind fun l =>
  bif l then ((dP a b c d e f g h i m) (min n (w64 (f + o))) (w64 (o + 1)))
  else ((dP a b c d e f g h i m) n (w64 (o + 1))))
  else (mK a b c d e n g h)
def mI (a : Int) : Option Int :=
  some a
def dE (a : aH) (b : Int) (c : Int) (d : Int) (e : Int) : Nat → Int → Int → Option Int
 | 0, _, _ => none
 | f + 1, g, h =>
  bif decide (h < e) then (dP (dE a b c d e f) a b c d h e h (w64 (d + 1)) BIG g 0)
  else (mI g)
def fN (a : aH) (b : Int) (c : Int) (d : Int) : Option Int :=
  dE a b c d (w64 (c + 1)) BIG 61 0
def eR (a : aH) (b : Int) (c : List Int) (d : Int) : Nat → Int → Int → Int → Option Int
 | 0, _, _, _ => none
 | f + 1, g, h, i =>
  bif decide (i < d) then ((idx c i).bind fun e =>
  bif decide (e = b) then (fN a b g h)
  else (bif (aE e (aA.mk false false 0 0 false false false false) a.players).guard then ((eR a b c d f) g (w64 (h + 1)) (w64 (i + 1)))
  else ((eR a b c d f) (w64 (g + 1)) h (w64 (i + 1)))))
  else (fN a b g h)
def iT (a : aH) (b : Int) : Option Int :=
  (eY a).bind fun c =>
  eR a b c (c.length : Int) BIG 0 0 0
def dD (a : aP) (b : List aG) (c : Int) (d : Int) : Option (Int × Int) :=
  (pC a b c d).bind fun e =>
  bif !decide (e.2 = 0) then (some (0, e.2))
  else ((e.1).bind fun f =>
  (lD f d).bind fun g =>
  bif decide (g.1 = 1) then (bif decide (0 = 61) then (some (0, 3))
  else (some (0, 0)))
  else ((bif decide (g.1 = 3) then ((e.1).bind fun h =>
  some h.frozen) else (some false)).bind fun i =>
  bif i then ((e.1).bind fun j =>
  (mD j d).bind fun k =>
  bif decide (k = 61) then (some (0, 3))
  else (some (k, 0)))
  else (bif decide (g.1 = 3) then ((e.1).bind fun l =>
  (iT l d).bind fun m =>
  bif decide (m = 61) then (some (0, 3))
  else (some (m, 0)))
  else (bif decide (61 = 61) then (some (0, 3))
  else (some (61, 0))))))
def slices_Sort_int (x : List Int) : Option (List Int) := if x.length < 4611686018427387904 then some (sH x) else none
def oL (a : Int → (List Int) → Option ((List Int))) (b : Int) (c : List Int) : Option ((List Int)) :=
  (chk (decide (0 ≤ b) && decide (b ≤ (c.length : Int)))).bind fun d =>
  (chk (decide (b.toNat ≤ c.length))).bind fun e =>
  (chk (decide (0 ≤ b))).bind fun f =>
  some (c.take b.toNat)
def fD (a : Int → (List Int) → Option ((List Int))) (b : Int) : Nat → Int → Int → (List Int) → Option ((List Int))
 | 0, _, _, _ => none
 | g + 1, h, i, j =>
  bif decide (i < ((j.drop b.toNat).length : Int)) then ((idx (j.drop b.toNat) i).bind fun c =>
  (idx (j.drop b.toNat) (w64 (i - 1))).bind fun d =>
  bif !decide (c = d) then ((idx (j.drop b.toNat) i).bind fun e =>
  (idx j h).bind fun f =>
  (fD a b g) (w64 (h + 1)) (w64 (i + 1)) (j.set h.toNat e))
  else ((fD a b g) h (w64 (i + 1)) j))
  else (oL a h j)
def oK (a : Int → (List Int) → Option ((List Int))) (b : Int) (c : List Int) : Option ((List Int)) :=
  a (w64 (b + 1)) c
def oJ (a : List Int) : Option ((List Int)) :=
  some a
def dU : Nat → Int → (List Int) → Option ((List Int))
 | 0, _, _ => none
 | d + 1, e, f =>
  bif decide (e < (f.length : Int)) then ((idx f e).bind fun a =>
  (idx f (w64 (e - 1))).bind fun b =>
  bif decide (a = b) then ((chk (decide (0 ≤ e) && decide (e ≤ (f.length : Int)))).bind fun c =>
  fD (dU d) e BIG e 1 f)
  else (oK (dU d) e f))
  else (oJ f)
def lQ (a : List Int) : Option ((List Int)) :=
  bif decide ((a.length : Int) < 2) then (some a)
  else (dU BIG 1 a)
def vN : Option (Int × Int) :=
  some (0, 3)
def lZ (a : List aG) (b : Int) (c : Int) (d : aP) (e : List Int) : Nat → Int → Option (Int × Int)
 | 0, _ => none
 | k + 1, l =>
  bif decide (l < c) then ((idx e l).bind fun f =>
  (pR d a f).bind fun g =>
  (g).bind fun h =>
  (lD h b).bind fun i =>
  (bif decide (i.1 = 1) then (some true) else (some (decide (i.1 = 2)))).bind fun j =>
  bif j then (some (f, 0))
  else ((lZ a b c d e k) (w64 (l + 1))))
  else (vN)
def sC (a : List aG) (b : Int) (c : aP) (d : List Int) : Option (Int × Int) :=
  (slices_Sort_int d).bind fun e =>
  (lQ e).bind fun f =>
  lZ a b (f.length : Int) c f BIG 0
def lY (a : List aG) (b : Int) (c : List aG) (d : Int) (e : aP) : Nat → Int → (List Int) → Option (Int × Int)
 | 0, _, _ => none
 | h + 1, i, j =>
  bif decide (i < d) then ((idx c i).bind fun f =>
  (app 8 j ([f.Hour])).bind fun g =>
  (lY a b c d e h) (w64 (i + 1)) g)
  else (sC a b e j)
def rK (a : aP) (b : List aG) (c : Int) : Option (Int × Int) :=
  (pC a b 0 c).bind fun d =>
  bif !decide (d.2 = 0) then (some (0, d.2))
  else (lY b c b (b.length : Int) a BIG 0 ([] : List Int))
def rT : Option Bool :=
  some true
def lJ (a : List Int) (b : List Int) : Nat → Int → Option Bool
 | 0, _ => none
 | e + 1, f =>
  bif decide (f < (a.length : Int)) then ((idx a f).bind fun c =>
  (idx b f).bind fun d =>
  bif !decide (c = d) then (some false)
  else ((lJ a b e) (w64 (f + 1))))
  else (rT)
def kW (a : List Int) (b : List Int) : Option Bool :=
  bif !decide ((a.length : Int) = (b.length : Int)) then (some false)
  else (lJ a b BIG 0)
def jS : Option Bool :=
  (jV).bind fun a =>
  (oU a.1 a.2 12).bind fun b =>
  (dD a.1 a.2 10 4).bind fun c =>
  (rK a.1 a.2 4).bind fun d =>
  (bif decide (b.2 = 0) then (some (decide (c.2 = 0))) else (some false)).bind fun e =>
  (bif e then (some (decide (d.2 = 0))) else (some false)).bind fun f =>
  (bif f then (some (decide (c.1 = 2))) else (some false)).bind fun g =>
  (bif g then (some (decide (d.1 = 15))) else (some false)).bind fun h =>
  (bif h then ((kW b.1.Main ([9, 8, 5])).bind fun i =>
  some i) else (some false)).bind fun j =>
  (bif j then ((kW b.1.Wilds ([7])).bind fun k =>
  some k) else (some false)).bind fun l =>
  (bif l then ((kW b.1.Out ([6, 4])).bind fun m =>
  some m) else (some false)).bind fun n =>
  some n
def rN : Option Bool :=
  some false
def iS (a : List Int) (b : Int) : Nat → Int → Option Bool
 | 0, _ => none
 | d + 1, e =>
  bif decide (e < (a.length : Int)) then ((idx a e).bind fun c =>
  bif decide (c = b) then (some true)
  else ((iS a b d) (w64 (e + 1))))
  else (rN)
def oE (a : List Int) (b : Int) : Option Bool :=
  iS a b BIG 0
def qP (a : List aG) (b : Int) (c : Int) (d : Int) : Option ((List aG)) :=
  (app 40 ([] : List aG) a).bind fun e =>
  (app 40 e ([(aG.mk d b 4 c 0)])).bind fun f =>
  some f
def iG (a : List aG) (b : Int) (c : Int) : Nat → Int → Int → Option ((List aG))
 | 0, _, _ => none
 | e + 1, f, g =>
  bif decide (g < (a.length : Int)) then ((idx a g).bind fun d =>
  (iG a b c e) (max f (w64 (d.Id + 1))) (w64 (g + 1)))
  else (qP a b c f)
def iX (a : List aG) (b : Int) (c : Int) : Option ((List aG)) :=
  iG a b c BIG 0 0
def dH : Option Bool :=
  (jS).bind fun a =>
  some a
def gL (a : (List aG) → Int → Int → Int → Option Bool) (b : List aG) (c : Int) (d : Int) (e : Int) (f : aP) (g : dJ) : Option Bool :=
  a b c d (w64 (e + 1))
def iR (a : (List aG) → Int → Int → Int → Option Bool) (b : List aG) (c : Int) (d : Int) (e : Int) (f : Bool) (g : aP) (h : dJ) (i : gM) : Option Bool :=
  bif !f then (some false)
  else ((bif decide (e = (h.Places.length : Int)) then (some true) else (some (decide ((i.Main.length : Int) = 0)))).bind fun j =>
  (bif j then (some true) else (some (!decide (d = 0)))).bind fun k =>
  (bif k then (some true) else (some (decide (c = 0)))).bind fun l =>
  bif l then (dH)
  else ((idx h.Places e).bind fun m =>
  (chk (!decide ((i.Main.length : Int) = 0))).bind fun n =>
  (idx i.Main ((max 0 m).tmod (i.Main.length : Int))).bind fun o =>
  (iX b h.Hour o).bind fun p =>
  (dD g p h.Hour h.Player).bind fun q =>
  gL a p q.1 q.2 e g h))
def eM (a : (List aG) → Int → Int → Int → Option Bool) (b : List aG) (c : Int) (d : Int) (e : Int) (f : aP) (g : dJ) (h : gM) : Nat → Bool → Int → Option Bool
 | 0, _, _ => none
 | o + 1, p, q =>
  bif decide (q < (h.Main.length : Int)) then ((idx h.Main q).bind fun i =>
  (iX b g.Hour i).bind fun j =>
  (dD f j g.Hour g.Player).bind fun k =>
  (bif decide (k.2 = 0) then (some (decide (k.1 < (w64 (c - 1))))) else (some false)).bind fun l =>
  bif l then (some false)
  else ((bif p then (some true) else ((bif decide (k.2 = 0) then (some (decide (k.1 = (w64 (c - 1))))) else (some false)).bind fun m =>
  some m)).bind fun n =>
  (eM a b c d e f g h o) n (w64 (q + 1))))
  else (iR a b c d e p f g h)
def cF (a : aP) (b : dJ) : Nat → (List aG) → Int → Int → Int → Option Bool
 | 0, _, _, _, _ => none
 | r + 1, s, t, u, v =>
  bif decide (v ≤ (b.Places.length : Int)) then ((oU a s b.Hour).bind fun c =>
  (bif !decide (c.2 = 0) then (some true) else ((bif !decide (u = 0) then (some (!decide (u = 3))) else (some false)).bind fun d =>
  some d)).bind fun e =>
  (bif e then (some true) else ((bif decide (u = 0) then ((oE c.1.Main b.Player).bind fun f =>
  some (!decide ((decide (t = 0)) = f))) else (some false)).bind fun g =>
  some g)).bind fun h =>
  bif h then (some false)
  else ((bif decide (u = 0) then (some (decide (0 < t))) else (some false)).bind fun i =>
  bif i then (eM (cF a b r) s t u v a b c.1 BIG false 0)
  else ((bif decide (v = (b.Places.length : Int)) then (some true) else (some (decide ((c.1.Main.length : Int) = 0)))).bind fun j =>
  (bif j then (some true) else (some (!decide (u = 0)))).bind fun k =>
  (bif k then (some true) else (some (decide (t = 0)))).bind fun l =>
  bif l then (dH)
  else ((idx b.Places v).bind fun m =>
  (chk (!decide ((c.1.Main.length : Int) = 0))).bind fun n =>
  (idx c.1.Main ((max 0 m).tmod (c.1.Main.length : Int))).bind fun o =>
  (iX s b.Hour o).bind fun p =>
  (dD a p b.Hour b.Player).bind fun q =>
  gL (cF a b r) p q.1 q.2 v a b))))
  else (dH)
def nH (a : List aG) (b : aP) (c : dJ) : Option Bool :=
  (app 40 ([] : List aG) a).bind fun d =>
  (dD b d c.Hour c.Player).bind fun e =>
  cF b c BIG d e.1 e.2 0
def fH (a : List aG) (b : aP) (c : dJ) : Nat → Int → Option Bool
 | 0, _ => none
 | h + 1, i =>
  bif decide (i < (a.length : Int)) then ((idx a i).bind fun d =>
  (bif decide (900 < d.Id) then (some true) else ((idx a i).bind fun e =>
  some (decide (c.Hour < e.Hour)))).bind fun f =>
  bif f then ((jS).bind fun g =>
  some g)
  else ((fH a b c h) (w64 (i + 1))))
  else (nH a b c)
def mH (a : aP) (b : List aG) (c : dJ) : Option Bool :=
  (mR a b).bind fun d =>
  (bif !d then (some true) else ((mC c.Hour).bind fun e =>
  some (!e))).bind fun f =>
  (bif f then (some true) else (some (decide (12 < (b.length : Int))))).bind fun g =>
  (bif g then (some true) else (some (decide (6 < (c.Places.length : Int))))).bind fun h =>
  (bif h then (some true) else (some (decide (c.Player < 0)))).bind fun i =>
  (bif i then (some true) else (some (decide (999 < c.Player)))).bind fun j =>
  bif j then ((jS).bind fun k =>
  some k)
  else (fH b a c BIG 0)
def nE (a : Int → (List aG) → Option ((List aG))) (b : List aG) (c : Int) (d : List aG) : Option ((List aG)) :=
  a (w64 (c + 1)) d
def tT (a : Int → (List aG) → Option ((List aG))) (b : List aG) (c : Int) (d : List aG) : Option ((List aG)) :=
  nE a b c d
def kZ (a : Int → (List aG) → Option ((List aG))) (b : List aG) (c : Int) (d : Int) : Nat → Int → (List aG) → Option ((List aG))
 | 0, _, _ => none
 | i + 1, j, k =>
  bif decide (d < j) then ((idx k (w64 (j - 1))).bind fun e =>
  (idx k j).bind fun f =>
  (idx k j).bind fun g =>
  (idx (k.set j.toNat e) (w64 (j - 1))).bind fun h =>
  (kZ a b c d i) (w64 (j - 1)) ((k.set j.toNat e).set (w64 (j - 1)).toNat f))
  else (tT a b c k)
def qA (a : Int → (List aG) → Option ((List aG))) (b : List aG) (c : Int) (d : Int) (e : Bool) (f : List aG) : Option ((List aG)) :=
  bif e then (nE a b c f)
  else ((idx b c).bind fun g =>
  (app 40 f ([g])).bind fun h =>
  kZ a b c d BIG (w64 ((h.length : Int) - 1)) h)
def jF (a : Int → (List aG) → Option ((List aG))) (b : List aG) (c : Int) (d : List aG) : Nat → Int → Bool → Int → Option ((List aG))
 | 0, _, _, _ => none
 | p + 1, q, r, s =>
  bif decide (0 ≤ s) then ((bif r then (some true) else ((idx d s).bind fun e =>
  (idx b c).bind fun f =>
  some (decide (e = f)))).bind fun g =>
  (idx b c).bind fun h =>
  (idx d s).bind fun i =>
  (bif decide (h.Hour < i.Hour) then (some true) else ((idx b c).bind fun j =>
  (idx d s).bind fun k =>
  (bif decide (j.Hour = k.Hour) then ((idx b c).bind fun l =>
  (idx d s).bind fun m =>
  some (decide (l.Id < m.Id))) else (some false)).bind fun n =>
  some n)).bind fun o =>
  bif o then ((jF a b c d p) s g (w64 (s - 1)))
  else ((jF a b c d p) q g (w64 (s - 1))))
  else (qA a b c q r d)
def tS (a : List aG) : Option ((List aG)) :=
  some a
def fY (a : List aG) : Nat → Int → (List aG) → Option ((List aG))
 | 0, _, _ => none
 | b + 1, c, d =>
  bif decide (c < (a.length : Int)) then (jF (fY a b) a c d BIG (d.length : Int) false (w64 ((d.length : Int) - 1)))
  else (tS d)
def sJ (a : List aG) : Option ((List aG)) :=
  fY a BIG 0 ([] : List aG)
def wL : Option Int :=
  some (-1)
def mU (a : Int) (b : aL) : Nat → Int → Option Int
 | 0, _ => none
 | d + 1, e =>
  bif decide (e < (b.People.length : Int)) then ((idx b.People e).bind fun c =>
  bif decide (c.Player = a) then (some e)
  else ((mU a b d) (w64 (e + 1))))
  else (wL)
def sB (a : aL) (b : Int) : Option Int :=
  mU b a BIG 0
def wK : Option Bool :=
  some false
def mT (a : List Int) (b : Int) : Nat → Int → Option Bool
 | 0, _ => none
 | d + 1, e =>
  bif decide (e < (a.length : Int)) then ((idx a e).bind fun c =>
  bif decide (c = b) then (some true)
  else ((mT a b d) (w64 (e + 1))))
  else (wK)
def gA (a : List Int) (b : Int) : Option Bool :=
  mT a b BIG 0
def sP (a : List Int) : Option ((List Int)) :=
  some a
def iE (a : List Int) (b : Int) : Nat → Int → (List Int) → Option ((List Int))
 | 0, _, _ => none
 | f + 1, g, h =>
  bif decide (g < (a.length : Int)) then ((idx a g).bind fun c =>
  bif !decide (c = b) then ((idx a g).bind fun d =>
  (app 8 h ([d])).bind fun e =>
  (iE a b f) (w64 (g + 1)) e)
  else ((iE a b f) (w64 (g + 1)) h))
  else (sP h)
def eW (a : List Int) (b : Int) : Option ((List Int)) :=
  iE a b BIG 0 ([] : List Int)
def lT (a : aP) (b : aL) (c : aG) : Option aL :=
  (app 24 ([] : List aN) b.People).bind fun d =>
  (sB (aL.mk d b.Wilds b.Back b.In) c.Player).bind fun e =>
  bif decide (e < 0) then ((app 24 d ([(aN.mk c.Player 0 false false false false false)])).bind fun f =>
  (idx f (w64 ((f.length : Int) - 1))).bind fun g =>
  bif decide (c.Kind = 1) then (bif decide (c.Kind = 1) then ((bif decide (a.Close < c.Hour) then (some true) else (some g.Entered)).bind fun h =>
  bif h then (some b)
  else ((sub f 0 (w64 ((f.length : Int) - 1))).bind fun i =>
  (app 24 ([] : List aN) i).bind fun j =>
  (sub f (w64 ((w64 ((f.length : Int) - 1)) + 1)) (f.length : Int)).bind fun k =>
  (app 24 j k).bind fun l =>
  (app 24 l ([(aN.mk g.Player c.Rank (decide (c.Kind = 2)) true g.Quit g.Signed g.Card)])).bind fun m =>
  some (aL.mk m b.Wilds b.Back b.In)))
  else (bif decide (c.Kind = 3) then ((bif decide (a.Freeze < c.Hour) then (some true) else (some g.Quit)).bind fun n =>
  (bif n then (some true) else ((gA b.Wilds c.Player).bind fun o =>
  some o)).bind fun p =>
  (bif p then (some true) else (some (decide (a.Wilds ≤ (b.Wilds.length : Int))))).bind fun q =>
  bif q then (some b)
  else ((app 8 ([] : List Int) b.Wilds).bind fun r =>
  (app 8 r ([c.Player])).bind fun s =>
  (idx f (w64 ((f.length : Int) - 1))).bind fun t =>
  some (aL.mk (f.set (w64 ((f.length : Int) - 1)).toNat (aN.mk g.Player g.Rank g.Guard g.Entered g.Quit g.Signed true)) s b.Back b.In)))
  else (bif decide (c.Kind = 4) then ((gA b.Wilds c.Player).bind fun u =>
  (bif u then (some (decide (a.Freeze < c.Hour))) else (some false)).bind fun v =>
  bif v then ((eW b.Wilds c.Player).bind fun w =>
  (idx f (w64 ((f.length : Int) - 1))).bind fun x =>
  some (aL.mk (f.set (w64 ((f.length : Int) - 1)).toNat (aN.mk g.Player g.Rank g.Guard g.Entered true g.Signed g.Card)) w (w64 (b.Back + 1)) b.In))
  else ((eW b.Wilds c.Player).bind fun y =>
  (idx f (w64 ((f.length : Int) - 1))).bind fun z =>
  some (aL.mk (f.set (w64 ((f.length : Int) - 1)).toNat (aN.mk g.Player g.Rank g.Guard g.Entered true g.Signed g.Card)) y b.Back b.In)))
  else (bif decide (c.Kind = 5) then ((idx f (w64 ((f.length : Int) - 1))).bind fun a0 =>
  some (aL.mk (f.set (w64 ((f.length : Int) - 1)).toNat (aN.mk g.Player g.Rank g.Guard g.Entered g.Quit true g.Card)) b.Wilds b.Back b.In))
  else ((idx f (w64 ((f.length : Int) - 1))).bind fun a1 =>
  some (aL.mk (f.set (w64 ((f.length : Int) - 1)).toNat g) b.Wilds b.Back b.In))))))
  else (bif decide (c.Kind = 2) then ((bif decide (a.Close < c.Hour) then (some true) else (some g.Entered)).bind fun a2 =>
  bif a2 then (some b)
  else ((sub f 0 (w64 ((f.length : Int) - 1))).bind fun a3 =>
  (app 24 ([] : List aN) a3).bind fun a4 =>
  (sub f (w64 ((w64 ((f.length : Int) - 1)) + 1)) (f.length : Int)).bind fun a5 =>
  (app 24 a4 a5).bind fun a6 =>
  (app 24 a6 ([(aN.mk g.Player c.Rank (decide (c.Kind = 2)) true g.Quit g.Signed g.Card)])).bind fun a7 =>
  some (aL.mk a7 b.Wilds b.Back b.In)))
  else (bif decide (c.Kind = 3) then ((bif decide (a.Freeze < c.Hour) then (some true) else (some g.Quit)).bind fun a8 =>
  (bif a8 then (some true) else ((gA b.Wilds c.Player).bind fun a9 =>
  some a9)).bind fun b0 =>
  (bif b0 then (some true) else (some (decide (a.Wilds ≤ (b.Wilds.length : Int))))).bind fun b1 =>
  bif b1 then (some b)
  else ((app 8 ([] : List Int) b.Wilds).bind fun b2 =>
  (app 8 b2 ([c.Player])).bind fun b3 =>
  (idx f (w64 ((f.length : Int) - 1))).bind fun b4 =>
  some (aL.mk (f.set (w64 ((f.length : Int) - 1)).toNat (aN.mk g.Player g.Rank g.Guard g.Entered g.Quit g.Signed true)) b3 b.Back b.In)))
  else (bif decide (c.Kind = 4) then ((gA b.Wilds c.Player).bind fun b5 =>
  (bif b5 then (some (decide (a.Freeze < c.Hour))) else (some false)).bind fun b6 =>
  bif b6 then ((eW b.Wilds c.Player).bind fun b7 =>
  (idx f (w64 ((f.length : Int) - 1))).bind fun b8 =>
  some (aL.mk (f.set (w64 ((f.length : Int) - 1)).toNat (aN.mk g.Player g.Rank g.Guard g.Entered true g.Signed g.Card)) b7 (w64 (b.Back + 1)) b.In))
  else ((eW b.Wilds c.Player).bind fun b9 =>
  (idx f (w64 ((f.length : Int) - 1))).bind fun c0 =>
  some (aL.mk (f.set (w64 ((f.length : Int) - 1)).toNat (aN.mk g.Player g.Rank g.Guard g.Entered true g.Signed g.Card)) b9 b.Back b.In)))
  else (bif decide (c.Kind = 5) then ((idx f (w64 ((f.length : Int) - 1))).bind fun c1 =>
  some (aL.mk (f.set (w64 ((f.length : Int) - 1)).toNat (aN.mk g.Player g.Rank g.Guard g.Entered g.Quit true g.Card)) b.Wilds b.Back b.In))
  else ((idx f (w64 ((f.length : Int) - 1))).bind fun c2 =>
  some (aL.mk (f.set (w64 ((f.length : Int) - 1)).toNat g) b.Wilds b.Back b.In)))))))
  else ((idx d e).bind fun c3 =>
  bif decide (c.Kind = 1) then (bif decide (c.Kind = 1) then ((bif decide (a.Close < c.Hour) then (some true) else (some c3.Entered)).bind fun c4 =>
  bif c4 then (some b)
  else ((sub d 0 e).bind fun c5 =>
  (app 24 ([] : List aN) c5).bind fun c6 =>
  (sub d (w64 (e + 1)) (d.length : Int)).bind fun c7 =>
  (app 24 c6 c7).bind fun c8 =>
  (app 24 c8 ([(aN.mk c3.Player c.Rank (decide (c.Kind = 2)) true c3.Quit c3.Signed c3.Card)])).bind fun c9 =>
  some (aL.mk c9 b.Wilds b.Back b.In)))
  else (bif decide (c.Kind = 3) then ((bif decide (a.Freeze < c.Hour) then (some true) else (some c3.Quit)).bind fun d0 =>
  (bif d0 then (some true) else ((gA b.Wilds c.Player).bind fun d1 =>
  some d1)).bind fun d2 =>
  (bif d2 then (some true) else (some (decide (a.Wilds ≤ (b.Wilds.length : Int))))).bind fun d3 =>
  bif d3 then (some b)
  else ((app 8 ([] : List Int) b.Wilds).bind fun d4 =>
  (app 8 d4 ([c.Player])).bind fun d5 =>
  (idx d e).bind fun d6 =>
  some (aL.mk (d.set e.toNat (aN.mk c3.Player c3.Rank c3.Guard c3.Entered c3.Quit c3.Signed true)) d5 b.Back b.In)))
  else (bif decide (c.Kind = 4) then ((gA b.Wilds c.Player).bind fun d7 =>
  (bif d7 then (some (decide (a.Freeze < c.Hour))) else (some false)).bind fun d8 =>
  bif d8 then ((eW b.Wilds c.Player).bind fun d9 =>
  (idx d e).bind fun e0 =>
  some (aL.mk (d.set e.toNat (aN.mk c3.Player c3.Rank c3.Guard c3.Entered true c3.Signed c3.Card)) d9 (w64 (b.Back + 1)) b.In))
  else ((eW b.Wilds c.Player).bind fun e1 =>
  (idx d e).bind fun e2 =>
  some (aL.mk (d.set e.toNat (aN.mk c3.Player c3.Rank c3.Guard c3.Entered true c3.Signed c3.Card)) e1 b.Back b.In)))
  else (bif decide (c.Kind = 5) then ((idx d e).bind fun e3 =>
  some (aL.mk (d.set e.toNat (aN.mk c3.Player c3.Rank c3.Guard c3.Entered c3.Quit true c3.Card)) b.Wilds b.Back b.In))
  else ((idx d e).bind fun e4 =>
  some (aL.mk (d.set e.toNat c3) b.Wilds b.Back b.In))))))
  else (bif decide (c.Kind = 2) then ((bif decide (a.Close < c.Hour) then (some true) else (some c3.Entered)).bind fun e5 =>
  bif e5 then (some b)
  else ((sub d 0 e).bind fun e6 =>
  (app 24 ([] : List aN) e6).bind fun e7 =>
  (sub d (w64 (e + 1)) (d.length : Int)).bind fun e8 =>
  (app 24 e7 e8).bind fun e9 =>
  (app 24 e9 ([(aN.mk c3.Player c.Rank (decide (c.Kind = 2)) true c3.Quit c3.Signed c3.Card)])).bind fun f0 =>
  some (aL.mk f0 b.Wilds b.Back b.In)))
  else (bif decide (c.Kind = 3) then ((bif decide (a.Freeze < c.Hour) then (some true) else (some c3.Quit)).bind fun f1 =>
  (bif f1 then (some true) else ((gA b.Wilds c.Player).bind fun f2 =>
  some f2)).bind fun f3 =>
  (bif f3 then (some true) else (some (decide (a.Wilds ≤ (b.Wilds.length : Int))))).bind fun f4 =>
  bif f4 then (some b)
  else ((app 8 ([] : List Int) b.Wilds).bind fun f5 =>
  (app 8 f5 ([c.Player])).bind fun f6 =>
  (idx d e).bind fun f7 =>
  some (aL.mk (d.set e.toNat (aN.mk c3.Player c3.Rank c3.Guard c3.Entered c3.Quit c3.Signed true)) f6 b.Back b.In)))
  else (bif decide (c.Kind = 4) then ((gA b.Wilds c.Player).bind fun f8 =>
  (bif f8 then (some (decide (a.Freeze < c.Hour))) else (some false)).bind fun f9 =>
  bif f9 then ((eW b.Wilds c.Player).bind fun g0 =>
  (idx d e).bind fun g1 =>
  some (aL.mk (d.set e.toNat (aN.mk c3.Player c3.Rank c3.Guard c3.Entered true c3.Signed c3.Card)) g0 (w64 (b.Back + 1)) b.In))
  else ((eW b.Wilds c.Player).bind fun g2 =>
  (idx d e).bind fun g3 =>
  some (aL.mk (d.set e.toNat (aN.mk c3.Player c3.Rank c3.Guard c3.Entered true c3.Signed c3.Card)) g2 b.Back b.In)))
  else (bif decide (c.Kind = 5) then ((idx d e).bind fun g4 =>
  some (aL.mk (d.set e.toNat (aN.mk c3.Player c3.Rank c3.Guard c3.Entered c3.Quit true c3.Card)) b.Wilds b.Back b.In))
  else ((idx d e).bind fun g5 =>
  some (aL.mk (d.set e.toNat c3) b.Wilds b.Back b.In)))))))
def rP (a : aN) : Option Bool :=
  (bif a.Entered then (some (!a.Quit)) else (some false)).bind fun b =>
  (bif b then (some (!a.Card)) else (some false)).bind fun c =>
  some c
def nD (a : (List aN) → Int → Option ((List aN))) (b : List aN) (c : Int) (d : aL) : Option ((List aN)) :=
  a b (w64 (c + 1))
def pZ (a : (List aN) → Int → Option ((List aN))) (b : List aN) (c : Int) (d : Int) (e : aL) (f : aN) : Option ((List aN)) :=
  (sub b 0 d).bind fun g =>
  (app 24 ([] : List aN) g).bind fun h =>
  (app 24 h ([f])).bind fun i =>
  (sub b d (b.length : Int)).bind fun j =>
  (app 24 i j).bind fun k =>
  nD a k c e
def jE (a : (List aN) → Int → Option ((List aN))) (b : List aN) (c : Int) (d : aL) (e : aN) : Nat → Int → Int → Option ((List aN))
 | 0, _, _ => none
 | j + 1, k, l =>
  bif decide (0 ≤ l) then ((bif decide (0 < e.Rank) then ((idx b l).bind fun f =>
  (bif decide (f.Rank = 0) then (some true) else ((idx b l).bind fun g =>
  some (decide (e.Rank < g.Rank)))).bind fun h =>
  some h) else (some false)).bind fun i =>
  bif i then ((jE a b c d e j) l (w64 (l - 1)))
  else ((jE a b c d e j) k (w64 (l - 1))))
  else (pZ a b c k d e)
def tR (a : List aN) : Option ((List aN)) :=
  some a
def iA (a : aL) : Nat → (List aN) → Int → Option ((List aN))
 | 0, _, _ => none
 | d + 1, e, f =>
  bif decide (f < (a.People.length : Int)) then ((idx a.People f).bind fun b =>
  (rP b).bind fun c =>
  bif !c then (nD (iA a d) e f a)
  else (jE (iA a d) e f a b BIG (e.length : Int) (w64 ((e.length : Int) - 1))))
  else (tR e)
def oS (a : aL) : Option ((List aN)) :=
  iA a BIG ([] : List aN) 0
def tP (a : Int → (List Int) → Option aL) (b : List aN) (c : Int) (d : aP) (e : aL) (f : aL) (g : List Int) : Option aL :=
  a (w64 (c + 1)) g
def nA (a : Int → (List Int) → Option aL) (b : List aN) (c : Int) (d : aP) (e : aL) (f : aL) (g : List Int) : Option aL :=
  tP a b c d e f g
def gZ (a : Int → (List Int) → Option aL) (b : List aN) (c : Int) (d : aP) (e : aL) (f : aL) : Nat → Int → (List Int) → Option aL
 | 0, _, _ => none
 | k + 1, l, m =>
  bif decide (l < (b.length : Int)) then ((idx b l).bind fun g =>
  (idx e.In c).bind fun h =>
  bif decide (g.Player = h) then ((idx e.In c).bind fun i =>
  (app 8 m ([i])).bind fun j =>
  (gZ a b c d e f k) (w64 (l + 1)) j)
  else ((gZ a b c d e f k) (w64 (l + 1)) m))
  else (nA a b c d e f m)
def nB (a : aL) (b : aL) (c : List Int) : Option aL :=
  some (aL.mk a.People a.Wilds a.Back c)
def tQ (a : (List Int) → Option aL) (b : List aN) (c : aP) (d : aL) (e : aL) (f : List Int) : Option aL :=
  a f
def pY (a : (List Int) → Option aL) (b : List aN) (c : Int) (d : aP) (e : aL) (f : aL) (g : List Int) : Option aL :=
  bif decide (c < 0) then (nB e f g)
  else ((app 8 g ([c])).bind fun h =>
  tQ a b d e f h)
def jD (a : (List Int) → Option aL) (b : List aN) (c : Int) (d : aP) (e : aL) (f : aL) (g : List Int) : Nat → Int → Int → Option aL
 | 0, _, _ => none
 | p + 1, q, r =>
  bif decide (0 ≤ r) then ((idx b r).bind fun h =>
  (bif h.Signed then ((idx b r).bind fun i =>
  (gA g i.Player).bind fun j =>
  some (!j)) else (some false)).bind fun k =>
  (bif k then ((idx b r).bind fun l =>
  (bif !l.Guard then (some true) else (some (decide (c < d.Guards)))).bind fun m =>
  some m) else (some false)).bind fun n =>
  bif n then ((idx b r).bind fun o =>
  (jD a b c d e f g p) o.Player (w64 (r - 1)))
  else ((jD a b c d e f g p) q (w64 (r - 1))))
  else (pY a b q d e f g)
def nC (a : (List Int) → Option aL) (b : List aN) (c : Int) (d : aP) (e : aL) (f : aL) (g : List Int) : Option aL :=
  jD a b c d e f g BIG (-1) (w64 ((b.length : Int) - 1))
def hC (a : (List Int) → Option aL) (b : List aN) (c : aP) (d : aL) (e : aL) (f : List Int) : Nat → Int → Int → Option aL
 | 0, _, _ => none
 | k + 1, l, m =>
  bif decide (m < (b.length : Int)) then ((idx b m).bind fun g =>
  (bif g.Guard then ((idx b m).bind fun h =>
  (gA f h.Player).bind fun i =>
  some i) else (some false)).bind fun j =>
  bif j then ((hC a b c d e f k) (w64 (l + 1)) (w64 (m + 1)))
  else ((hC a b c d e f k) l (w64 (m + 1))))
  else (nC a b l c d e f)
def jC (a : List aN) (b : aP) (c : aL) (d : aL) : Nat → (List Int) → Option aL
 | 0, _ => none
 | e + 1, f =>
  bif decide ((f.length : Int) < (w64 (b.Places + c.Back))) then (hC (jC a b c d e) a b c d f BIG 0 0)
  else (nB c d f)
def mZ (a : List aN) (b : aP) (c : aL) (d : aL) (e : List Int) : Option aL :=
  jC a b c d BIG e
def jB (a : List aN) (b : aP) (c : aL) (d : aL) : Nat → Int → (List Int) → Option aL
 | 0, _, _ => none
 | e + 1, f, g =>
  bif decide (f < (c.In.length : Int)) then (gZ (jB a b c d e) a f b c d BIG 0 g)
  else (mZ a b c d g)
def sI (a : aP) (b : aL) : Option aL :=
  (oS b).bind fun c =>
  jB c a b (aL.mk ([] : List aN) ([] : List Int) 0 ([] : List Int)) BIG 0 ([] : List Int)
def sX (a : List Int) : Option ((List Int)) :=
  some a
def gN (a : List aN) (b : aP) : Nat → Int → Int → (List Int) → Option ((List Int))
 | 0, _, _, _ => none
 | i + 1, j, k, l =>
  bif decide (k < (a.length : Int)) then ((bif decide ((l.length : Int) < b.Places) then ((idx a k).bind fun c =>
  (bif !c.Guard then (some true) else (some (decide (j < b.Guards)))).bind fun d =>
  some d) else (some false)).bind fun e =>
  bif e then ((idx a k).bind fun f =>
  (app 8 l ([f.Player])).bind fun g =>
  (idx a k).bind fun h =>
  bif h.Guard then ((gN a b i) (w64 (j + 1)) (w64 (k + 1)) g)
  else ((gN a b i) j (w64 (k + 1)) g))
  else ((gN a b i) j (w64 (k + 1)) l))
  else (sX l)
def rQ (a : aP) (b : aL) : Option ((List Int)) :=
  (oS b).bind fun c =>
  gN c a BIG 0 0 ([] : List Int)
def rJ (a : aP) (b : aL) (c : aG) : Option aL :=
  (lT a b c).bind fun d =>
  bif decide (a.Freeze < c.Hour) then ((sI a d).bind fun e =>
  some e)
  else ((rQ a d).bind fun f =>
  some (aL.mk d.People d.Wilds d.Back f))
def pU (a : aL) (b : aL) : Option aL :=
  some b
def kX (a : Int) (b : List aG) (c : aP) (d : aL) : Nat → Int → aL → Option aL
 | 0, _, _ => none
 | h + 1, i, j =>
  bif decide (i < (b.length : Int)) then ((idx b i).bind fun e =>
  bif decide (a < e.Hour) then (pU d j)
  else ((idx b i).bind fun f =>
  (rJ c j f).bind fun g =>
  (kX a b c d h) (w64 (i + 1)) g))
  else (pU d j)
def wJ (a : aP) (b : List aG) (c : Int) : Option aL :=
  (sJ b).bind fun d =>
  kX c d a (aL.mk ([] : List aN) ([] : List Int) 0 ([] : List Int)) BIG 0 (aL.mk ([] : List aN) ([] : List Int) 0 ([] : List Int))
def aDv (a : aP) (b : aL) (c : Int) (d : Int) : Option aL :=
  (rJ a b (aG.mk 0 c 4 d 0)).bind fun e =>
  some e
end Go.Am
