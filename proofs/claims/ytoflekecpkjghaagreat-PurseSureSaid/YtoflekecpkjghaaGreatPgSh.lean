/- Shallow functions, printed by program. -/
import Derived.Test.YtoflekecpkjghaaGreatAmFull
import Derived.Test.YtoflekecpkjghaaGreatAmNd
import Derived.Test.YtoflekecpkjghaaGreatAmSort
namespace Go.Am
def dE (x : List Int) : List D := [.sl 1 (x.map aL)]
structure aR where
 Rounds : Int
 Slots : List Int
 deriving DecidableEq, Inhabited
def aZ (x : aR) : List D := [.lit (.int .i64 x.Rounds), .sl 1 (x.Slots.map aL)]
structure aE where
 Kind : Int
 Round : Int
 Place : Int
 Player : Int
 Old : Int
 deriving DecidableEq, Inhabited
def aJ (x : aE) : List D := [.lit (.int .i64 x.Kind), .lit (.int .i64 x.Round), .lit (.int .i64 x.Place), .lit (.int .i64 x.Player), .lit (.int .i64 x.Old)]
def aNt (x : List aE) : List D := [.sl 5 (x.map aJ)]
structure bR where
 Player : Int
 One : Int
 Two : Int
 deriving DecidableEq, Inhabited
def bK (x : bR) : List D := [.lit (.int .i64 x.Player), .lit (.int .i64 x.One), .lit (.int .i64 x.Two)]
def aNu (x : List bR) : List D := [.sl 3 (x.map bK)]
structure fX where
 Person : Int
 Mille : Int
 deriving DecidableEq, Inhabited
def cX (x : fX) : List D := [.lit (.int .i64 x.Person), .lit (.int .i64 x.Mille)]
def aNr (x : List fX) : List D := [.sl 2 (x.map cX)]
structure eO where
 Person : Int
 Num : Int
 Den : Int
 deriving DecidableEq, Inhabited
def dO (x : eO) : List D := [.lit (.int .i64 x.Person), .lit (.int .i64 x.Num), .lit (.int .i64 x.Den)]
def aNs (x : List eO) : List D := [.sl 3 (x.map dO)]
structure aI where
 Id : Int
 Kind : Int
 Person : Int
 Amount : Int
 deriving DecidableEq, Inhabited
def aD (x : aI) : List D := [.lit (.int .i64 x.Id), .lit (.int .i64 x.Kind), .lit (.int .i64 x.Person), .lit (.int .i64 x.Amount)]
def aNq (x : List aI) : List D := [.sl 4 (x.map aD)]
structure aP where
 Tree : aR
 Slips : List aE
 Prizes : List Int
 Daily : Int
 Teams : List bR
 Levies : List fX
 Rates : List eO
 Items : List aI
 deriving DecidableEq, Inhabited
def aT (x : aP) : List D := [.lit (.int .i64 x.Tree.Rounds), .sl 1 (x.Tree.Slots.map aL), .sl 5 (x.Slips.map aJ), .sl 1 (x.Prizes.map aL), .lit (.int .i64 x.Daily), .sl 3 (x.Teams.map bK), .sl 2 (x.Levies.map cX), .sl 3 (x.Rates.map dO), .sl 4 (x.Items.map aD)]
def aSw (x : List (List Int)) : List D := [.sl 1 (x.map dE)]
structure aS where
 Slots : List Int
 Must : List (List Int)
 deriving DecidableEq, Inhabited
def cH (x : aS) : List D := [.sl 1 (x.Slots.map aL), .sl 1 (x.Must.map dE)]
structure aG where
 round : Int
 place : Int
 deriving DecidableEq, Inhabited
def aQ (x : aG) : List D := [.lit (.int .i64 x.round), .lit (.int .i64 x.place)]
structure bA where
 Tree : aR
 players : List Int
 won : List (aG × Int)
 deriving DecidableEq, Inhabited
def bN (x : bA) : List D := [.lit (.int .i64 x.Tree.Rounds), .sl 1 (x.Tree.Slots.map aL), .sl 1 (x.players.map aL), .mp false (x.won.map fun p : aG × Int => ((fun a : aG => Value.agg ((aQ a).map bT).toArray) p.1, aL p.2))]
structure cG where
 Low : Int
 High : Int
 deriving DecidableEq, Inhabited
def bX (x : cG) : List D := [.lit (.int .i64 x.Low), .lit (.int .i64 x.High)]
structure aY where
 Person : Int
 Gross : Int
 Tax : Int
 Daily : Int
 Fines : Int
 Debt : Int
 Units : Int
 Used : Int
 Rest : Int
 deriving DecidableEq, Inhabited
def bJ (x : aY) : List D := [.lit (.int .i64 x.Person), .lit (.int .i64 x.Gross), .lit (.int .i64 x.Tax), .lit (.int .i64 x.Daily), .lit (.int .i64 x.Fines), .lit (.int .i64 x.Debt), .lit (.int .i64 x.Units), .lit (.int .i64 x.Used), .lit (.int .i64 x.Rest)]
def aNf (x : aR) : Prop := okI x.Rounds ∧ (okL okI) x.Slots
def aHj (x : aE) : Prop := okI x.Kind ∧ okI x.Round ∧ okI x.Place ∧ okI x.Player ∧ okI x.Old
def aHk (x : bR) : Prop := okI x.Player ∧ okI x.One ∧ okI x.Two
def aHh (x : fX) : Prop := okI x.Person ∧ okI x.Mille
def aHi (x : eO) : Prop := okI x.Person ∧ okI x.Num ∧ okI x.Den
def aHg (x : aI) : Prop := okI x.Id ∧ okI x.Kind ∧ okI x.Person ∧ okI x.Amount
def aLj (x : aP) : Prop := aNf x.Tree ∧ (okL aHj) x.Slips ∧ (okL okI) x.Prizes ∧ okI x.Daily ∧ (okL aHk) x.Teams ∧ (okL aHh) x.Levies ∧ (okL aHi) x.Rates ∧ (okL aHg) x.Items
def nD (a : aP) : Option Bool :=
  (bif decide (8 < (a.Tree.Slots.length : Int)) then (some true) else (some (decide (20 < (a.Slips.length : Int))))).bind fun b =>
  (bif b then (some true) else (some (decide (20 < (a.Prizes.length : Int))))).bind fun c =>
  (bif c then (some true) else (some (decide (40 < (a.Teams.length : Int))))).bind fun d =>
  (bif d then (some true) else (some (decide (40 < (a.Levies.length : Int))))).bind fun e =>
  (bif e then (some true) else (some (decide (40 < (a.Rates.length : Int))))).bind fun f =>
  (bif f then (some true) else (some (decide (60 < (a.Items.length : Int))))).bind fun g =>
  some g
def eP (a : Int) (b : Int) (c : Int) : Option Bool :=
  (bif decide (b ≤ a) then (some (decide (a ≤ c))) else (some false)).bind fun d =>
  some d
def sO (a : Int → Option Bool) (b : Int) (c : aR) : Option Bool :=
  a (w64 (b + 1))
def sP (a : Int → Option Bool) (b : Int) (c : aR) : Option Bool :=
  sO a b c
def gT (a : Int → Option Bool) (b : Int) (c : aR) : Nat → Int → Option Bool
 | 0, _ => none
 | h + 1, i =>
  bif decide (i < b) then ((idx c.Slots i).bind fun d =>
  (idx c.Slots b).bind fun e =>
  (bif decide (d = e) then ((idx c.Slots b).bind fun f =>
  some (!decide (f = (-1)))) else (some false)).bind fun g =>
  bif g then (some false)
  else ((gT a b c h) (w64 (i + 1))))
  else (sP a b c)
def sN : Option Bool :=
  some true
def gS (a : aR) : Nat → Int → Option Bool
 | 0, _ => none
 | i + 1, j =>
  bif decide (j < (a.Slots.length : Int)) then ((idx a.Slots j).bind fun b =>
  (eP b (-1) 999).bind fun c =>
  (bif !c then (some true) else ((bif decide ((j.tmod 2) = 1) then ((idx a.Slots j).bind fun d =>
  some (decide (d = (-1)))) else (some false)).bind fun e =>
  (bif e then ((idx a.Slots (w64 (j - 1))).bind fun f =>
  some (decide (f = (-1)))) else (some false)).bind fun g =>
  some g)).bind fun h =>
  bif h then (some false)
  else (gT (gS a i) j a BIG 0))
  else (sN)
def mM (a : aR) : Option Bool :=
  (eP a.Rounds 1 5).bind fun b =>
  (bif !b then (some true) else ((chk (decide (0 ≤ (IntKind.u64.wrap a.Rounds)))).bind fun c =>
  some (!decide ((a.Slots.length : Int) = (w64 (1 * 2 ^ (min (IntKind.u64.wrap a.Rounds).toNat 64))))))).bind fun d =>
  bif d then (some false)
  else (gS a BIG 0)
def jI (a : aR) (b : Int) : Option Int :=
  (chk (decide (0 ≤ (IntKind.u64.wrap (w64 ((w64 (a.Rounds - 1)) - b)))))).bind fun c =>
  some (w64 (1 * 2 ^ (min (IntKind.u64.wrap (w64 ((w64 (a.Rounds - 1)) - b))).toNat 64)))
def nT (a : aR) (b : Int) (c : Int) : Option Bool :=
  (eP b 0 (w64 (a.Rounds - 1))).bind fun d =>
  (bif d then ((jI a b).bind fun e =>
  (eP c 0 (w64 (e - 1))).bind fun f =>
  some f) else (some false)).bind fun g =>
  some g
def oW (a : aR) (b : aE) : Option Bool :=
  (eP b.Player 0 999).bind fun c =>
  bif !c then (some false)
  else (bif decide (b.Kind = 5) then ((bif decide (b.Round = 0) then ((eP b.Place 0 (w64 ((a.Slots.length : Int) - 1))).bind fun d =>
  some d) else (some false)).bind fun e =>
  (bif e then ((eP b.Old 0 999).bind fun f =>
  some f) else (some false)).bind fun g =>
  some g)
  else ((eP b.Kind 1 4).bind fun h =>
  (bif !h then (some true) else ((nT a b.Round b.Place).bind fun i =>
  some (!i))).bind fun j =>
  (bif j then (some true) else (some (!decide (b.Old = 0)))).bind fun k =>
  bif k then (some false)
  else ((bif decide (0 < b.Round) then (some true) else ((idx a.Slots (w64 (2 * b.Place))).bind fun l =>
  (bif !decide (l = (-1)) then ((idx a.Slots (w64 ((w64 (2 * b.Place)) + 1))).bind fun m =>
  some (!decide (m = (-1)))) else (some false)).bind fun n =>
  some n)).bind fun o =>
  some o)))
def lR (a : Int → (List aE) → Option ((List aE))) (b : List aE) (c : Int) (d : List aE) : Option ((List aE)) :=
  a (w64 (c + 1)) d
def nV (a : Int → (List aE) → Option ((List aE))) (b : List aE) (c : Int) (d : Bool) (e : List aE) : Option ((List aE)) :=
  bif !d then ((idx b c).bind fun f =>
  (app 40 e ([f])).bind fun g =>
  lR a b c g)
  else (lR a b c e)
def iX (a : Int → (List aE) → Option ((List aE))) (b : List aE) (c : Int) (d : List aE) : Nat → Bool → Int → Option ((List aE))
 | 0, _, _ => none
 | h + 1, i, j =>
  bif decide (j < (d.length : Int)) then ((bif i then (some true) else ((idx d j).bind fun e =>
  (idx b c).bind fun f =>
  some (decide (e = f)))).bind fun g =>
  (iX a b c d h) g (w64 (j + 1)))
  else (nV a b c i d)
def uM (a : List aE) : Option ((List aE)) :=
  some a
def eT (a : List aE) : Nat → Int → (List aE) → Option ((List aE))
 | 0, _, _ => none
 | b + 1, c, d =>
  bif decide (c < (a.length : Int)) then (iX (eT a b) a c d BIG false 0)
  else (uM d)
def oF (a : List aE) : Option ((List aE)) :=
  eT a BIG 0 ([] : List aE)
def wE : Option Bool :=
  some false
def lE (a : List Int) (b : Int) : Nat → Int → Option Bool
 | 0, _ => none
 | d + 1, e =>
  bif decide (e < (a.length : Int)) then ((idx a e).bind fun c =>
  bif decide (c = b) then (some true)
  else ((lE a b d) (w64 (e + 1))))
  else (wE)
def tC (a : List Int) (b : Int) : Option Bool :=
  lE a b BIG 0
def jR (a : Int → Int → (List Int) → (List Int) → Option ((List Int) × Bool)) (b : Int → Int → Bool → (List Int) → Option ((List Int) × Bool)) (c : List aE) (d : Int) (e : Int) (f : Int) (g : Bool) (h : aR) (i : List Int) (j : List Int) : Option ((List Int) × Bool) :=
  b d f g j
def lN (a : Int → Int → (List Int) → (List Int) → Option ((List Int) × Bool)) (b : Int → Int → Bool → (List Int) → Option ((List Int) × Bool)) (c : List aE) (d : Int) (e : Int) (f : Int) (g : Bool) (h : aR) (i : List Int) (j : List Int) (k : List Int) : Option ((List Int) × Bool) :=
  (bif decide (1 < (j.length : Int)) then (some true) else ((bif decide ((j.length : Int) = 1) then ((idx j 0).bind fun l =>
  (tC k l).bind fun m =>
  some m) else (some false)).bind fun n =>
  some n)).bind fun o =>
  bif o then (some (([] : List Int), false))
  else (bif decide ((j.length : Int) = 1) then ((idx j 0).bind fun p =>
  (app 8 k ([p])).bind fun q =>
  jR a b c (w64 (d + 1)) e p true h i q)
  else (jR a b c d e f g h i k))
def fG (a : Int → Int → (List Int) → (List Int) → Option ((List Int) × Bool)) (b : Int → Int → Bool → (List Int) → Option ((List Int) × Bool)) (c : List aE) (d : Int) (e : Int) (f : Int) (g : Bool) (h : aR) (i : List Int) (j : List Int) : Nat → Int → (List Int) → Option ((List Int) × Bool)
 | 0, _, _ => none
 | r + 1, s, t =>
  bif decide (s < (c.length : Int)) then ((idx c s).bind fun k =>
  (bif decide (k.Kind = 5) then ((idx c s).bind fun l =>
  some (decide (l.Place = e))) else (some false)).bind fun m =>
  (bif m then ((idx c s).bind fun n =>
  some (decide (n.Old = f))) else (some false)).bind fun o =>
  bif o then ((idx c s).bind fun p =>
  (app 8 t ([p.Player])).bind fun q =>
  (fG a b c d e f g h i j r) (w64 (s + 1)) q)
  else ((fG a b c d e f g h i j r) (w64 (s + 1)) t))
  else (lN a b c d e f g h i t j)
def rP (a : Int → Int → (List Int) → (List Int) → Option ((List Int) × Bool)) (b : List aE) (c : Int) (d : Int) (e : aR) (f : List Int) (g : List Int) : Option ((List Int) × Bool) :=
  a c (w64 (d + 1)) f g
def oE (a : Int → Int → (List Int) → (List Int) → Option ((List Int) × Bool)) (b : List aE) (c : Int) (d : Int) (e : Int) (f : aR) (g : List Int) (h : List Int) : Option ((List Int) × Bool) :=
  (app 8 g ([e])).bind fun i =>
  rP a b c d f i h
def gK (a : Int → Int → (List Int) → (List Int) → Option ((List Int) × Bool)) (b : List aE) (c : Int) (d : aR) (e : List Int) : Nat → Int → Int → Bool → (List Int) → Option ((List Int) × Bool)
 | 0, _, _, _, _ => none
 | f + 1, g, h, i, j =>
  bif i then (fG a (gK a b c d e f) b g c h false d e j BIG 0 ([] : List Int))
  else (oE a b g c h d e j)
def rQ (a : Int) (b : List Int) : Option ((List Int) × Bool) :=
  some (b, decide (a = 0))
def fH (a : List aE) (b : List Int) : Nat → Int → Int → Option ((List Int) × Bool)
 | 0, _, _ => none
 | d + 1, e, f =>
  bif decide (f < (a.length : Int)) then ((idx a f).bind fun c =>
  bif decide (c.Kind = 5) then ((fH a b d) (w64 (e - 1)) (w64 (f + 1)))
  else ((fH a b d) e (w64 (f + 1))))
  else (rQ e b)
def rO (a : List aE) (b : Int) (c : List Int) : Option ((List Int) × Bool) :=
  fH a c BIG b 0
def eH (a : List aE) (b : aR) : Nat → Int → Int → (List Int) → (List Int) → Option ((List Int) × Bool)
 | 0, _, _, _, _ => none
 | d + 1, e, f, g, h =>
  bif decide (f < (b.Slots.length : Int)) then ((idx b.Slots f).bind fun c =>
  gK (eH a b d) a f b g BIG e c true h)
  else (rO a e g)
def gU (a : aR) (b : List aE) : Option ((List Int) × Bool) :=
  (oF b).bind fun c =>
  (app 8 ([] : List Int) a.Slots).bind fun d =>
  eH c a BIG 0 0 ([] : List Int) d
def uJ (a : Int → (List (List Int)) → (List Int) → Option (aS × Bool)) (b : List aE) (c : List Int) (d : Int) (e : aR) (f : aS) (g : List (List Int)) (h : List Int) : Option (aS × Bool) :=
  a (w64 (d + 1)) g h
def lP (a : Int → (List (List Int)) → (List Int) → Option (aS × Bool)) (b : List aE) (c : List Int) (d : Int) (e : aR) (f : aS) (g : List (List Int)) (h : List Int) (i : List Int) : Option (aS × Bool) :=
  (app 24 g [i]).bind fun j =>
  uJ a b c d e f j h
def eS (a : Int → (List (List Int)) → (List Int) → Option (aS × Bool)) (b : List aE) (c : List Int) (d : Int) (e : aR) (f : aS) (g : List (List Int)) (h : List Int) : Nat → Int → (List Int) → Option (aS × Bool)
 | 0, _, _ => none
 | w + 1, x, y =>
  (jI e d).bind fun i =>
  bif decide (x < i) then ((bif decide (d = 0) then ((idx c (w64 (2 * x))).bind fun j =>
  some (decide (j = (-1)))) else (some false)).bind fun k =>
  bif k then ((idx c (w64 ((w64 (2 * x)) + 1))).bind fun l =>
  (bif decide (d = 0) then ((idx c (w64 ((w64 (2 * x)) + 1))).bind fun m =>
  some (decide (m = (-1)))) else (some false)).bind fun n =>
  bif n then ((idx c (w64 (2 * x))).bind fun o =>
  (app 8 y ([o])).bind fun p =>
  (eS a b c d e f g h w) (w64 (x + 1)) p)
  else ((app 8 y ([l])).bind fun q =>
  (eS a b c d e f g h w) (w64 (x + 1)) q))
  else ((bif decide (d = 0) then ((idx c (w64 ((w64 (2 * x)) + 1))).bind fun r =>
  some (decide (r = (-1)))) else (some false)).bind fun s =>
  bif s then ((idx c (w64 (2 * x))).bind fun t =>
  (app 8 y ([t])).bind fun u =>
  (eS a b c d e f g h w) (w64 (x + 1)) u)
  else ((app 8 y ([(-2)])).bind fun v =>
  (eS a b c d e f g h w) (w64 (x + 1)) v)))
  else (lP a b c d e f g h y)
def lQ (a : Int → aS → (List (List Int)) → Option (aS × Bool)) (b : List Int) (c : List aE) (d : Int) (e : aS) (f : List (List Int)) (g : List Int) : Option (aS × Bool) :=
  a (w64 (d + 1)) e f
def tQ (a : Int → aS → (List (List Int)) → Option (aS × Bool)) (b : List Int) (c : List aE) (d : Int) (e : aS) (f : List (List Int)) (g : List Int) : Option (aS × Bool) :=
  lQ a b c d e f g
def iG (a : Int → aS → (List (List Int)) → Option (aS × Bool)) (b : List Int) (c : List aE) (d : Int) (e : Int) (f : List Int) (g : aE) : Nat → Int → aS → (List (List Int)) → Option (aS × Bool)
 | 0, _, _, _ => none
 | p + 1, q, r, s =>
  bif decide (q ≤ g.Round) then ((chk (decide (0 ≤ (IntKind.u64.wrap (w64 (q + 1)))))).bind fun h =>
  (idx s q).bind fun i =>
  (idx i (e.fdiv (2 ^ (min (IntKind.u64.wrap (w64 (q + 1))).toNat 64)))).bind fun j =>
  (bif !decide (j = (-2)) then ((idx s q).bind fun k =>
  (idx k (e.fdiv (2 ^ (min (IntKind.u64.wrap (w64 (q + 1))).toNat 64)))).bind fun l =>
  some (!decide (l = g.Player))) else (some false)).bind fun m =>
  bif m then (some ((aS.mk ([] : List Int) ([] : List (List Int))), false))
  else ((idx s q).bind fun n =>
  (idx n (e.fdiv (2 ^ (min (IntKind.u64.wrap (w64 (q + 1))).toNat 64)))).bind fun o =>
  (iG a b c d e f g p) (w64 (q + 1)) r (s.set q.toNat (n.set (e.fdiv (2 ^ (min (IntKind.u64.wrap (w64 (q + 1))).toNat 64))).toNat g.Player))))
  else (tQ a b c d r s f)
def iV (a : Int → aS → (List (List Int)) → Option (aS × Bool)) (b : List Int) (c : List aE) (d : Int) (e : Int) (f : aS) (g : List (List Int)) (h : List Int) (i : aE) : Option (aS × Bool) :=
  (bif decide (e < 0) then (some true) else ((chk (decide (0 ≤ (IntKind.u64.wrap (w64 (i.Round + 1)))))).bind fun j =>
  some (!decide ((e.fdiv (2 ^ (min (IntKind.u64.wrap (w64 (i.Round + 1))).toNat 64))) = i.Place)))).bind fun k =>
  bif k then (some ((aS.mk ([] : List Int) ([] : List (List Int))), false))
  else (iG a b c d e h i BIG 0 f g)
def eI (a : Int → aS → (List (List Int)) → Option (aS × Bool)) (b : List Int) (c : List aE) (d : Int) (e : aS) (f : List (List Int)) (g : List Int) (h : aE) : Nat → Int → Int → Option (aS × Bool)
 | 0, _, _ => none
 | j + 1, k, l =>
  bif decide (l < (b.length : Int)) then ((idx b l).bind fun i =>
  bif decide (i = h.Player) then ((eI a b c d e f g h j) l (w64 (l + 1)))
  else ((eI a b c d e f g h j) k (w64 (l + 1))))
  else (iV a b c d k e f g h)
def qJ (a : Int → aS → (List (List Int)) → Option (aS × Bool)) (b : List Int) (c : List aE) (d : Int) (e : aS) (f : List (List Int)) (g : List Int) (h : aE) : Option (aS × Bool) :=
  eI a b c d e f g h BIG (-1) 0
def iW (a : Int → aS → (List (List Int)) → Option (aS × Bool)) (b : List Int) (c : List aE) (d : Int) (e : List (List Int)) (f : List Int) (g : aE) : Nat → Int → aS → Option (aS × Bool)
 | 0, _, _ => none
 | k + 1, l, m =>
  bif decide (l < d) then ((idx c l).bind fun h =>
  (bif !decide (h.Kind = 5) then (some (decide (h.Round = g.Round))) else (some false)).bind fun i =>
  (bif i then (some (decide (h.Place = g.Place))) else (some false)).bind fun j =>
  bif j then (some ((aS.mk ([] : List Int) ([] : List (List Int))), false))
  else ((iW a b c d e f g k) (w64 (l + 1)) m))
  else (qJ a b c d m e f g)
def uK (a : aS) (b : List (List Int)) (c : List Int) : Option (aS × Bool) :=
  some ((aS.mk c b), true)
def dF (a : List Int) (b : List aE) (c : List Int) : Nat → Int → aS → (List (List Int)) → Option (aS × Bool)
 | 0, _, _, _ => none
 | e + 1, f, g, h =>
  bif decide (f < (b.length : Int)) then ((idx b f).bind fun d =>
  bif decide (d.Kind = 5) then (lQ (dF a b c e) a b f g h c)
  else (iW (dF a b c e) a b f h c d BIG 0 g))
  else (uK g h c)
def lO (a : List aE) (b : List Int) (c : aS) (d : List (List Int)) (e : List Int) : Option (aS × Bool) :=
  (oF a).bind fun f =>
  dF b f e BIG 0 c d
def gV (a : List aE) (b : List Int) (c : aR) (d : aS) : Nat → Int → (List (List Int)) → (List Int) → Option (aS × Bool)
 | 0, _, _, _ => none
 | e + 1, f, g, h =>
  bif decide (f < c.Rounds) then (eS (gV a b c d e) a b f c d g h BIG 0 ([] : List Int))
  else (lO a b d g h)
def eN (a : aR) (b : List aE) : Option (aS × Bool) :=
  (gU a b).bind fun c =>
  bif !c.2 then (some ((aS.mk ([] : List Int) ([] : List (List Int))), false))
  else (gV b c.1 a (aS.mk ([] : List Int) ([] : List (List Int))) BIG 0 ([] : List (List Int)) c.1)
def kP (a : List aE) (b : aR) : Option Int :=
  (eN b a).bind fun c =>
  bif !c.2 then (some 72)
  else (some 0)
def iF (a : List aE) (b : aR) : Nat → Int → Option Int
 | 0, _ => none
 | e + 1, f =>
  bif decide (f < (a.length : Int)) then ((idx a f).bind fun c =>
  (oW b c).bind fun d =>
  bif !d then (some 71)
  else ((iF a b e) (w64 (f + 1))))
  else (kP a b)
def fJ (a : aR) (b : List aE) : Option Int :=
  (mM a).bind fun c =>
  bif !c then (some 70)
  else (bif decide (60 < (b.length : Int)) then (some 71)
  else (iF b a BIG 0))
def dR (a : Int) (b : Int) (c : Int) : Option Bool :=
  (bif decide (b ≤ a) then (some (decide (a ≤ c))) else (some false)).bind fun d =>
  some d
def wS : Option Bool :=
  some false
def iN (a : Int) (b : aP) : Nat → Int → Option Bool
 | 0, _ => none
 | d + 1, e =>
  bif decide (e < (b.Teams.length : Int)) then ((idx b.Teams e).bind fun c =>
  bif decide (c.Player = a) then (some true)
  else ((iN a b d) (w64 (e + 1))))
  else (wS)
def lT (a : aP) (b : Int) : Option Bool :=
  iN b a BIG 0
def rC (a : Int → Option Bool) (b : Int) (c : aP) : Option Bool :=
  a (w64 (b + 1))
def rD (a : Int → Option Bool) (b : Int) (c : aP) : Option Bool :=
  rC a b c
def fV (a : Int → Option Bool) (b : Int) (c : aP) (d : bR) : Nat → Int → Option Bool
 | 0, _ => none
 | k + 1, l =>
  bif decide (l < b) then ((idx c.Teams l).bind fun e =>
  (bif decide (e.Player = d.Player) then (some true) else (some (decide (e.One = d.One)))).bind fun f =>
  (bif f then (some true) else (some (decide (e.Two = d.One)))).bind fun g =>
  (bif g then (some true) else ((bif decide (0 ≤ d.Two) then ((bif decide (e.One = d.Two) then (some true) else (some (decide (e.Two = d.Two)))).bind fun h =>
  some h) else (some false)).bind fun i =>
  some i)).bind fun j =>
  bif j then (some false)
  else ((fV a b c d k) (w64 (l + 1))))
  else (rD a b c)
def nN (a : aP) : Option Bool :=
  some (decide ((a.Teams.length : Int) ≤ 64))
def hJ (a : aP) : Nat → Int → Option Bool
 | 0, _ => none
 | f + 1, g =>
  bif decide (g < (a.Slips.length : Int)) then ((idx a.Slips g).bind fun b =>
  (bif decide (b.Kind = 5) then ((idx a.Slips g).bind fun c =>
  (lT a c.Player).bind fun d =>
  some (!d)) else (some false)).bind fun e =>
  bif e then (some false)
  else ((hJ a f) (w64 (g + 1))))
  else (nN a)
def kV (a : aP) : Option Bool :=
  hJ a BIG 0
def gZ (a : aP) : Nat → Int → Option Bool
 | 0, _ => none
 | f + 1, g =>
  bif decide (g < (a.Tree.Slots.length : Int)) then ((idx a.Tree.Slots g).bind fun b =>
  (bif !decide (b = (-1)) then ((idx a.Tree.Slots g).bind fun c =>
  (lT a c).bind fun d =>
  some (!d)) else (some false)).bind fun e =>
  bif e then (some false)
  else ((gZ a f) (w64 (g + 1))))
  else (kV a)
def kU (a : aP) : Option Bool :=
  gZ a BIG 0
def fU (a : aP) : Nat → Int → Option Bool
 | 0, _ => none
 | i + 1, j =>
  bif decide (j < (a.Teams.length : Int)) then ((idx a.Teams j).bind fun b =>
  (dR b.Player 0 999).bind fun c =>
  (bif !c then (some true) else ((dR b.One 0 999).bind fun d =>
  some (!d))).bind fun e =>
  (bif e then (some true) else ((dR b.Two (-1) 999).bind fun f =>
  some (!f))).bind fun g =>
  (bif g then (some true) else (some (decide (b.One = b.Two)))).bind fun h =>
  bif h then (some false)
  else (fV (fU a i) j a b BIG 0))
  else (kU a)
def kQ (a : aP) : Option Bool :=
  fU a BIG 0
def yZ (a : bR) : Option (bR × Bool × Bool) :=
  some ((bR.mk 0 0 0), false, false)
def jW (a : Int) (b : aP) : Nat → Int → bR → Option (bR × Bool × Bool)
 | 0, _, _ => none
 | i + 1, j, k =>
  bif decide (j < (b.Teams.length : Int)) then ((idx b.Teams j).bind fun c =>
  (bif decide (c.One = a) then (some true) else ((idx b.Teams j).bind fun d =>
  (bif decide (d.Two = a) then (some (decide (0 ≤ a))) else (some false)).bind fun e =>
  some e)).bind fun f =>
  bif f then ((idx b.Teams j).bind fun g =>
  (idx b.Teams j).bind fun h =>
  some (g, decide (h.Two = a), true))
  else ((jW a b i) (w64 (j + 1)) k))
  else (yZ k)
def oG (a : aP) (b : Int) : Option (bR × Bool × Bool) :=
  jW b a BIG 0 (bR.mk 0 0 0)
def iJ (a : aP) (b : Int) : Option Bool :=
  (oG a b).bind fun c =>
  (bif c.2.2 then (some (decide (0 ≤ b))) else (some false)).bind fun d =>
  some d
def qX (a : Int → Option Bool) (b : Int) (c : aP) : Option Bool :=
  a (w64 (b + 1))
def qY (a : Int → Option Bool) (b : Int) (c : aP) : Option Bool :=
  qX a b c
def fS (a : Int → Option Bool) (b : Int) (c : aP) : Nat → Int → Option Bool
 | 0, _ => none
 | f + 1, g =>
  bif decide (g < b) then ((idx c.Levies g).bind fun d =>
  (idx c.Levies b).bind fun e =>
  bif decide (d.Person = e.Person) then (some false)
  else ((fS a b c f) (w64 (g + 1))))
  else (qY a b c)
def rA (a : Int → Option Bool) (b : Int) (c : aP) : Option Bool :=
  a (w64 (b + 1))
def rB (a : Int → Option Bool) (b : Int) (c : aP) : Option Bool :=
  rA a b c
def fT (a : Int → Option Bool) (b : Int) (c : aP) (d : eO) : Nat → Int → Option Bool
 | 0, _ => none
 | f + 1, g =>
  bif decide (g < b) then ((idx c.Rates g).bind fun e =>
  bif decide (e.Person = d.Person) then (some false)
  else ((fT a b c d f) (w64 (g + 1))))
  else (rB a b c)
def qZ : Option Bool :=
  some true
def dJ (a : aP) : Nat → Int → Option Bool
 | 0, _ => none
 | h + 1, i =>
  bif decide (i < (a.Rates.length : Int)) then ((idx a.Rates i).bind fun b =>
  (iJ a b.Person).bind fun c =>
  (bif !c then (some true) else ((dR b.Num 1 10000).bind fun d =>
  some (!d))).bind fun e =>
  (bif e then (some true) else ((dR b.Den 1 10000).bind fun f =>
  some (!f))).bind fun g =>
  bif g then (some false)
  else (fT (dJ a h) i a b BIG 0))
  else (qZ)
def kT (a : aP) : Option Bool :=
  dJ a BIG 0
def dI (a : aP) : Nat → Int → Option Bool
 | 0, _ => none
 | g + 1, h =>
  bif decide (h < (a.Levies.length : Int)) then ((idx a.Levies h).bind fun b =>
  (iJ a b.Person).bind fun c =>
  (bif !c then (some true) else ((idx a.Levies h).bind fun d =>
  (dR d.Mille 0 500).bind fun e =>
  some (!e))).bind fun f =>
  bif f then (some false)
  else (fS (dI a g) h a BIG 0))
  else (kT a)
def mX (a : aP) : Option Bool :=
  dI a BIG 0
def qV (a : Int → Option Bool) (b : Int) (c : aP) : Option Bool :=
  a (w64 (b + 1))
def qW (a : Int → Option Bool) (b : Int) (c : aP) : Option Bool :=
  qV a b c
def fR (a : Int → Option Bool) (b : Int) (c : aP) (d : aI) : Nat → Int → Option Bool
 | 0, _ => none
 | h + 1, i =>
  bif decide (i < b) then ((idx c.Items i).bind fun e =>
  (bif decide (e.Id = d.Id) then ((idx c.Items i).bind fun f =>
  some (!decide (f = d))) else (some false)).bind fun g =>
  bif g then (some false)
  else ((fR a b c d h) (w64 (i + 1))))
  else (qW a b c)
def nM (a : aP) : Option Bool :=
  some (decide ((a.Items.length : Int) ≤ 40))
def dH (a : aP) : Nat → Int → Option Bool
 | 0, _ => none
 | l + 1, m =>
  bif decide (m < (a.Items.length : Int)) then ((idx a.Items m).bind fun b =>
  (dR b.Id 0 99).bind fun c =>
  (bif !c then (some true) else ((iJ a b.Person).bind fun d =>
  some (!d))).bind fun e =>
  (bif e then (some true) else ((bif decide (b.Kind = 1) then ((dR b.Amount 0 10000000).bind fun f =>
  some f) else (some false)).bind fun g =>
  (bif g then (some true) else ((bif decide (b.Kind = 2) then ((dR b.Amount 0 30).bind fun h =>
  some h) else (some false)).bind fun i =>
  some i)).bind fun j =>
  some (!j))).bind fun k =>
  bif k then (some false)
  else (fR (dH a l) m a b BIG 0))
  else (nM a)
def mW (a : aP) : Option Bool :=
  dH a BIG 0
def qC (a : aP) : Option Int :=
  (bif !decide ((a.Prizes.length : Int) = (w64 (a.Tree.Rounds + 1))) then (some true) else ((dR a.Daily 0 100000).bind fun b =>
  some (!b))).bind fun c =>
  bif c then (some 100)
  else ((kQ a).bind fun d =>
  (bif !d then (some true) else ((mX a).bind fun e =>
  some (!e))).bind fun f =>
  bif f then (some 101)
  else ((mW a).bind fun g =>
  bif !g then (some 102)
  else (some 0)))
def iI (a : aP) : Nat → Int → Option Int
 | 0, _ => none
 | h + 1, i =>
  bif decide (i < (a.Prizes.length : Int)) then ((idx a.Prizes i).bind fun b =>
  (dR b 0 10000000).bind fun c =>
  (bif !c then (some true) else ((bif decide (0 < i) then ((idx a.Prizes i).bind fun d =>
  (idx a.Prizes (w64 (i - 1))).bind fun e =>
  some (decide (d < e))) else (some false)).bind fun f =>
  some f)).bind fun g =>
  bif g then (some 100)
  else ((iI a h) (w64 (i + 1))))
  else (qC a)
def pT (a : aP) : Option Int :=
  (fJ a.Tree a.Slips).bind fun b =>
  bif !decide (b = 0) then (some b)
  else (iI a BIG 0)
def nE (a : aP) : Option Bool :=
  (nD a).bind fun b =>
  (bif !b then ((pT a).bind fun c =>
  some (decide (c = 0))) else (some false)).bind fun d =>
  some d
def nS : Option aP :=
  some (aP.mk (aR.mk 2 ([1, 2, 3, 4])) ([(aE.mk 1 0 0 1 0)]) ([100, 300, 1001]) 40 ([(bR.mk 1 11 12), (bR.mk 2 21 22), (bR.mk 3 31 (-1)), (bR.mk 4 41 (-1))]) ([(fX.mk 11 250)]) ([(eO.mk 21 3 2), (eO.mk 22 1 3)]) ([(aI.mk 1 1 21 30), (aI.mk 2 2 11 2), (aI.mk 3 1 31 160)]))
def fZ (a : Int) (b : Int) (c : Int) : Option Bool :=
  (bif decide (b ≤ a) then (some (decide (a ≤ c))) else (some false)).bind fun d =>
  some d
def vM : Option Bool :=
  some true
def jH (a : List Int) (b : Int) (c : aR) : Nat → Int → (List (Int × Int)) → Option Bool
 | 0, _, _ => none
 | h + 1, i, j =>
  bif decide (i < b) then ((idx a i).bind fun d =>
  bif decide (d = (-1)) then ((idx c.Slots (aOp i 1)).bind fun e =>
  bif decide (e = (-1)) then (some false)
  else ((jH a b c h) (w64 (i + 1)) j))
  else ((bif decide (1 < (cT d 0 (gQ d (w64 ((cT d 0 j) + 1)) j))) then (some true) else ((fZ d 0 999).bind fun f =>
  some (!f))).bind fun g =>
  bif g then (some false)
  else ((jH a b c h) (w64 (i + 1)) (gQ d (w64 ((cT d 0 j) + 1)) j))))
  else (vM)
def pM (a : aR) : Option Bool :=
  (fZ a.Rounds 1 5).bind fun b =>
  (bif !b then (some true) else ((chk (decide (0 ≤ a.Rounds))).bind fun c =>
  some (!decide ((a.Slots.length : Int) = (w64 (1 * 2 ^ (min a.Rounds.toNat 64))))))).bind fun d =>
  bif d then (some false)
  else (jH a.Slots (a.Slots.length : Int) a BIG 0 ([] : List (Int × Int)))
def nK : Option Int :=
  some (-1)
def fC (a : List aE) (b : aE → Option Bool) (c : Int) : Nat → Int → Option Int
 | 0, _ => none
 | f + 1, g =>
  bif decide (g < c) then ((idx a g).bind fun d =>
  (b d).bind fun e =>
  bif e then (some g)
  else ((fC a b c f) (w64 (g + 1))))
  else (nK)
def jP (a : List aE) (b : aE → Option Bool) : Option Int :=
  fC a b (a.length : Int) BIG 0
def iQ (a : List aE) (b : aE → Option Bool) : Option Bool :=
  (jP a b).bind fun c =>
  some (decide (0 ≤ c))
def pS (a : aG) (b : aR) : Option Bool :=
  (fZ a.round 0 (w64 (b.Rounds - 1))).bind fun c =>
  (bif c then ((chk (decide (0 ≤ (w64 (a.round + 1))))).bind fun d =>
  (fZ a.place 0 (w64 (((b.Slots.length : Int).fdiv (2 ^ (min (w64 (a.round + 1)).toNat 64))) - 1))).bind fun e =>
  some e) else (some false)).bind fun f =>
  some f
def tV : Option Int :=
  some (-1)
def jO (a : List Int) (b : Int) (c : Int) : Nat → Int → Option Int
 | 0, _ => none
 | e + 1, f =>
  bif decide (f < c) then ((idx a f).bind fun d =>
  bif decide (b = d) then (some f)
  else ((jO a b c e) (w64 (f + 1))))
  else (tV)
def iC (a : List Int) (b : Int) : Option Int :=
  jO a b (a.length : Int) BIG 0
def dD (a : List Int) (b : Int) : Option Bool :=
  (iC a b).bind fun c =>
  some (decide (0 ≤ c))
def rM (a : aR) (b : aE) : Option Bool :=
  (fZ b.Player 0 999).bind fun c =>
  bif !c then (some false)
  else (bif decide (b.Kind = 5) then ((bif decide (b.Round = 0) then ((fZ b.Place 0 (w64 ((a.Slots.length : Int) - 1))).bind fun d =>
  some d) else (some false)).bind fun e =>
  (bif e then ((fZ b.Old 0 999).bind fun f =>
  some f) else (some false)).bind fun g =>
  some g)
  else ((fZ b.Kind 1 4).bind fun h =>
  (bif !h then (some true) else (some (!decide (b.Old = 0)))).bind fun i =>
  (bif i then (some true) else ((pS (aG.mk b.Round b.Place) a).bind fun j =>
  some (!j))).bind fun k =>
  bif k then (some false)
  else ((bif decide (0 < b.Round) then (some true) else ((sub a.Slots (w64 (2 * b.Place)) (w64 ((w64 (2 * b.Place)) + 2))).bind fun l =>
  (dD l (-1)).bind fun m =>
  some (!m))).bind fun n =>
  some n)))
def pN (a : aE) (b : aR) : Option Bool :=
  (rM b a).bind fun c =>
  some (!c)
def slices_Clone_int (a : List Int) : Option ((List Int)) :=
  (app 8 ([] : List Int) a).bind fun b =>
  some b
def pB (a : (aE × Bool) → Prop) (b : List Int) (c : aR) (d : List (aE × Int)) (e : aE) : Prop :=
  a ((aE.mk 0 0 0 0 0), false)
def jB (a : (aE × Bool) → Prop) (b : Int) (c : List Int) (d : aR) (e : List (aE × Int)) : Nat → aE → (List (aE × Int)) → Prop
 | 0, _, _ => False
 | j + 1, k, l =>
  aPm l (pB a c d e k)
  (fun f g =>
  nb (bif decide (f.1.Place = b) then ((idx c b).bind fun h =>
  some (decide (f.1.Old = h))) else (some false)) fun i =>
  bif i then (a (f.1, true))
  else ((jB a b c d e j) k g))
def jG (a : aR) (b : List Int) (c : List (aE × Int)) (d : Int) (Q : (aE × Bool) → Prop) : Prop :=
  aDi c fun e =>
  jB Q d b a c BIG (aE.mk 0 0 0 0 0) e
def mT (a : (Bool × (List Int) × (List (aE × Int))) → Prop) (b : Int → (List Int) → (List (aE × Int)) → (List Int) → Prop) (c : Int) (d : Int) (e : List Int) (f : aR) (g : List (aE × Int)) (h : List Int) : Prop :=
  b (w64 (d + 1)) e g h
def mU (a : (Bool × (List Int) × (List (aE × Int))) → Prop) (b : Int → (List Int) → (List (aE × Int)) → (List Int) → Prop) (c : Int) (d : Int) (e : List Int) (f : aR) (g : List (aE × Int)) (h : List Int) : Prop :=
  mT a b c d e f g h
def eG (a : (Bool × (List Int) × (List (aE × Int))) → Prop) (b : Int → (List Int) → (List (aE × Int)) → (List Int) → Prop) (c : Int) (d : Int) (e : Int) (f : aR) : Nat → Bool → (List Int) → (List (aE × Int)) → aE → (List Int) → Prop
 | 0, _, _, _, _, _ => False
 | k + 1, l, m, n, o, p =>
  bif l then (nb (dD p o.Player) fun g =>
  bif g then (a (false, m, n))
  else (nb (idx m c) fun h =>
  nb (app 8 p ([o.Player])) fun i =>
  jG f (m.set c.toNat o.Player) (rH o n) c fun j =>
  (eG a b c d e f k) j.2 (m.set c.toNat o.Player) (rH o n) j.1 i))
  else (mU a b d e m f n p)
def mS (a : (Bool × (List Int) × (List (aE × Int))) → Prop) (b : List Int) (c : aR) (d : List (aE × Int)) : Prop :=
  a (decide ((d.length : Int) = 0), b, d)
def cU (a : (Bool × (List Int) × (List (aE × Int))) → Prop) (b : Int) (c : aR) : Nat → Int → (List Int) → (List (aE × Int)) → (List Int) → Prop
 | 0, _, _, _, _ => False
 | e + 1, f, g, h, i =>
  bif decide (f < b) then (jG c g h f fun d =>
  eG a (cU a b c e) f b f c BIG d.2 g h d.1 i)
  else (mS a g c h)
def mC (a : aR) (b : List Int) (c : List (aE × Int)) (Q : (Bool × (List Int) × (List (aE × Int))) → Prop) : Prop :=
  nb (slices_Clone_int a.Slots) fun d =>
  cU Q (b.length : Int) a BIG 0 b c d
def pC (a : Int) (b : Int) : Option aG :=
  (chk (decide (0 ≤ (w64 (a + 1))))).bind fun c =>
  some (aG.mk a (b.fdiv (2 ^ (min (w64 (a + 1)).toNat 64))))
def sL (a : List Int) (b : List (aG × Int)) (c : aR) : Option (Bool × (List (aG × Int))) :=
  some (true, b)
def jC (a : Int) (b : Int) (c : List Int) (d : aR) : Nat → Int → (List (aG × Int)) → Option (Bool × (List (aG × Int)))
 | 0, _, _ => none
 | i + 1, j, k =>
  bif decide (j < b) then ((pC j a).bind fun e =>
  (bif dS e k then ((idx c a).bind fun f =>
  some (!decide ((cT e 0 k) = f))) else (some false)).bind fun g =>
  bif g then (some (false, k))
  else ((idx c a).bind fun h =>
  (jC a b c d i) (w64 (j + 1)) (gQ e h k)))
  else (sL c k d)
def mL (a : aR) (b : List Int) (c : List (aG × Int)) (d : Int) (e : Int) : Option (Bool × (List (aG × Int))) :=
  jC d (w64 (e + 1)) b a BIG 0 c
def wD (a : ((Option bA) × Bool) → Prop) (b : List Int) (c : List (aG × Int)) (d : aR) : Prop :=
  a ((some (bA.mk d b c)), true)
def lD (a : ((Option bA) × Bool) → Prop) (b : List Int) (c : aR) (d : List (aG × aE)) : Nat → (List (aG × Int)) → (List (aG × aE)) → Prop
 | 0, _, _ => False
 | k + 1, l, m =>
  aPm m (wD a b l c)
  (fun e f =>
  nb (iC b e.2.Player) fun g =>
  nb (bif decide (g < 0) then (some true) else ((pC e.1.round g).bind fun h =>
  some (!decide (h = e.1)))) fun i =>
  bif i then (a ((none : Option bA), false))
  else (nb (mL c b l g e.1.round) fun j =>
  bif !j.1 then (a ((none : Option bA), false))
  else ((lD a b c d k) j.2 f)))
def sK (a : ((Option bA) × Bool) → Prop) (b : List Int) (c : List (aG × Int)) (d : aR) (e : List (aG × aE)) : Prop :=
  aDi e fun f =>
  lD a b d e BIG c f
def jA (a : ((Option bA) × Bool) → Prop) (b : Int) (c : List Int) (d : aR) (e : List (aG × aE)) : Nat → Int → (List (aG × Int)) → Prop
 | 0, _, _ => False
 | h + 1, i, j =>
  bif decide (i < b) then (nb (idx c i) fun f =>
  bif decide (f = (-1)) then (nb (mL d c j (aOp i 1) 0) fun g =>
  (jA a b c d e h) (w64 (i + 1)) g.2)
  else ((jA a b c d e h) (w64 (i + 1)) j))
  else (sK a c j d e)
def sJ (a : ((Option bA) × Bool) → Prop) (b : List Int) (c : List (aG × Int)) (d : aR) (e : List (aE × Int)) (f : List (aG × aE)) : Prop :=
  mC d b e fun g =>
  bif !g.1 then (a ((none : Option bA), false))
  else (jA a (g.2.1.length : Int) g.2.1 d f BIG 0 c)
def iZ (a : ((Option bA) × Bool) → Prop) (b : List aE) (c : Int) (d : List Int) (e : List (aG × Int)) (f : aR) : Nat → Int → (List (aE × Int)) → (List (aG × aE)) → Prop
 | 0, _, _, _ => False
 | i + 1, j, k, l =>
  bif decide (j < c) then (nb (idx b j) fun g =>
  bif decide (g.Kind = 5) then ((iZ a b c d e f i) (w64 (j + 1)) (gQ g (w64 ((cT g 0 k) + 1)) k) l)
  else (nb (bif dS (aG.mk g.Round g.Place) l then (some (!decide ((cT (aG.mk g.Round g.Place) (aE.mk 0 0 0 0 0) l) = g))) else (some false)) fun h =>
  bif h then (a ((none : Option bA), false))
  else ((iZ a b c d e f i) (w64 (j + 1)) k (gQ (aG.mk g.Round g.Place) g l))))
  else (sJ a d e f k l)
def tA (a : aR) (b : List aE) (Q : ((Option bA) × Bool) → Prop) : Prop :=
  nb (slices_Clone_int a.Slots) fun c =>
  iZ Q b (b.length : Int) c ([] : List (aG × Int)) a BIG 0 ([] : List (aE × Int)) ([] : List (aG × aE))
def nR (a : aR) (b : List aE) (Q : ((Option bA) × Int) → Prop) : Prop :=
  nb (pM a) fun c =>
  bif !c then (Q ((none : Option bA), 70))
  else (nb (bif decide (60 < (b.length : Int)) then (some true) else ((iQ b (fun d => pN d a)).bind fun e =>
  some e)) fun f =>
  bif f then (Q ((none : Option bA), 71))
  else (tA a b fun g =>
  bif !g.2 then (Q ((none : Option bA), 72))
  else (Q (g.1, 0))))
def sZ (a : aR) (b : List aE) (Q : Int → Prop) : Prop :=
  nR a b fun c =>
  Q c.2
def tB (a : Int) : Option Bool :=
  some (!decide (a = a))
def uE (a : Int) (b : Int) : Option Bool :=
  (tB a).bind fun c =>
  (bif c then ((tB b).bind fun d =>
  some (!d)) else (some false)).bind fun e =>
  (bif e then (some true) else (some (decide (a < b)))).bind fun f =>
  some f
def vU : Option Bool :=
  some true
def iD (a : List Int) : Nat → Int → Option Bool
 | 0, _ => none
 | e + 1, f =>
  bif decide (0 < f) then ((idx a f).bind fun b =>
  (idx a (w64 (f - 1))).bind fun c =>
  (uE b c).bind fun d =>
  bif d then (some false)
  else ((iD a e) (w64 (f - 1))))
  else (vU)
def mZ (a : List Int) : Option Bool :=
  iD a BIG (w64 ((a.length : Int) - 1))
def gH (a : Int) (b : Int) (c : Int) : Option Bool :=
  (bif decide (b ≤ a) then (some (decide (a ≤ c))) else (some false)).bind fun d =>
  some d
def tG (a : aP) : Option Bool :=
  (bif !decide ((a.Prizes.length : Int) = (w64 (a.Tree.Rounds + 1))) then (some true) else ((mZ a.Prizes).bind fun b =>
  some (!b))).bind fun c =>
  (bif c then (some true) else ((gH a.Daily 0 100000).bind fun d =>
  some (!d))).bind fun e =>
  bif e then (some false)
  else ((idx a.Prizes 0).bind fun f =>
  (bif decide (0 ≤ f) then ((idx a.Prizes (w64 ((a.Prizes.length : Int) - 1))).bind fun g =>
  some (decide (g ≤ 10000000))) else (some false)).bind fun h =>
  some h)
def slices_Sort_int (x : List Int) : Option (List Int) := if x.length < 4611686018427387904 then some (eQ x) else none
def sV (a : List Int) : Option ((List Int)) :=
  (slices_Sort_int a).bind fun b =>
  some b
def jZ (a : List bR) (b : Int) : Nat → Int → (List Int) → Option ((List Int))
 | 0, _, _ => none
 | f + 1, g, h =>
  bif decide (g < b) then ((idx a g).bind fun c =>
  (app 8 h ([c.One])).bind fun d =>
  bif !decide (c.Two = (-1)) then ((app 8 d ([c.Two])).bind fun e =>
  (jZ a b f) (w64 (g + 1)) e)
  else ((jZ a b f) (w64 (g + 1)) d))
  else (sV h)
def oP (a : aP) : Option ((List Int)) :=
  jZ a.Teams (a.Teams.length : Int) BIG 0 ([] : List Int)
def sA (a : Int → (List Int) → Option ((List Int))) (b : Int) (c : List Int) : Option ((List Int)) :=
  (chk (decide (0 ≤ b) && decide (b ≤ (c.length : Int)))).bind fun d =>
  (chk (decide (b.toNat ≤ c.length))).bind fun e =>
  (chk (decide (0 ≤ b))).bind fun f =>
  some (c.take b.toNat)
def gN (a : Int → (List Int) → Option ((List Int))) (b : Int) : Nat → Int → Int → (List Int) → Option ((List Int))
 | 0, _, _, _ => none
 | g + 1, h, i, j =>
  bif decide (i < ((j.drop b.toNat).length : Int)) then ((idx (j.drop b.toNat) i).bind fun c =>
  (idx (j.drop b.toNat) (w64 (i - 1))).bind fun d =>
  bif !decide (c = d) then ((idx (j.drop b.toNat) i).bind fun e =>
  (idx j h).bind fun f =>
  (gN a b g) (w64 (h + 1)) (w64 (i + 1)) (j.set h.toNat e))
  else ((gN a b g) h (w64 (i + 1)) j))
  else (sA a h j)
def rZ (a : Int → (List Int) → Option ((List Int))) (b : Int) (c : List Int) : Option ((List Int)) :=
  a (w64 (b + 1)) c
def rY (a : List Int) : Option ((List Int)) :=
  some a
def fA : Nat → Int → (List Int) → Option ((List Int))
 | 0, _, _ => none
 | d + 1, e, f =>
  bif decide (e < (f.length : Int)) then ((idx f e).bind fun a =>
  (idx f (w64 (e - 1))).bind fun b =>
  bif decide (a = b) then ((chk (decide (0 ≤ e) && decide (e ≤ (f.length : Int)))).bind fun c =>
  gN (fA d) e BIG e 1 f)
  else (rZ (fA d) e f))
  else (rY f)
def slices_Compact_int (a : List Int) : Option ((List Int)) :=
  bif decide ((a.length : Int) < 2) then (some a)
  else (fA BIG 1 a)
def oJ (a : List Int) : Option Bool :=
  (slices_Clone_int a).bind fun b =>
  (slices_Compact_int b).bind fun c =>
  some (decide ((c.length : Int) = (a.length : Int)))
def uY : Option Bool :=
  some true
def gF (a : List Int) (b : fX → Option (Int × Bool)) (c : List fX) (d : Int) : Nat → Int → (List Int) → Option Bool
 | 0, _, _ => none
 | l + 1, m, n =>
  bif decide (m < d) then ((idx c m).bind fun e =>
  (b e).bind fun f =>
  (bif !f.2 then (some true) else ((dD a f.1).bind fun g =>
  some (!g))).bind fun h =>
  (bif h then (some true) else ((dD n f.1).bind fun i =>
  some i)).bind fun j =>
  bif j then (some false)
  else ((app 8 n ([f.1])).bind fun k =>
  (gF a b c d l) (w64 (m + 1)) k))
  else (uY)
def lU (a : List Int) (b : List fX) (c : fX → Option (Int × Bool)) : Option Bool :=
  gF a c b (b.length : Int) BIG 0 ([] : List Int)
def lG (a : fX) : Option (Int × Bool) :=
  (gH a.Mille 0 500).bind fun b =>
  some (a.Person, b)
def uZ : Option Bool :=
  some true
def gG (a : List Int) (b : eO → Option (Int × Bool)) (c : List eO) (d : Int) : Nat → Int → (List Int) → Option Bool
 | 0, _, _ => none
 | l + 1, m, n =>
  bif decide (m < d) then ((idx c m).bind fun e =>
  (b e).bind fun f =>
  (bif !f.2 then (some true) else ((dD a f.1).bind fun g =>
  some (!g))).bind fun h =>
  (bif h then (some true) else ((dD n f.1).bind fun i =>
  some i)).bind fun j =>
  bif j then (some false)
  else ((app 8 n ([f.1])).bind fun k =>
  (gG a b c d l) (w64 (m + 1)) k))
  else (uZ)
def lV (a : List Int) (b : List eO) (c : eO → Option (Int × Bool)) : Option Bool :=
  gG a c b (b.length : Int) BIG 0 ([] : List Int)
def lH (a : eO) : Option (Int × Bool) :=
  (gH a.Num 1 10000).bind fun b =>
  (bif b then ((gH a.Den 1 10000).bind fun c =>
  some c) else (some false)).bind fun d =>
  some (a.Person, d)
def oZ (a : List Int) (b : aP) : Option Bool :=
  (lU a b.Levies (fun c => lG c)).bind fun d =>
  (bif d then ((lV a b.Rates (fun e => lH e)).bind fun f =>
  some f) else (some false)).bind fun g =>
  some g
def kI (a : List Int) (b : List aE) (c : Int) (d : aP) (e : List Int) : Nat → Int → Option Bool
 | 0, _ => none
 | i + 1, j =>
  bif decide (j < c) then ((idx b j).bind fun f =>
  (bif decide (f.Kind = 5) then ((dD e f.Player).bind fun g =>
  some (!g)) else (some false)).bind fun h =>
  bif h then (some false)
  else ((kI a b c d e i) (w64 (j + 1))))
  else (oZ a d)
def oY (a : List Int) (b : aP) (c : List Int) : Option Bool :=
  kI a b.Slips (b.Slips.length : Int) b c BIG 0
def jK (a : List Int) (b : List Int) (c : Int) (d : aP) (e : List Int) : Nat → Int → Option Bool
 | 0, _ => none
 | i + 1, j =>
  bif decide (j < c) then ((idx b j).bind fun f =>
  (bif !decide (f = (-1)) then ((dD e f).bind fun g =>
  some (!g)) else (some false)).bind fun h =>
  bif h then (some false)
  else ((jK a b c d e i) (w64 (j + 1))))
  else (oY a d e)
def oX (a : aP) (b : List Int) : Option Bool :=
  (slices_Sort_int b).bind fun c =>
  (oP a).bind fun d =>
  (oJ c).bind fun e =>
  (bif !e then (some true) else ((oJ d).bind fun f =>
  some (!f))).bind fun g =>
  bif g then (some false)
  else (jK d a.Tree.Slots (a.Tree.Slots.length : Int) a c BIG 0)
def kH (a : List bR) (b : Int) (c : aP) : Nat → Int → (List Int) → Option Bool
 | 0, _, _ => none
 | k + 1, l, m =>
  bif decide (l < b) then ((idx a l).bind fun d =>
  (gH d.Player 0 999).bind fun e =>
  (bif !e then (some true) else ((gH d.One 0 999).bind fun f =>
  some (!f))).bind fun g =>
  (bif g then (some true) else ((gH d.Two (-1) 999).bind fun h =>
  some (!h))).bind fun i =>
  bif i then (some false)
  else ((app 8 m ([d.Player])).bind fun j =>
  (kH a b c k) (w64 (l + 1)) j))
  else (oX c m)
def rV (a : aP) : Option Bool :=
  bif decide (64 < (a.Teams.length : Int)) then (some false)
  else (kH a.Teams (a.Teams.length : Int) a BIG 0 ([] : List Int))
def lW (a : List aI) : Option ((List aI)) :=
  (app 32 ([] : List aI) a).bind fun b =>
  some b
def gC (a : Int → (List aI) → Option ((List aI))) (b : Int) (c : Int) (d : aI → aI → Option Int) (e : Int) (f : List aI) : Option ((List aI)) :=
  a (w64 (e + 1)) f
def gD (a : Int → (List aI) → Option ((List aI))) (b : Int) (c : Int) (d : aI → aI → Option Int) (e : Int) (f : List aI) : Option ((List aI)) :=
  gC a b c d e f
def cR (a : Int → (List aI) → Option ((List aI))) (b : Int) (c : Int) (d : aI → aI → Option Int) (e : Int) : Nat → Int → (List aI) → Option ((List aI))
 | 0, _, _ => none
 | n + 1, o, p =>
  (bif decide (b < o) then ((idx p o).bind fun f =>
  (idx p (w64 (o - 1))).bind fun g =>
  (d f g).bind fun h =>
  some (decide (h < 0))) else (some false)).bind fun i =>
  bif i then ((idx p (w64 (o - 1))).bind fun j =>
  (idx p o).bind fun k =>
  (idx p o).bind fun l =>
  (idx (p.set o.toNat j) (w64 (o - 1))).bind fun m =>
  (cR a b c d e n) (w64 (o - 1)) ((p.set o.toNat j).set (w64 (o - 1)).toNat k))
  else (gD a b c d e p)
def gB (a : List aI) : Option ((List aI)) :=
  some a
def cF (a : Int) (b : Int) (c : aI → aI → Option Int) : Nat → Int → (List aI) → Option ((List aI))
 | 0, _, _ => none
 | d + 1, e, f =>
  bif decide (e < b) then (cR (cF a b c d) a b c e BIG e f)
  else (gB f)
def dG (a : List aI) (b : Int) (c : Int) (d : aI → aI → Option Int) : Option ((List aI)) :=
  cF b c d BIG (w64 (b + 1)) a
def kC (a : List aI) : Option ((List aI)) :=
  some a
def dQ (a : Int) (b : Int) (c : Int) : Nat → Int → (List aI) → Option ((List aI))
 | 0, _, _ => none
 | h + 1, i, j =>
  bif decide (i < c) then ((idx j (w64 (b + i))).bind fun d =>
  (idx j (w64 (a + i))).bind fun e =>
  (idx j (w64 (a + i))).bind fun f =>
  (idx (j.set (w64 (a + i)).toNat d) (w64 (b + i))).bind fun g =>
  (dQ a b c h) (w64 (i + 1)) ((j.set (w64 (a + i)).toNat d).set (w64 (b + i)).toNat e))
  else (kC j)
def eF (a : List aI) (b : Int) (c : Int) (d : Int) (e : aI → aI → Option Int) : Option ((List aI)) :=
  dQ b c d BIG 0 a
def lI (a : Int) (b : aI → aI → Option Int) (c : Int) (d : List aI) : Option ((List aI)) :=
  (eF d (w64 (a - c)) a c b).bind fun e =>
  some e
def cY (a : Int) (b : aI → aI → Option Int) : Nat → Int → Int → (List aI) → Option ((List aI))
 | 0, _, _, _ => none
 | e + 1, f, g, h =>
  bif !decide (f = g) then (bif decide (g < f) then ((eF h (w64 (a - f)) a g b).bind fun c =>
  (cY a b e) (w64 (f - g)) g c)
  else ((eF h (w64 (a - f)) (w64 ((w64 (a + g)) - f)) f b).bind fun d =>
  (cY a b e) f (w64 (g - f)) d))
  else (lI a b f h)
def fN (a : List aI) (b : Int) (c : Int) (d : Int) (e : aI → aI → Option Int) : Option ((List aI)) :=
  cY c e BIG (w64 (c - b)) (w64 (d - c)) a
def kK (a : (List aI) → Int → Int → Int → Option ((List aI))) (b : List aI) : Option ((List aI)) :=
  some b
def dT (a : (List aI) → Int → Int → Int → Option ((List aI))) (b : Int) : Nat → Int → (List aI) → Option ((List aI))
 | 0, _, _ => none
 | g + 1, h, i =>
  bif decide (h < (w64 (b - 1))) then ((idx i (w64 (h + 1))).bind fun c =>
  (idx i h).bind fun d =>
  (idx i h).bind fun e =>
  (idx (i.set h.toNat c) (w64 (h + 1))).bind fun f =>
  (dT a b g) (w64 (h + 1)) ((i.set h.toNat c).set (w64 (h + 1)).toNat d))
  else (kK a i)
def iL (a : (List aI) → Int → Int → Int → Option ((List aI))) (b : Int) (c : Int) (d : List aI) : Option ((List aI)) :=
  dT a c BIG b d
def cO (a : (List aI) → Int → Int → Int → Option ((List aI))) (b : Int) (c : aI → aI → Option Int) (d : List aI) : Nat → Int → Int → Option ((List aI))
 | 0, _, _ => none
 | h + 1, i, j =>
  bif decide (i < j) then ((idx d (w64 ((IntKind.u64.wrap (w64 (i + j))).fdiv (2 ^ (min (1 : Int).toNat 64))))).bind fun e =>
  (idx d b).bind fun f =>
  (c e f).bind fun g =>
  bif decide (g < 0) then ((cO a b c d h) (w64 ((w64 ((IntKind.u64.wrap (w64 (i + j))).fdiv (2 ^ (min (1 : Int).toNat 64)))) + 1)) j)
  else ((cO a b c d h) i (w64 ((IntKind.u64.wrap (w64 (i + j))).fdiv (2 ^ (min (1 : Int).toNat 64))))))
  else (iL a b i d)
def kL (a : (List aI) → Int → Int → Int → Option ((List aI))) (b : List aI) : Option ((List aI)) :=
  some b
def dW (a : (List aI) → Int → Int → Int → Option ((List aI))) (b : Int) : Nat → Int → (List aI) → Option ((List aI))
 | 0, _, _ => none
 | g + 1, h, i =>
  bif decide (b < h) then ((idx i (w64 (h - 1))).bind fun c =>
  (idx i h).bind fun d =>
  (idx i h).bind fun e =>
  (idx (i.set h.toNat c) (w64 (h - 1))).bind fun f =>
  (dW a b g) (w64 (h - 1)) ((i.set h.toNat c).set (w64 (h - 1)).toNat d))
  else (kL a i)
def iM (a : (List aI) → Int → Int → Int → Option ((List aI))) (b : Int) (c : Int) (d : List aI) : Option ((List aI)) :=
  dW a c BIG b d
def cP (a : (List aI) → Int → Int → Int → Option ((List aI))) (b : Int) (c : aI → aI → Option Int) (d : List aI) : Nat → Int → Int → Option ((List aI))
 | 0, _, _ => none
 | h + 1, i, j =>
  bif decide (i < j) then ((idx d b).bind fun e =>
  (idx d (w64 ((IntKind.u64.wrap (w64 (i + j))).fdiv (2 ^ (min (1 : Int).toNat 64))))).bind fun f =>
  (c e f).bind fun g =>
  bif !(decide (g < 0)) then ((cP a b c d h) (w64 ((w64 ((IntKind.u64.wrap (w64 (i + j))).fdiv (2 ^ (min (1 : Int).toNat 64)))) + 1)) j)
  else ((cP a b c d h) i (w64 ((IntKind.u64.wrap (w64 (i + j))).fdiv (2 ^ (min (1 : Int).toNat 64))))))
  else (iM a b i d)
def dC (a : (List aI) → Int → Int → Int → Option ((List aI))) (b : Int) (c : Int) (d : Int) (e : aI → aI → Option Int) (f : Int) (g : Int) (h : Int) (i : List aI) : Option ((List aI)) :=
  (bif decide (h < c) then (some (decide (c < (w64 (g - h))))) else (some false)).bind fun j =>
  bif j then ((fN i h c (w64 (g - h)) e).bind fun k =>
  (bif decide (b < h) then (some (decide (h < f))) else (some false)).bind fun l =>
  bif l then ((a k b h f).bind fun m =>
  (bif decide (f < (w64 (g - h))) then (some (decide ((w64 (g - h)) < d))) else (some false)).bind fun n =>
  bif n then ((a m f (w64 (g - h)) d).bind fun o =>
  some o)
  else (some m))
  else ((bif decide (f < (w64 (g - h))) then (some (decide ((w64 (g - h)) < d))) else (some false)).bind fun p =>
  bif p then ((a k f (w64 (g - h)) d).bind fun q =>
  some q)
  else (some k)))
  else ((bif decide (b < h) then (some (decide (h < f))) else (some false)).bind fun r =>
  bif r then ((a i b h f).bind fun s =>
  (bif decide (f < (w64 (g - h))) then (some (decide ((w64 (g - h)) < d))) else (some false)).bind fun t =>
  bif t then ((a s f (w64 (g - h)) d).bind fun u =>
  some u)
  else (some s))
  else ((bif decide (f < (w64 (g - h))) then (some (decide ((w64 (g - h)) < d))) else (some false)).bind fun v =>
  bif v then ((a i f (w64 (g - h)) d).bind fun w =>
  some w)
  else (some i)))
def cA (a : (List aI) → Int → Int → Int → Option ((List aI))) (b : Int) (c : Int) (d : Int) (e : aI → aI → Option Int) (f : Int) (g : Int) (h : Int) (i : List aI) : Nat → Int → Int → Option ((List aI))
 | 0, _, _ => none
 | m + 1, n, o =>
  bif decide (n < o) then ((idx i (w64 (h - (w64 ((IntKind.u64.wrap (w64 (n + o))).fdiv (2 ^ (min (1 : Int).toNat 64))))))).bind fun j =>
  (idx i (w64 ((IntKind.u64.wrap (w64 (n + o))).fdiv (2 ^ (min (1 : Int).toNat 64))))).bind fun k =>
  (e j k).bind fun l =>
  bif !(decide (l < 0)) then ((cA a b c d e f g h i m) (w64 ((w64 ((IntKind.u64.wrap (w64 (n + o))).fdiv (2 ^ (min (1 : Int).toNat 64)))) + 1)) o)
  else ((cA a b c d e f g h i m) n (w64 ((IntKind.u64.wrap (w64 (n + o))).fdiv (2 ^ (min (1 : Int).toNat 64))))))
  else (dC a b c d e f g n i)
def bD (a : aI → aI → Option Int) : Nat → (List aI) → Int → Int → Int → Option ((List aI))
 | 0, _, _, _, _ => none
 | b + 1, c, d, e, f =>
  bif decide ((w64 (e - d)) = 1) then (cO (bD a b) d a c BIG e f)
  else (bif decide ((w64 (f - e)) = 1) then (cP (bD a b) e a c BIG d e)
  else (bif decide ((w64 ((IntKind.u64.wrap (w64 (d + f))).fdiv (2 ^ (min (1 : Int).toNat 64)))) < e) then (cA (bD a b) d e f a (w64 ((IntKind.u64.wrap (w64 (d + f))).fdiv (2 ^ (min (1 : Int).toNat 64)))) (w64 ((w64 ((IntKind.u64.wrap (w64 (d + f))).fdiv (2 ^ (min (1 : Int).toNat 64)))) + e)) (w64 ((w64 ((w64 ((IntKind.u64.wrap (w64 (d + f))).fdiv (2 ^ (min (1 : Int).toNat 64)))) + e)) - 1)) c BIG (w64 ((w64 ((w64 ((IntKind.u64.wrap (w64 (d + f))).fdiv (2 ^ (min (1 : Int).toNat 64)))) + e)) - f)) (w64 ((IntKind.u64.wrap (w64 (d + f))).fdiv (2 ^ (min (1 : Int).toNat 64)))))
  else (cA (bD a b) d e f a (w64 ((IntKind.u64.wrap (w64 (d + f))).fdiv (2 ^ (min (1 : Int).toNat 64)))) (w64 ((w64 ((IntKind.u64.wrap (w64 (d + f))).fdiv (2 ^ (min (1 : Int).toNat 64)))) + e)) (w64 ((w64 ((w64 ((IntKind.u64.wrap (w64 (d + f))).fdiv (2 ^ (min (1 : Int).toNat 64)))) + e)) - 1)) c BIG d e)))
def jF (a : List aI) (b : Int) (c : Int) (d : Int) (e : aI → aI → Option Int) : Option ((List aI)) := bD e BIG a b c d
def gI (a : Int → (List aI) → Option ((List aI))) (b : Int) (c : aI → aI → Option Int) (d : Int) (e : List aI) : Option ((List aI)) :=
  a d e
def lL (a : Int → (List aI) → Option ((List aI))) (b : Int) (c : aI → aI → Option Int) (d : Int) (e : Int) (f : List aI) : Option ((List aI)) :=
  bif decide ((w64 (e + d)) < b) then ((jF f e (w64 (e + d)) b c).bind fun g =>
  gI a b c (w64 (d * 2)) g)
  else (gI a b c (w64 (d * 2)) f)
def eE (a : Int → (List aI) → Option ((List aI))) (b : Int) (c : aI → aI → Option Int) (d : Int) : Nat → Int → Int → (List aI) → Option ((List aI))
 | 0, _, _, _ => none
 | f + 1, g, h, i =>
  bif decide (h ≤ b) then ((jF i g (w64 (g + d)) h c).bind fun e =>
  (eE a b c d f) h (w64 (h + (w64 (2 * d)))) e)
  else (lL a b c d g i)
def lK (a : List aI) : Option ((List aI)) :=
  some a
def cZ (a : Int) (b : aI → aI → Option Int) : Nat → Int → (List aI) → Option ((List aI))
 | 0, _, _ => none
 | c + 1, d, e =>
  bif decide (d < a) then (eE (cZ a b c) a b d BIG 0 (w64 (2 * d)) e)
  else (lK e)
def lJ (a : Int) (b : aI → aI → Option Int) (c : Int) (d : Int) (e : List aI) : Option ((List aI)) :=
  (dG e d a b).bind fun f =>
  cZ a b BIG c f
def eD (a : Int) (b : aI → aI → Option Int) (c : Int) : Nat → Int → Int → (List aI) → Option ((List aI))
 | 0, _, _, _ => none
 | e + 1, f, g, h =>
  bif decide (g ≤ a) then ((dG h f g b).bind fun d =>
  (eD a b c e) g (w64 (g + c)) d)
  else (lJ a b c f h)
def jS (a : List aI) (b : Int) (c : aI → aI → Option Int) : Option ((List aI)) :=
  eD b c 20 BIG 0 20 a
def gW (a : List aI) (b : aI → aI → Option Int) : Option ((List aI)) :=
  (jS a (a.length : Int) b).bind fun c =>
  some c
def rW (a : aI) (b : aI) : Option Int :=
  some (w64 (a.Id - b.Id))
def oV (a : Int → (List aI) → Option ((List aI))) (b : Int) (c : List aI) : Option ((List aI)) :=
  (chk (decide (0 ≤ b) && decide (b ≤ (c.length : Int)))).bind fun d =>
  (chk (decide (b.toNat ≤ c.length))).bind fun e =>
  (chk (decide (0 ≤ b))).bind fun f =>
  some (c.take b.toNat)
def eW (a : Int → (List aI) → Option ((List aI))) (b : Int) : Nat → Int → Int → (List aI) → Option ((List aI))
 | 0, _, _, _ => none
 | g + 1, h, i, j =>
  bif decide (i < ((j.drop b.toNat).length : Int)) then ((idx (j.drop b.toNat) i).bind fun c =>
  (idx (j.drop b.toNat) (w64 (i - 1))).bind fun d =>
  bif !decide (c = d) then ((idx (j.drop b.toNat) i).bind fun e =>
  (idx j h).bind fun f =>
  (eW a b g) (w64 (h + 1)) (w64 (i + 1)) (j.set h.toNat e))
  else ((eW a b g) h (w64 (i + 1)) j))
  else (oV a h j)
def oU (a : Int → (List aI) → Option ((List aI))) (b : Int) (c : List aI) : Option ((List aI)) :=
  a (w64 (b + 1)) c
def oS (a : List aI) : Option ((List aI)) :=
  some a
def dK : Nat → Int → (List aI) → Option ((List aI))
 | 0, _, _ => none
 | d + 1, e, f =>
  bif decide (e < (f.length : Int)) then ((idx f e).bind fun a =>
  (idx f (w64 (e - 1))).bind fun b =>
  bif decide (a = b) then ((chk (decide (0 ≤ e) && decide (e ≤ (f.length : Int)))).bind fun c =>
  eW (dK d) e BIG e 1 f)
  else (oU (dK d) e f))
  else (oS f)
def kE (a : List aI) : Option ((List aI)) :=
  bif decide ((a.length : Int) < 2) then (some a)
  else (dK BIG 1 a)
def zN (a : List aI) : Option ((List aI) × Bool) :=
  (kE a).bind fun b =>
  some (b, true)
def lB (a : List aI) : Nat → Int → Option ((List aI) × Bool)
 | 0, _ => none
 | g + 1, h =>
  bif decide (h < (a.length : Int)) then ((idx a h).bind fun b =>
  (idx a (w64 (h - 1))).bind fun c =>
  (bif decide (b.Id = c.Id) then ((idx a h).bind fun d =>
  (idx a (w64 (h - 1))).bind fun e =>
  some (!decide (d = e))) else (some false)).bind fun f =>
  bif f then (some (([] : List aI), false))
  else ((lB a g) (w64 (h + 1))))
  else (zN a)
def pG (a : List aI) : Option ((List aI) × Bool) :=
  (lW a).bind fun b =>
  (gW b (fun c d => rW c d)).bind fun e =>
  lB e BIG 1
def rL (a : aP) : Option Bool :=
  (pG a.Items).bind fun b =>
  (bif b.2 then (some (decide ((a.Items.length : Int) ≤ 40))) else (some false)).bind fun c =>
  some c
def jJ (a : List Int) (b : List aI) (c : Int) (d : aP) : Nat → Int → Option Bool
 | 0, _ => none
 | t + 1, u =>
  bif decide (u < c) then ((idx b u).bind fun e =>
  bif decide (e.Kind = 2) then ((bif !decide (e.Kind = 1) then (some (!decide (e.Kind = 2))) else (some false)).bind fun f =>
  (bif f then (some true) else ((gH e.Id 0 99).bind fun g =>
  some (!g))).bind fun h =>
  (bif h then (some true) else ((dD a e.Person).bind fun i =>
  some (!i))).bind fun j =>
  (bif j then (some true) else ((gH e.Amount 0 30).bind fun k =>
  some (!k))).bind fun l =>
  bif l then (some false)
  else ((jJ a b c d t) (w64 (u + 1))))
  else ((bif !decide (e.Kind = 1) then (some (!decide (e.Kind = 2))) else (some false)).bind fun m =>
  (bif m then (some true) else ((gH e.Id 0 99).bind fun n =>
  some (!n))).bind fun o =>
  (bif o then (some true) else ((dD a e.Person).bind fun p =>
  some (!p))).bind fun q =>
  (bif q then (some true) else ((gH e.Amount 0 10000000).bind fun r =>
  some (!r))).bind fun s =>
  bif s then (some false)
  else ((jJ a b c d t) (w64 (u + 1)))))
  else (rL d)
def rU (a : aP) : Option Bool :=
  (oP a).bind fun b =>
  jJ b a.Items (a.Items.length : Int) a BIG 0
def tW (a : aR) (b : List aE) : Option Int := fJ a b
def rJ (a : aP) : Option Int :=
  (tW a.Tree a.Slips).bind fun b =>
  bif !decide (b = 0) then (some b)
  else ((tG a).bind fun c =>
  bif !c then (some 100)
  else ((rV a).bind fun d =>
  bif !d then (some 101)
  else ((rU a).bind fun e =>
  bif !e then (some 102)
  else (some 0))))
def aFr (a : Int) : Option (Int × Int) :=
  some (a, 0)
def mQ (a : List Int) (b : Int) (c : aP) : Nat → Int → Int → Option (Int × Int)
 | 0, _, _ => none
 | f + 1, g, h =>
  bif decide (h < b) then ((idx a h).bind fun d =>
  bif decide (d = (-1)) then ((idx c.Prizes 0).bind fun e =>
  (mQ a b c f) (w64 (g - e)) (w64 (h + 1)))
  else ((mQ a b c f) g (w64 (h + 1))))
  else (aFr g)
def vX (a : Int) (b : aP) : Option (Int × Int) :=
  mQ b.Tree.Slots (b.Tree.Slots.length : Int) b BIG a 0
def mP (a : Int) (b : aP) : Nat → Int → Int → Option (Int × Int)
 | 0, _, _ => none
 | e + 1, f, g =>
  bif decide (g < a) then ((idx b.Prizes g).bind fun c =>
  (chk (decide (0 ≤ (w64 ((w64 (b.Tree.Rounds - 1)) - g))))).bind fun d =>
  (mP a b e) (w64 (f + (w64 (c * 2 ^ (min (w64 ((w64 (b.Tree.Rounds - 1)) - g)).toNat 64))))) (w64 (g + 1)))
  else (vX f b)
def xP (a : aP) : Option (Int × Int) :=
  (rJ a).bind fun b =>
  bif !decide (b = 0) then (some (0, b))
  else ((idx a.Prizes a.Tree.Rounds).bind fun c =>
  mP a.Tree.Rounds a BIG c 0)
def sB : Option Int :=
  some (-1)
def fD (a : List bR) (b : bR → Option Bool) (c : Int) : Nat → Int → Option Int
 | 0, _ => none
 | f + 1, g =>
  bif decide (g < c) then ((idx a g).bind fun d =>
  (b d).bind fun e =>
  bif e then (some g)
  else ((fD a b c f) (w64 (g + 1))))
  else (sB)
def lY (a : List bR) (b : bR → Option Bool) : Option Int :=
  fD a b (a.length : Int) BIG 0
def tF (a : bR) (b : Int) : Option Bool :=
  (bif decide (a.One = b) then (some true) else ((bif decide (a.Two = b) then (some (!decide (a.Two = (-1)))) else (some false)).bind fun c =>
  some c)).bind fun d =>
  some d
def yB (a : ((Option bA) × (List Int) × Int) → Prop) (b : Option bA) (c : List Int) : Prop :=
  a (b, c, 0)
def nC (a : ((Option bA) × (List Int) × Int) → Prop) (b : List Int) (c : Int) : Nat → (Option bA) → Int → (List Int) → Prop
 | 0, _, _, _ => False
 | i + 1, j, k, l =>
  bif decide (k < c) then (nb (idx b k) fun d =>
  nb (fZ d 0 999) fun e =>
  bif !e then (a ((none : Option bA), ([] : List Int), 1))
  else (nb (j) fun f =>
  nb (iC f.players d) fun g =>
  nb (app 8 l ([g])) fun h =>
  (nC a b c i) j (w64 (k + 1)) h))
  else (yB a j l)
def qQ (a : aR) (b : List aE) (c : List Int) (Q : ((Option bA) × (List Int) × Int) → Prop) : Prop :=
  nR a b fun d =>
  bif !decide (d.2 = 0) then (Q ((none : Option bA), ([] : List Int), d.2))
  else (nC Q c (c.length : Int) BIG d.1 0 ([] : List Int))
def tP (a : bA) : Option Int :=
  some a.Tree.Rounds
def jM (a : bA) (b : Int) (c : Int) : Nat → Int → Option Int
 | 0, _ => none
 | g + 1, h =>
  bif decide (h < c) then ((pC h b).bind fun d =>
  (bif !(dS d a.won) then (some true) else ((idx a.players b).bind fun e =>
  some (!decide ((cT d 0 a.won) = e)))).bind fun f =>
  bif f then (some h)
  else ((jM a b c g) (w64 (h + 1))))
  else (tP a)
def pR (a : bA) (b : Int) : Option Int :=
  jM a b a.Tree.Rounds BIG 0
def tO (a : bA) : Option Int :=
  some a.Tree.Rounds
def jL (a : bA) (b : Int) (c : Int) : Nat → Int → Option Int
 | 0, _ => none
 | g + 1, h =>
  bif decide (h < c) then ((pC h b).bind fun d =>
  (bif dS d a.won then ((idx a.players b).bind fun e =>
  some (!decide ((cT d 0 a.won) = e))) else (some false)).bind fun f =>
  bif f then (some h)
  else ((jL a b c g) (w64 (h + 1))))
  else (tO a)
def pQ (a : bA) (b : Int) : Option Int :=
  jL a b a.Tree.Rounds BIG 0
def qI (a : aR) (b : List aE) (c : Int) (Q : (cG × Int) → Prop) : Prop :=
  qQ a b ([c]) fun d =>
  bif !decide (d.2.2 = 0) then (Q ((cG.mk 0 0), d.2.2))
  else (nb (idx d.2.1 0) fun e =>
  bif decide (e < 0) then (Q ((cG.mk 0 0), 3))
  else (nb (d.1) fun f =>
  nb (idx d.2.1 0) fun g =>
  nb (pR f g) fun h =>
  nb (idx d.2.1 0) fun i =>
  nb (pQ f i) fun j =>
  Q ((cG.mk h j), 0)))
def qH (a : Int) (b : bR) (c : Int) : Option Int :=
  bif decide (b.Two = (-1)) then (some a)
  else (bif decide (b.One = c) then (some (w64 ((w64 (a + 1)).tdiv 2)))
  else (some (w64 (a.tdiv 2))))
def yX : Option Int :=
  some (-1)
def nW (a : Int) (b : aS) : Nat → Int → Option Int
 | 0, _ => none
 | d + 1, e =>
  bif decide (e < (b.Slots.length : Int)) then ((idx b.Slots e).bind fun c =>
  bif decide (c = a) then (some e)
  else ((nW a b d) (w64 (e + 1))))
  else (yX)
def xG (a : aS) (b : Int) : Option Int :=
  nW b a BIG 0
def tR (a : Int) : Option Int :=
  some a
def mV (a : Int) (b : aR) (c : aS) : Nat → Int → Option Int
 | 0, _ => none
 | i + 1, j =>
  (bif decide (j < b.Rounds) then ((idx c.Must j).bind fun d =>
  (chk (decide (0 ≤ (IntKind.u64.wrap (w64 (j + 1)))))).bind fun e =>
  (idx d (a.fdiv (2 ^ (min (IntKind.u64.wrap (w64 (j + 1))).toNat 64)))).bind fun f =>
  (idx c.Slots a).bind fun g =>
  some (decide (f = g))) else (some false)).bind fun h =>
  bif h then ((mV a b c i) (w64 (j + 1)))
  else (tR j)
def wF (a : aR) (b : aS) (c : Int) : Option Int :=
  mV c a b BIG 0
def uL (a : Int) : Option Int :=
  some a
def nU (a : Int) (b : aR) (c : aS) : Nat → Int → Option Int
 | 0, _ => none
 | m + 1, n =>
  (bif decide (n < b.Rounds) then ((idx c.Must n).bind fun d =>
  (chk (decide (0 ≤ (IntKind.u64.wrap (w64 (n + 1)))))).bind fun e =>
  (idx d (a.fdiv (2 ^ (min (IntKind.u64.wrap (w64 (n + 1))).toNat 64)))).bind fun f =>
  (bif decide (f = (-2)) then (some true) else ((idx c.Must n).bind fun g =>
  (chk (decide (0 ≤ (IntKind.u64.wrap (w64 (n + 1)))))).bind fun h =>
  (idx g (a.fdiv (2 ^ (min (IntKind.u64.wrap (w64 (n + 1))).toNat 64)))).bind fun i =>
  (idx c.Slots a).bind fun j =>
  some (decide (i = j)))).bind fun k =>
  some k) else (some false)).bind fun l =>
  bif l then ((nU a b c m) (w64 (n + 1)))
  else (uL n)
def xF (a : aR) (b : aS) (c : Int) : Option Int :=
  nU c a b BIG 0
def jV (a : aR) (b : List aE) (c : Int) : Option (cG × Int) :=
  (fJ a b).bind fun d =>
  bif !decide (d = 0) then (some ((cG.mk 0 0), d))
  else ((eP c 0 999).bind fun e =>
  bif !e then (some ((cG.mk 0 0), 1))
  else ((eN a b).bind fun f =>
  (xG f.1 c).bind fun g =>
  bif decide (g < 0) then (some ((cG.mk 0 0), 3))
  else ((wF a f.1 g).bind fun h =>
  (xF a f.1 g).bind fun i =>
  some ((cG.mk h i), 0))))
def rK (a : aR) (b : List aE) (c : Int) : Option (cG × Int) := jV a b c
def tL (a : aP) (b : Int) : Option (cG × Bool) :=
  (lY a.Teams (fun c => tF c b)).bind fun d =>
  bif decide (d < 0) then (some ((cG.mk 0 0), false))
  else ((idx a.Teams d).bind fun e =>
  (rK a.Tree a.Slips e.Player).bind fun f =>
  bif !decide (f.2 = 0) then (some ((cG.mk 0 0), true))
  else ((idx a.Prizes f.1.Low).bind fun g =>
  (qH g e b).bind fun h =>
  (idx a.Prizes f.1.High).bind fun i =>
  (qH i e b).bind fun j =>
  some ((cG.mk h j), true)))
def pK (a : aP) (b : Int) : Option (cG × Int) :=
  (rJ a).bind fun c =>
  bif !decide (c = 0) then (some ((cG.mk 0 0), c))
  else ((tL a b).bind fun d =>
  bif !d.2 then (some ((cG.mk 0 0), 1))
  else (some (d.1, 0)))
def vZ (a : Int) (b : Int) (c : Int) (d : aY) (e : aY) : Option aY :=
  (chk (!decide (c = 0))).bind fun f =>
  (chk (!decide (b = 0))).bind fun g =>
  some (aY.mk e.Person e.Gross e.Tax e.Daily e.Fines e.Debt (w64 ((w64 (a * b)).tdiv c)) (w64 ((w64 ((w64 ((w64 ((w64 ((w64 (a * b)).tdiv c)) * c)) + b)) - 1)).tdiv b)) (w64 (a - (w64 ((w64 ((w64 ((w64 ((w64 ((w64 (a * b)).tdiv c)) * c)) + b)) - 1)).tdiv b)))))
def mR (a : Int) (b : Int) (c : List eO) (d : Int) (e : aY) (f : aY) : Nat → Int → Int → Int → Option aY
 | 0, _, _, _ => none
 | h + 1, i, j, k =>
  bif decide (k < d) then ((idx c k).bind fun g =>
  bif decide (g.Person = a) then ((mR a b c d e f h) g.Num g.Den (w64 (k + 1)))
  else ((mR a b c d e f h) i j (w64 (k + 1))))
  else (vZ b i j e f)
def tE (a : Int) (b : aP) (c : aY) (d : aY) : Option aY :=
  mR a (max 0 (w64 ((w64 ((w64 (d.Gross + d.Daily)) - d.Tax)) - d.Fines))) b.Rates (b.Rates.length : Int) c (aY.mk d.Person d.Gross d.Tax d.Daily d.Fines (max 0 (w64 (-(w64 ((w64 ((w64 (d.Gross + d.Daily)) - d.Tax)) - d.Fines))))) d.Units d.Used d.Rest) BIG 1 1 0
def lA (a : Int) (b : List aI) (c : Int) (d : aP) (e : aY) : Nat → Int → aY → Option aY
 | 0, _, _ => none
 | g + 1, h, i =>
  bif decide (h < c) then ((idx b h).bind fun f =>
  bif !decide (f.Person = a) then ((lA a b c d e g) (w64 (h + 1)) i)
  else (bif decide (f.Kind = 2) then ((lA a b c d e g) (w64 (h + 1)) (aY.mk i.Person i.Gross i.Tax (w64 (i.Daily + (w64 (f.Amount * d.Daily)))) i.Fines i.Debt i.Units i.Used i.Rest))
  else ((lA a b c d e g) (w64 (h + 1)) (aY.mk i.Person i.Gross i.Tax i.Daily (w64 (i.Fines + f.Amount)) i.Debt i.Units i.Used i.Rest))))
  else (tE a d e i)
def vY (a : Int) (b : aP) (c : aY) (d : aY) : Option aY :=
  (pG b.Items).bind fun e =>
  lA a e.1 (e.1.length : Int) b c BIG 0 d
def kZ (a : Int) (b : List fX) (c : Int) (d : aP) (e : aY) : Nat → Int → aY → Option aY
 | 0, _, _ => none
 | g + 1, h, i =>
  bif decide (h < c) then ((idx b h).bind fun f =>
  bif decide (f.Person = a) then ((kZ a b c d e g) (w64 (h + 1)) (aY.mk i.Person i.Gross (w64 ((w64 (i.Gross * f.Mille)).tdiv 1000)) i.Daily i.Fines i.Debt i.Units i.Used i.Rest))
  else ((kZ a b c d e g) (w64 (h + 1)) i))
  else (vY a d e i)
def vJ (a : aP) (b : Int) : Option aY :=
  (tL a b).bind fun c =>
  kZ b a.Levies (a.Levies.length : Int) a (aY.mk 0 0 0 0 0 0 0 0 0) BIG 0 (aY.mk b c.1.Low 0 0 0 0 0 0 0)
def vI (a : aP) (b : Int) : Option (aY × Int) :=
  (pK a b).bind fun c =>
  bif !decide (c.2 = 0) then (some ((aY.mk 0 0 0 0 0 0 0 0 0), c.2))
  else ((vJ a b).bind fun d =>
  some (d, 0))
def aDl (a : List aY) : Option ((List aY) × Int) :=
  some (a, 0)
def nI (a : List Int) (b : Int) (c : aP) : Nat → Int → (List aY) → Option ((List aY) × Int)
 | 0, _, _ => none
 | g + 1, h, i =>
  bif decide (h < b) then ((idx a h).bind fun d =>
  (vJ c d).bind fun e =>
  (app 72 i ([e])).bind fun f =>
  (nI a b c g) (w64 (h + 1)) f)
  else (aDl i)
def vS (a : aP) : Option ((List aY) × Int) :=
  (rJ a).bind fun b =>
  bif !decide (b = 0) then (some (([] : List aY), b))
  else ((oP a).bind fun c =>
  nI c (c.length : Int) a BIG 0 ([] : List aY))
def aDm (a : aY) (b : aY) : Option (aY × Int) :=
  some (b, 0)
def nJ (a : List aY) (b : Int) (c : aY) : Nat → Int → aY → Option (aY × Int)
 | 0, _, _ => none
 | e + 1, f, g =>
  bif decide (f < b) then ((idx a f).bind fun d =>
  (nJ a b c e) (w64 (f + 1)) (aY.mk g.Person (w64 (g.Gross + d.Gross)) (w64 (g.Tax + d.Tax)) (w64 (g.Daily + d.Daily)) (w64 (g.Fines + d.Fines)) (w64 (g.Debt + d.Debt)) (w64 (g.Units + d.Units)) (w64 (g.Used + d.Used)) (w64 (g.Rest + d.Rest))))
  else (aDm c g)
def vT (a : aP) : Option (aY × Int) :=
  (vS a).bind fun b =>
  bif !decide (b.2 = 0) then (some ((aY.mk 0 0 0 0 0 0 0 0 0), b.2))
  else (nJ b.1 (b.1.length : Int) (aY.mk 0 0 0 0 0 0 0 0 0) BIG 0 (aY.mk (-1) 0 0 0 0 0 0 0 0))
def eM : Option Bool :=
  (nS).bind fun a =>
  (xP a).bind fun b =>
  (vI a 22).bind fun c =>
  (vT a).bind fun d =>
  (bif decide (b.2 = 0) then (some (decide (c.2 = 0))) else (some false)).bind fun e =>
  (bif e then (some (decide (d.2 = 0))) else (some false)).bind fun f =>
  (bif f then (some (decide (b.1 = 1501))) else (some false)).bind fun g =>
  (bif g then (some (decide (c.1 = (aY.mk 22 50 0 0 0 0 16 48 2)))) else (some false)).bind fun h =>
  (bif h then (some (decide (d.1.Debt = 60))) else (some false)).bind fun i =>
  some i
def qT (a : (List Int) → Int → Option Bool) (b : List (List Int)) (c : List Int) (d : Int) (e : aR) : Option Bool :=
  a c (w64 (d + 1))
def qU (a : (List Int) → Int → Option Bool) (b : List (List Int)) (c : Int) (d : aR) : Option Bool :=
  (idx b c).bind fun e =>
  qT a b e c d
def gY (a : (List Int) → Int → Option Bool) (b : List (List Int)) (c : List Int) (d : Int) (e : aR) : Nat → Int → Option Bool
 | 0, _ => none
 | m + 1, n =>
  (jI e d).bind fun f =>
  bif decide (n < f) then ((idx c (w64 (2 * n))).bind fun g =>
  (idx c (w64 ((w64 (2 * n)) + 1))).bind fun h =>
  (idx b d).bind fun i =>
  (idx i n).bind fun j =>
  (bif decide (j = (-1)) then (some true) else ((bif !decide (j = g) then (some (!decide (j = h))) else (some false)).bind fun k =>
  some k)).bind fun l =>
  bif l then (some false)
  else ((gY a b c d e m) (w64 (n + 1))))
  else (qU a b d e)
def qS : Option Bool :=
  some true
def fE (a : List (List Int)) (b : aR) : Nat → (List Int) → Int → Option Bool
 | 0, _, _ => none
 | e + 1, f, g =>
  bif decide (g < b.Rounds) then ((idx a g).bind fun c =>
  (jI b g).bind fun d =>
  bif !decide ((c.length : Int) = d) then (some false)
  else (gY (fE a b e) a f g b BIG 0))
  else (qS)
def gJ (a : aR) (b : List Int) (c : List (List Int)) : Option Bool :=
  (bif !decide ((c.length : Int) = a.Rounds) then (some true) else (some (!decide ((b.length : Int) = (a.Slots.length : Int))))).bind fun d =>
  bif d then (some false)
  else (fE c a BIG b 0)
def sQ : Option Bool :=
  some true
def jD (a : List aE) (b : List (List Int)) : Nat → Int → Option Bool
 | 0, _ => none
 | j + 1, k =>
  bif decide (k < (a.length : Int)) then ((idx a k).bind fun c =>
  (bif !decide (c.Kind = 5) then ((idx a k).bind fun d =>
  (idx b d.Round).bind fun e =>
  (idx a k).bind fun f =>
  (idx e f.Place).bind fun g =>
  (idx a k).bind fun h =>
  some (!decide (g = h.Player))) else (some false)).bind fun i =>
  bif i then (some false)
  else ((jD a b j) (w64 (k + 1))))
  else (sQ)
def kF (a : aR) (b : List aE) (c : List (List Int)) : Option Bool :=
  jD b c BIG 0
def uH (a : Int → Int → Option (Int × Bool)) (b : List (List Int)) (c : Int) (d : Int) (e : Bool) (f : Int) : Option (Int × Bool) :=
  a d (w64 (f + 1))
def uI (a : Int → Int → Option (Int × Bool)) (b : List (List Int)) (c : Int) (d : Int) (e : Bool) (f : Int) : Option (Int × Bool) :=
  uH a b c d e f
def iU (a : Int → Int → Option (Int × Bool)) (b : List (List Int)) (c : Int) (d : Bool) (e : Int) : Nat → Int → Int → Option (Int × Bool)
 | 0, _, _ => none
 | i + 1, j, k =>
  (idx b e).bind fun f =>
  bif decide (k < (f.length : Int)) then ((idx b e).bind fun g =>
  (idx g k).bind fun h =>
  bif decide (h = c) then ((iU a b c d e i) (w64 (j + 1)) (w64 (k + 1)))
  else ((iU a b c d e i) j (w64 (k + 1))))
  else (uI a b c j d e)
def uG (a : Int) (b : Bool) : Option (Int × Bool) :=
  some (a, b)
def fQ (a : List (List Int)) (b : Int) (c : Bool) : Nat → Int → Int → Option (Int × Bool)
 | 0, _, _ => none
 | d + 1, e, f =>
  bif decide (f < (a.length : Int)) then (iU (fQ a b c d) a b c f BIG e 0)
  else (uG e c)
def uF (a : List (List Int)) (b : Int) (c : Int) (d : Bool) : Option (Int × Bool) :=
  fQ a b d BIG c 0
def jT (a : List Int) (b : List (List Int)) (c : Int) (d : Int) : Nat → Bool → Int → Option (Int × Bool)
 | 0, _, _ => none
 | g + 1, h, i =>
  bif decide (i < (a.length : Int)) then ((bif h then (some true) else ((idx a i).bind fun e =>
  some (decide (e = c)))).bind fun f =>
  (jT a b c d g) f (w64 (i + 1)))
  else (uF b c d h)
def mD (a : List Int) (b : List (List Int)) (c : Int) : Option (Int × Bool) :=
  jT a b c 0 BIG false 0
def lF (a : bR) (b : Bool) (c : Int) : Option Int :=
  bif decide (a.Two = (-1)) then (some c)
  else (bif b then (some (w64 (c.tdiv 2)))
  else (some (w64 ((w64 (c + 1)).tdiv 2))))
def pD (a : aP) (b : List (List Int)) (c : Int) : Option Bool :=
  (nE a).bind fun d =>
  (bif !d then (some true) else ((iJ a c).bind fun e =>
  some (!e))).bind fun f =>
  bif f then ((eM).bind fun g =>
  some g)
  else ((pK a c).bind fun h =>
  (vI a c).bind fun i =>
  (bif !decide (h.2 = 0) then (some true) else (some (!decide (i.2 = 0)))).bind fun j =>
  (bif j then (some true) else (some (decide (h.1.High < h.1.Low)))).bind fun k =>
  (bif k then (some true) else (some (!decide (i.1.Gross = h.1.Low)))).bind fun l =>
  bif l then (some false)
  else ((oG a c).bind fun m =>
  bif decide (0 ≤ m.1.Two) then ((pK a m.1.One).bind fun n =>
  (pK a m.1.Two).bind fun o =>
  (bif !decide (n.2 = 0) then (some true) else (some (!decide (o.2 = 0)))).bind fun p =>
  (bif p then (some true) else (some (decide ((w64 (n.1.Low - o.1.Low)) < 0)))).bind fun q =>
  (bif q then (some true) else (some (decide (1 < (w64 (n.1.Low - o.1.Low)))))).bind fun r =>
  (bif r then (some true) else (some (decide ((w64 (n.1.High - o.1.High)) < 0)))).bind fun s =>
  (bif s then (some true) else (some (decide (1 < (w64 (n.1.High - o.1.High)))))).bind fun t =>
  bif t then (some false)
  else ((gU a.Tree a.Slips).bind fun u =>
  (bif !u.2 then (some true) else ((gJ a.Tree u.1 b).bind fun v =>
  some (!v))).bind fun w =>
  (bif w then (some true) else ((kF a.Tree a.Slips b).bind fun x =>
  some (!x))).bind fun y =>
  bif y then ((eM).bind fun z =>
  some z)
  else ((mD u.1 b m.1.Player).bind fun a0 =>
  bif a0.2 then ((idx a.Prizes a0.1).bind fun a1 =>
  (lF m.1 m.2.1 a1).bind fun a2 =>
  (bif decide (h.1.Low ≤ a2) then (some (decide (a2 ≤ h.1.High))) else (some false)).bind fun a3 =>
  (bif a3 then ((eM).bind fun a4 =>
  some a4) else (some false)).bind fun a5 =>
  some a5)
  else ((bif decide (h.1.Low ≤ 0) then (some (decide (0 ≤ h.1.High))) else (some false)).bind fun a6 =>
  (bif a6 then ((eM).bind fun a7 =>
  some a7) else (some false)).bind fun a8 =>
  some a8))))
  else ((gU a.Tree a.Slips).bind fun a9 =>
  (bif !a9.2 then (some true) else ((gJ a.Tree a9.1 b).bind fun b0 =>
  some (!b0))).bind fun b1 =>
  (bif b1 then (some true) else ((kF a.Tree a.Slips b).bind fun b2 =>
  some (!b2))).bind fun b3 =>
  bif b3 then ((eM).bind fun b5 =>
  some b5)
  else ((mD a9.1 b m.1.Player).bind fun b6 =>
  bif b6.2 then ((idx a.Prizes b6.1).bind fun b7 =>
  (lF m.1 m.2.1 b7).bind fun b8 =>
  (bif decide (h.1.Low ≤ b8) then (some (decide (b8 ≤ h.1.High))) else (some false)).bind fun b9 =>
  (bif b9 then ((eM).bind fun c0 =>
  some c0) else (some false)).bind fun c1 =>
  some c1)
  else ((bif decide (h.1.Low ≤ 0) then (some (decide (0 ≤ h.1.High))) else (some false)).bind fun c2 =>
  (bif c2 then ((eM).bind fun c3 =>
  some c3) else (some false)).bind fun c4 =>
  some c4)))))
end Go.Am
