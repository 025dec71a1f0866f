/- Shallow functions, printed by program. -/
import Derived.Test.YtiohgpipanopaaaGreatAmFull
namespace Go.Am
def gV (x : List Int) : List D := [.sl 1 (x.map aF)]
structure aP where
 Rounds : Int
 Slots : List Int
 deriving DecidableEq, Inhabited
def bI (x : aP) : List D := [.lit (.int .i64 x.Rounds), .sl 1 (x.Slots.map aF)]
structure aG where
 Kind : Int
 Round : Int
 Place : Int
 Player : Int
 Old : Int
 deriving DecidableEq, Inhabited
def aM (x : aG) : List D := [.lit (.int .i64 x.Kind), .lit (.int .i64 x.Round), .lit (.int .i64 x.Place), .lit (.int .i64 x.Player), .lit (.int .i64 x.Old)]
structure aS where
 Slots : List Int
 Must : List (List Int)
 deriving DecidableEq, Inhabited
def cK (x : aS) : List D := [.sl 1 (x.Slots.map aF), .sl 1 (x.Must.map gV)]
structure cH where
 Low : Int
 High : Int
 deriving DecidableEq, Inhabited
def cB (x : cH) : List D := [.lit (.int .i64 x.Low), .lit (.int .i64 x.High)]
def eF (a : Int) (b : Int) (c : Int) : Option Bool :=
  (bif decide (b ≤ a) then (some (decide (a ≤ c))) else (some false)).bind fun d =>
  some d
def uU (a : Int → Option Bool) (b : Int) (_ : aP) : Option Bool :=
  a (w64 (b + 1))
def uV (a : Int → Option Bool) (b : Int) (c : aP) : Option Bool :=
  uU a b c
def gG (a : Int → Option Bool) (b : Int) (c : aP) : Nat → Int → Option Bool
 | 0, _ => none
 | h + 1, i =>
  bif decide (i < b) then ((idx c.Slots i).bind fun d =>
  (idx c.Slots b).bind fun e =>
  (bif decide (d = e) then ((idx c.Slots b).bind fun f =>
  some (!decide (f = (-1)))) else (some false)).bind fun g =>
  bif g then (some false)
  else ((gG a b c h) (w64 (i + 1))))
  else (uV a b c)
def uT : Option Bool :=
  some true
def gF (a : aP) : Nat → Int → Option Bool
 | 0, _ => none
 | i + 1, j =>
  bif decide (j < (a.Slots.length : Int)) then ((idx a.Slots j).bind fun b =>
  (eF b (-1) 999).bind fun c =>
  (bif !c then (some true) else ((bif decide ((j.tmod 2) = 1) then ((idx a.Slots j).bind fun d =>
  some (decide (d = (-1)))) else (some false)).bind fun e =>
  (bif e then ((idx a.Slots (w64 (j - 1))).bind fun f =>
  some (decide (f = (-1)))) else (some false)).bind fun g =>
  some g)).bind fun h =>
  bif h then (some false)
  else (gG (gF a i) j a BIG 0))
  else (uT)
def nC (a : aP) : Option Bool :=
  (eF a.Rounds 1 5).bind fun b =>
  (bif !b then (some true) else ((chk (decide (0 ≤ (IntKind.u64.wrap a.Rounds)))).bind fun _ =>
  some (!decide ((a.Slots.length : Int) = (w64 (1 * 2 ^ (min (IntKind.u64.wrap a.Rounds).toNat 64))))))).bind fun c =>
  bif c then (some false)
  else (gF a BIG 0)
def kX (a : aP) (b : Int) : Option Int :=
  (chk (decide (0 ≤ (IntKind.u64.wrap (w64 ((w64 (a.Rounds - 1)) - b)))))).bind fun _ =>
  some (w64 (1 * 2 ^ (min (IntKind.u64.wrap (w64 ((w64 (a.Rounds - 1)) - b))).toNat 64)))
def lR (a : aP) (b : Int) (c : Int) : Option Bool :=
  (eF b 0 (w64 (a.Rounds - 1))).bind fun d =>
  (bif d then ((kX a b).bind fun e =>
  (eF c 0 (w64 (e - 1))).bind fun f =>
  some f) else (some false)).bind fun g =>
  some g
def qH (a : aP) (b : aG) : Option Bool :=
  (eF b.Player 0 999).bind fun c =>
  bif !c then (some false)
  else (bif decide (b.Kind = 5) then ((bif decide (b.Round = 0) then ((eF b.Place 0 (w64 ((a.Slots.length : Int) - 1))).bind fun d =>
  some d) else (some false)).bind fun e =>
  (bif e then ((eF b.Old 0 999).bind fun f =>
  some f) else (some false)).bind fun g =>
  some g)
  else ((eF b.Kind 1 4).bind fun h =>
  (bif !h then (some true) else ((lR a b.Round b.Place).bind fun i =>
  some (!i))).bind fun j =>
  (bif j then (some true) else (some (!decide (b.Old = 0)))).bind fun k =>
  bif k then (some false)
  else ((bif decide (0 < b.Round) then (some true) else ((idx a.Slots (w64 (2 * b.Place))).bind fun l =>
  (bif !decide (l = (-1)) then ((idx a.Slots (w64 ((w64 (2 * b.Place)) + 1))).bind fun m =>
  some (!decide (m = (-1)))) else (some false)).bind fun n =>
  some n)).bind fun o =>
  some o)))
def lZ (a : Int → (List aG) → Option ((List aG))) (_ : List aG) (b : Int) (c : List aG) : Option ((List aG)) :=
  a (w64 (b + 1)) c
def pF (a : Int → (List aG) → Option ((List aG))) (b : List aG) (c : Int) (d : Bool) (e : List aG) : Option ((List aG)) :=
  bif !d then ((idx b c).bind fun f =>
  (app 40 e ([f])).bind fun g =>
  lZ a b c g)
  else (lZ a b c e)
def iX (a : Int → (List aG) → Option ((List aG))) (b : List aG) (c : Int) (d : List aG) : Nat → Bool → Int → Option ((List aG))
 | 0, _, _ => none
 | h + 1, i, j =>
  bif decide (j < (d.length : Int)) then ((bif i then (some true) else ((idx d j).bind fun e =>
  (idx b c).bind fun f =>
  some (decide (e = f)))).bind fun g =>
  (iX a b c d h) g (w64 (j + 1)))
  else (pF a b c i d)
def wR (a : List aG) : Option ((List aG)) :=
  some a
def eI (a : List aG) : Nat → Int → (List aG) → Option ((List aG))
 | 0, _, _ => none
 | b + 1, c, d =>
  bif decide (c < (a.length : Int)) then (iX (eI a b) a c d BIG false 0)
  else (wR d)
def pU (a : List aG) : Option ((List aG)) :=
  eI a BIG 0 ([] : List aG)
def yV : Option Bool :=
  some false
def lP (a : List Int) (b : Int) : Nat → Int → Option Bool
 | 0, _ => none
 | d + 1, e =>
  bif decide (e < (a.length : Int)) then ((idx a e).bind fun c =>
  bif decide (c = b) then (some true)
  else ((lP a b d) (w64 (e + 1))))
  else (yV)
def vD (a : List Int) (b : Int) : Option Bool :=
  lP a b BIG 0
def kG (_ : Int → Int → (List Int) → (List Int) → Option ((List Int) × Bool)) (a : Int → Int → Bool → (List Int) → Option ((List Int) × Bool)) (_ : List aG) (b : Int) (_ : Int) (c : Int) (d : Bool) (_ : aP) (_ : List Int) (e : List Int) : Option ((List Int) × Bool) :=
  a b c d e
def lU (a : Int → Int → (List Int) → (List Int) → Option ((List Int) × Bool)) (b : Int → Int → Bool → (List Int) → Option ((List Int) × Bool)) (c : List aG) (d : Int) (e : Int) (f : Int) (g : Bool) (h : aP) (i : List Int) (j : List Int) (k : List Int) : Option ((List Int) × Bool) :=
  (bif decide (1 < (j.length : Int)) then (some true) else ((bif decide ((j.length : Int) = 1) then ((idx j 0).bind fun l =>
  (vD k l).bind fun m =>
  some m) else (some false)).bind fun n =>
  some n)).bind fun o =>
  bif o then (some (([] : List Int), false))
  else (bif decide ((j.length : Int) = 1) then ((idx j 0).bind fun p =>
  (app 8 k ([p])).bind fun q =>
  kG a b c (w64 (d + 1)) e p true h i q)
  else (kG a b c d e f g h i k))
def eV (a : Int → Int → (List Int) → (List Int) → Option ((List Int) × Bool)) (b : Int → Int → Bool → (List Int) → Option ((List Int) × Bool)) (c : List aG) (d : Int) (e : Int) (f : Int) (g : Bool) (h : aP) (i : List Int) (j : List Int) : Nat → Int → (List Int) → Option ((List Int) × Bool)
 | 0, _, _ => none
 | r + 1, s, t =>
  bif decide (s < (c.length : Int)) then ((idx c s).bind fun k =>
  (bif decide (k.Kind = 5) then ((idx c s).bind fun l =>
  some (decide (l.Place = e))) else (some false)).bind fun m =>
  (bif m then ((idx c s).bind fun n =>
  some (decide (n.Old = f))) else (some false)).bind fun o =>
  bif o then ((idx c s).bind fun p =>
  (app 8 t ([p.Player])).bind fun q =>
  (eV a b c d e f g h i j r) (w64 (s + 1)) q)
  else ((eV a b c d e f g h i j r) (w64 (s + 1)) t))
  else (lU a b c d e f g h i t j)
def tT (a : Int → Int → (List Int) → (List Int) → Option ((List Int) × Bool)) (_ : List aG) (b : Int) (c : Int) (_ : aP) (d : List Int) (e : List Int) : Option ((List Int) × Bool) :=
  a b (w64 (c + 1)) d e
def pT (a : Int → Int → (List Int) → (List Int) → Option ((List Int) × Bool)) (b : List aG) (c : Int) (d : Int) (e : Int) (f : aP) (g : List Int) (h : List Int) : Option ((List Int) × Bool) :=
  (app 8 g ([e])).bind fun i =>
  tT a b c d f i h
def fW (a : Int → Int → (List Int) → (List Int) → Option ((List Int) × Bool)) (b : List aG) (c : Int) (d : aP) (e : List Int) : Nat → Int → Int → Bool → (List Int) → Option ((List Int) × Bool)
 | 0, _, _, _, _ => none
 | f + 1, g, h, i, j =>
  bif i then (eV a (fW a b c d e f) b g c h false d e j BIG 0 ([] : List Int))
  else (pT a b g c h d e j)
def tU (a : Int) (b : List Int) : Option ((List Int) × Bool) :=
  some (b, decide (a = 0))
def eW (a : List aG) (b : List Int) : Nat → Int → Int → Option ((List Int) × Bool)
 | 0, _, _ => none
 | d + 1, e, f =>
  bif decide (f < (a.length : Int)) then ((idx a f).bind fun c =>
  bif decide (c.Kind = 5) then ((eW a b d) (w64 (e - 1)) (w64 (f + 1)))
  else ((eW a b d) e (w64 (f + 1))))
  else (tU e b)
def tS (a : List aG) (b : Int) (c : List Int) : Option ((List Int) × Bool) :=
  eW a c BIG b 0
def eA (a : List aG) (b : aP) : Nat → Int → Int → (List Int) → (List Int) → Option ((List Int) × Bool)
 | 0, _, _, _, _ => none
 | d + 1, e, f, g, h =>
  bif decide (f < (b.Slots.length : Int)) then ((idx b.Slots f).bind fun c =>
  fW (eA a b d) a f b g BIG e c true h)
  else (tS a e g)
def pD (a : aP) (b : List aG) : Option ((List Int) × Bool) :=
  (pU b).bind fun c =>
  (app 8 ([] : List Int) a.Slots).bind fun d =>
  eA c a BIG 0 0 ([] : List Int) d
def wO (a : Int → (List (List Int)) → (List Int) → Option (aS × Bool)) (_ : List aG) (_ : List Int) (b : Int) (_ : aP) (_ : aS) (c : List (List Int)) (d : List Int) : Option (aS × Bool) :=
  a (w64 (b + 1)) c d
def lX (a : Int → (List (List Int)) → (List Int) → Option (aS × Bool)) (b : List aG) (c : List Int) (d : Int) (e : aP) (f : aS) (g : List (List Int)) (h : List Int) (i : List Int) : Option (aS × Bool) :=
  (app 24 g [i]).bind fun j =>
  wO a b c d e f j h
def eH (a : Int → (List (List Int)) → (List Int) → Option (aS × Bool)) (b : List aG) (c : List Int) (d : Int) (e : aP) (f : aS) (g : List (List Int)) (h : List Int) : Nat → Int → (List Int) → Option (aS × Bool)
 | 0, _, _ => none
 | w + 1, x, y =>
  (kX e d).bind fun i =>
  bif decide (x < i) then ((bif decide (d = 0) then ((idx c (w64 (2 * x))).bind fun j =>
  some (decide (j = (-1)))) else (some false)).bind fun k =>
  bif k then ((idx c (w64 ((w64 (2 * x)) + 1))).bind fun l =>
  (bif decide (d = 0) then ((idx c (w64 ((w64 (2 * x)) + 1))).bind fun m =>
  some (decide (m = (-1)))) else (some false)).bind fun n =>
  bif n then ((idx c (w64 (2 * x))).bind fun o =>
  (app 8 y ([o])).bind fun p =>
  (eH a b c d e f g h w) (w64 (x + 1)) p)
  else ((app 8 y ([l])).bind fun q =>
  (eH a b c d e f g h w) (w64 (x + 1)) q))
  else ((bif decide (d = 0) then ((idx c (w64 ((w64 (2 * x)) + 1))).bind fun r =>
  some (decide (r = (-1)))) else (some false)).bind fun s =>
  bif s then ((idx c (w64 (2 * x))).bind fun t =>
  (app 8 y ([t])).bind fun u =>
  (eH a b c d e f g h w) (w64 (x + 1)) u)
  else ((app 8 y ([(-2)])).bind fun v =>
  (eH a b c d e f g h w) (w64 (x + 1)) v)))
  else (lX a b c d e f g h y)
def lY (a : Int → aS → (List (List Int)) → Option (aS × Bool)) (_ : List Int) (_ : List aG) (b : Int) (c : aS) (d : List (List Int)) (_ : List Int) : Option (aS × Bool) :=
  a (w64 (b + 1)) c d
def vX (a : Int → aS → (List (List Int)) → Option (aS × Bool)) (b : List Int) (c : List aG) (d : Int) (e : aS) (f : List (List Int)) (g : List Int) : Option (aS × Bool) :=
  lY a b c d e f g
def iA (a : Int → aS → (List (List Int)) → Option (aS × Bool)) (b : List Int) (c : List aG) (d : Int) (e : Int) (f : List Int) (g : aG) : Nat → Int → aS → (List (List Int)) → Option (aS × Bool)
 | 0, _, _, _ => none
 | n + 1, o, p, q =>
  bif decide (o ≤ g.Round) then ((chk (decide (0 ≤ (IntKind.u64.wrap (w64 (o + 1)))))).bind fun _ =>
  (idx q o).bind fun h =>
  (idx h (e.fdiv (2 ^ (min (IntKind.u64.wrap (w64 (o + 1))).toNat 64)))).bind fun i =>
  (bif !decide (i = (-2)) then ((idx q o).bind fun j =>
  (idx j (e.fdiv (2 ^ (min (IntKind.u64.wrap (w64 (o + 1))).toNat 64)))).bind fun k =>
  some (!decide (k = g.Player))) else (some false)).bind fun l =>
  bif l then (some ((aS.mk ([] : List Int) ([] : List (List Int))), false))
  else ((idx q o).bind fun m =>
  (idx m (e.fdiv (2 ^ (min (IntKind.u64.wrap (w64 (o + 1))).toNat 64)))).bind fun _ =>
  (iA a b c d e f g n) (w64 (o + 1)) p (q.set o.toNat (m.set (e.fdiv (2 ^ (min (IntKind.u64.wrap (w64 (o + 1))).toNat 64))).toNat g.Player))))
  else (vX a b c d p q f)
def iV (a : Int → aS → (List (List Int)) → Option (aS × Bool)) (b : List Int) (c : List aG) (d : Int) (e : Int) (f : aS) (g : List (List Int)) (h : List Int) (i : aG) : Option (aS × Bool) :=
  (bif decide (e < 0) then (some true) else ((chk (decide (0 ≤ (IntKind.u64.wrap (w64 (i.Round + 1)))))).bind fun _ =>
  some (!decide ((e.fdiv (2 ^ (min (IntKind.u64.wrap (w64 (i.Round + 1))).toNat 64))) = i.Place)))).bind fun j =>
  bif j then (some ((aS.mk ([] : List Int) ([] : List (List Int))), false))
  else (iA a b c d e h i BIG 0 f g)
def eB (a : Int → aS → (List (List Int)) → Option (aS × Bool)) (b : List Int) (c : List aG) (d : Int) (e : aS) (f : List (List Int)) (g : List Int) (h : aG) : Nat → Int → Int → Option (aS × Bool)
 | 0, _, _ => none
 | j + 1, k, l =>
  bif decide (l < (b.length : Int)) then ((idx b l).bind fun i =>
  bif decide (i = h.Player) then ((eB a b c d e f g h j) l (w64 (l + 1)))
  else ((eB a b c d e f g h j) k (w64 (l + 1))))
  else (iV a b c d k e f g h)
def sL (a : Int → aS → (List (List Int)) → Option (aS × Bool)) (b : List Int) (c : List aG) (d : Int) (e : aS) (f : List (List Int)) (g : List Int) (h : aG) : Option (aS × Bool) :=
  eB a b c d e f g h BIG (-1) 0
def iW (a : Int → aS → (List (List Int)) → Option (aS × Bool)) (b : List Int) (c : List aG) (d : Int) (e : List (List Int)) (f : List Int) (g : aG) : Nat → Int → aS → Option (aS × Bool)
 | 0, _, _ => none
 | k + 1, l, m =>
  bif decide (l < d) then ((idx c l).bind fun h =>
  (bif !decide (h.Kind = 5) then (some (decide (h.Round = g.Round))) else (some false)).bind fun i =>
  (bif i then (some (decide (h.Place = g.Place))) else (some false)).bind fun j =>
  bif j then (some ((aS.mk ([] : List Int) ([] : List (List Int))), false))
  else ((iW a b c d e f g k) (w64 (l + 1)) m))
  else (sL a b c d m e f g)
def wP (_ : aS) (a : List (List Int)) (b : List Int) : Option (aS × Bool) :=
  some ((aS.mk b a), true)
def dJ (a : List Int) (b : List aG) (c : List Int) : Nat → Int → aS → (List (List Int)) → Option (aS × Bool)
 | 0, _, _, _ => none
 | e + 1, f, g, h =>
  bif decide (f < (b.length : Int)) then ((idx b f).bind fun d =>
  bif decide (d.Kind = 5) then (lY (dJ a b c e) a b f g h c)
  else (iW (dJ a b c e) a b f h c d BIG 0 g))
  else (wP g h c)
def lW (a : List aG) (b : List Int) (c : aS) (d : List (List Int)) (e : List Int) : Option (aS × Bool) :=
  (pU a).bind fun f =>
  dJ b f e BIG 0 c d
def gI (a : List aG) (b : List Int) (c : aP) (d : aS) : Nat → Int → (List (List Int)) → (List Int) → Option (aS × Bool)
 | 0, _, _, _ => none
 | e + 1, f, g, h =>
  bif decide (f < c.Rounds) then (eH (gI a b c d e) a b f c d g h BIG 0 ([] : List Int))
  else (lW a b d g h)
def dX (a : aP) (b : List aG) : Option (aS × Bool) :=
  (pD a b).bind fun c =>
  bif !c.2 then (some ((aS.mk ([] : List Int) ([] : List (List Int))), false))
  else (gI b c.1 a (aS.mk ([] : List Int) ([] : List (List Int))) BIG 0 ([] : List (List Int)) c.1)
def lF (a : List aG) (b : aP) : Option Int :=
  (dX b a).bind fun c =>
  bif !c.2 then (some 72)
  else (some 0)
def hZ (a : List aG) (b : aP) : Nat → Int → Option Int
 | 0, _ => none
 | e + 1, f =>
  bif decide (f < (a.length : Int)) then ((idx a f).bind fun c =>
  (qH b c).bind fun d =>
  bif !d then (some 71)
  else ((hZ a b e) (w64 (f + 1))))
  else (lF a b)
def eZ (a : aP) (b : List aG) : Option Int :=
  (nC a).bind fun c =>
  bif !c then (some 70)
  else (bif decide (60 < (b.length : Int)) then (some 71)
  else (hZ b a BIG 0))
def lV (a : aP) (b : List aG) (c : Int) (d : Int) : Option Int :=
  (eZ a b).bind fun e =>
  bif !decide (e = 0) then (some e)
  else ((lR a c d).bind fun f =>
  bif !f then (some 1)
  else (some 0))
def wQ (a : Int) : Option Int :=
  some a
def pE (a : Int) (b : aP) (c : aS) : Nat → Int → Option Int
 | 0, _ => none
 | k + 1, l =>
  (bif decide (l < b.Rounds) then ((idx c.Must l).bind fun d =>
  (chk (decide (0 ≤ (IntKind.u64.wrap (w64 (l + 1)))))).bind fun _ =>
  (idx d (a.fdiv (2 ^ (min (IntKind.u64.wrap (w64 (l + 1))).toNat 64)))).bind fun e =>
  (bif decide (e = (-2)) then (some true) else ((idx c.Must l).bind fun f =>
  (chk (decide (0 ≤ (IntKind.u64.wrap (w64 (l + 1)))))).bind fun _ =>
  (idx f (a.fdiv (2 ^ (min (IntKind.u64.wrap (w64 (l + 1))).toNat 64)))).bind fun g =>
  (idx c.Slots a).bind fun h =>
  some (decide (g = h)))).bind fun i =>
  some i) else (some false)).bind fun j =>
  bif j then ((pE a b c k) (w64 (l + 1)))
  else (wQ l)
def wC (a : aP) (b : aS) (c : Int) : Option Int :=
  pE c a b BIG 0
def zV (a : Int → (List Int) → Option ((List Int))) (_ : List Int) (b : Int) (c : List Int) : Option ((List Int)) :=
  a (w64 (b + 1)) c
def uW (a : Int → (List Int) → Option ((List Int))) (b : List Int) (c : Int) (d : List Int) : Option ((List Int)) :=
  zV a b c d
def mQ (a : Int → (List Int) → Option ((List Int))) (b : List Int) (c : Int) : Nat → Int → (List Int) → Option ((List Int))
 | 0, _, _ => none
 | i + 1, j, k =>
  (bif decide (0 < j) then ((idx k j).bind fun d =>
  (idx k (w64 (j - 1))).bind fun e =>
  some (decide (d < e))) else (some false)).bind fun f =>
  bif f then ((idx k (w64 (j - 1))).bind fun g =>
  (idx k j).bind fun h =>
  (idx k j).bind fun _ =>
  (idx (k.set j.toNat g) (w64 (j - 1))).bind fun _ =>
  (mQ a b c i) (w64 (j - 1)) ((k.set j.toNat g).set (w64 (j - 1)).toNat h))
  else (uW a b c k)
def zU (a : List Int) : Option ((List Int)) :=
  some a
def mP (a : List Int) : Nat → Int → (List Int) → Option ((List Int))
 | 0, _, _ => none
 | d + 1, e, f =>
  bif decide (e < (a.length : Int)) then ((idx a e).bind fun b =>
  (app 8 f ([b])).bind fun c =>
  mQ (mP a d) a e BIG (w64 ((c.length : Int) - 1)) c)
  else (zU f)
def xU (a : List Int) : Option ((List Int)) :=
  mP a BIG 0 ([] : List Int)
def aCy (a : List Int) : Option ((List Int) × Int) :=
  (xU a).bind fun b =>
  some (b, 0)
def jS (a : Int) (b : Int) (c : aP) (d : aS) : Nat → Int → (List Int) → Option ((List Int) × Int)
 | 0, _, _ => none
 | k + 1, l, m =>
  bif decide (l < (d.Slots.length : Int)) then ((idx d.Slots l).bind fun e =>
  (bif !decide (e = (-1)) then ((chk (decide (0 ≤ (IntKind.u64.wrap (w64 (a + 1)))))).bind fun _ =>
  some (decide ((l.fdiv (2 ^ (min (IntKind.u64.wrap (w64 (a + 1))).toNat 64))) = b))) else (some false)).bind fun f =>
  (bif f then ((wC c d l).bind fun g =>
  some (decide (a < g))) else (some false)).bind fun h =>
  bif h then ((idx d.Slots l).bind fun i =>
  (app 8 m ([i])).bind fun j =>
  (jS a b c d k) (w64 (l + 1)) j)
  else ((jS a b c d k) (w64 (l + 1)) m))
  else (aCy m)
def lT (a : aP) (b : List aG) (c : Int) (d : Int) : Option ((List Int) × Int) :=
  (lV a b c d).bind fun e =>
  bif !decide (e = 0) then (some (([] : List Int), e))
  else ((dX a b).bind fun f =>
  jS c d a f.1 BIG 0 ([] : List Int))
def aBy (a : Int → Int → Option (Int × Int)) (b : Int) (c : Int) (_ : aP) (_ : aS) : Option (Int × Int) :=
  a b (w64 (c + 1))
def wN (a : Int → Int → Option (Int × Int)) (b : Int) (c : Int) (d : aP) (e : aS) : Option (Int × Int) :=
  aBy a b c d e
def lS (a : Int → Int → Option (Int × Int)) (b : Int) (c : aP) (d : aS) : Nat → Int → Int → Option (Int × Int)
 | 0, _, _ => none
 | h + 1, i, j =>
  (kX c b).bind fun e =>
  bif decide (j < e) then ((idx d.Must b).bind fun f =>
  (idx f j).bind fun g =>
  bif decide (g = (-2)) then ((lS a b c d h) (w64 (i + 1)) (w64 (j + 1)))
  else ((lS a b c d h) i (w64 (j + 1))))
  else (wN a i b c d)
def aBx (a : Int) : Option (Int × Int) :=
  some (a, 0)
def gH (a : aP) (b : aS) : Nat → Int → Int → Option (Int × Int)
 | 0, _, _ => none
 | c + 1, d, e =>
  bif decide (e < a.Rounds) then (lS (gH a b c) e a b BIG d 0)
  else (aBx d)
def pS (a : aP) (b : List aG) : Option (Int × Int) :=
  (eZ a b).bind fun c =>
  bif !decide (c = 0) then (some (0, c))
  else ((dX a b).bind fun d =>
  gH a d.1 BIG 0 0)
def aBz : Option Int :=
  some (-1)
def pG (a : Int) (b : aS) : Nat → Int → Option Int
 | 0, _ => none
 | d + 1, e =>
  bif decide (e < (b.Slots.length : Int)) then ((idx b.Slots e).bind fun c =>
  bif decide (c = a) then (some e)
  else ((pG a b d) (w64 (e + 1))))
  else (aBz)
def zT (a : aS) (b : Int) : Option Int :=
  pG b a BIG 0
def vY (a : Int) : Option Int :=
  some a
def nU (a : Int) (b : aP) (c : aS) : Nat → Int → Option Int
 | 0, _ => none
 | h + 1, i =>
  (bif decide (i < b.Rounds) then ((idx c.Must i).bind fun d =>
  (chk (decide (0 ≤ (IntKind.u64.wrap (w64 (i + 1)))))).bind fun _ =>
  (idx d (a.fdiv (2 ^ (min (IntKind.u64.wrap (w64 (i + 1))).toNat 64)))).bind fun e =>
  (idx c.Slots a).bind fun f =>
  some (decide (e = f))) else (some false)).bind fun g =>
  bif g then ((nU a b c h) (w64 (i + 1)))
  else (vY i)
def yW (a : aP) (b : aS) (c : Int) : Option Int :=
  nU c a b BIG 0
def kK (a : aP) (b : List aG) (c : Int) : Option (cH × Int) :=
  (eZ a b).bind fun d =>
  bif !decide (d = 0) then (some ((cH.mk 0 0), d))
  else ((eF c 0 999).bind fun e =>
  bif !e then (some ((cH.mk 0 0), 1))
  else ((dX a b).bind fun f =>
  (zT f.1 c).bind fun g =>
  bif decide (g < 0) then (some ((cH.mk 0 0), 3))
  else ((yW a f.1 g).bind fun h =>
  (wC a f.1 g).bind fun i =>
  some ((cH.mk h i), 0))))
end Go.Am
