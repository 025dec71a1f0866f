/- Shallow functions, printed by program. -/
import Derived.Test.YtiohgpipanopaaaGreatAmFull
namespace Go.Am
def uP (x : List Int) : List D := [.sl 1 (x.map aL)]
structure aN where
 Rounds : Int
 Slots : List Int
 deriving DecidableEq, Inhabited
def aZ (x : aN) : List D := [.lit (.int .i64 x.Rounds), .sl 1 (x.Slots.map aL)]
structure aF where
 Kind : Int
 Round : Int
 Place : Int
 Player : Int
 Old : Int
 deriving DecidableEq, Inhabited
def aS (x : aF) : List D := [.lit (.int .i64 x.Kind), .lit (.int .i64 x.Round), .lit (.int .i64 x.Place), .lit (.int .i64 x.Player), .lit (.int .i64 x.Old)]
def aQp (x : List (List Int)) : List D := [.sl 1 (x.map uP)]
structure aV where
 Slots : List Int
 Must : List (List Int)
 deriving DecidableEq, Inhabited
structure cA where
 Round : Int
 Place : Int
 One : Int
 Two : Int
 deriving DecidableEq, Inhabited
def dK (x : cA) : List D := [.lit (.int .i64 x.Round), .lit (.int .i64 x.Place), .lit (.int .i64 x.One), .lit (.int .i64 x.Two)]
structure dZ where
 Low : Int
 High : Int
 deriving DecidableEq, Inhabited
def fV (x : dZ) : List D := [.lit (.int .i64 x.Low), .lit (.int .i64 x.High)]
def aLg (x : aN) : Prop := okI x.Rounds ∧ (okL okI) x.Slots
def eI (a : Int) (b : Int) (c : Int) : Option Bool :=
  (bif decide (b ≤ a) then (some (decide (a ≤ c))) else (some false)).bind fun d =>
  some d
def qP (a : Int → Option Bool) (b : Int) (_ : aN) : Option Bool :=
  a (w64 (b + 1))
def qQ (a : Int → Option Bool) (b : Int) (c : aN) : Option Bool :=
  qP a b c
def fS (a : Int → Option Bool) (b : Int) (c : aN) : Nat → Int → Option Bool
 | 0, _ => none
 | h + 1, i =>
  bif decide (i < b) then ((idx c.Slots i).bind fun d =>
  (idx c.Slots b).bind fun e =>
  (bif decide (d = e) then ((idx c.Slots b).bind fun f =>
  some (!decide (f = (-1)))) else (some false)).bind fun g =>
  bif g then (some false)
  else ((fS a b c h) (w64 (i + 1))))
  else (qQ a b c)
def qO : Option Bool :=
  some true
def fR (a : aN) : Nat → Int → Option Bool
 | 0, _ => none
 | i + 1, j =>
  bif decide (j < (a.Slots.length : Int)) then ((idx a.Slots j).bind fun b =>
  (eI b (-1) 999).bind fun c =>
  (bif !c then (some true) else ((bif decide ((j.tmod 2) = 1) then ((idx a.Slots j).bind fun d =>
  some (decide (d = (-1)))) else (some false)).bind fun e =>
  (bif e then ((idx a.Slots (w64 (j - 1))).bind fun f =>
  some (decide (f = (-1)))) else (some false)).bind fun g =>
  some g)).bind fun h =>
  bif h then (some false)
  else (fS (fR a i) j a BIG 0))
  else (qO)
def jE (a : aN) : Option Bool :=
  (eI a.Rounds 1 5).bind fun b =>
  (bif !b then (some true) else ((chk (decide (0 ≤ (IntKind.u64.wrap a.Rounds)))).bind fun _ =>
  some (!decide ((a.Slots.length : Int) = (w64 (1 * 2 ^ (min (IntKind.u64.wrap a.Rounds).toNat 64))))))).bind fun c =>
  bif c then (some false)
  else (fR a BIG 0)
def fL (a : aN) (b : Int) : Option Int :=
  (chk (decide (0 ≤ (IntKind.u64.wrap (w64 ((w64 (a.Rounds - 1)) - b)))))).bind fun _ =>
  some (w64 (1 * 2 ^ (min (IntKind.u64.wrap (w64 ((w64 (a.Rounds - 1)) - b))).toNat 64)))
def oS (a : aN) (b : Int) (c : Int) : Option Bool :=
  (eI b 0 (w64 (a.Rounds - 1))).bind fun d =>
  (bif d then ((fL a b).bind fun e =>
  (eI c 0 (w64 (e - 1))).bind fun f =>
  some f) else (some false)).bind fun g =>
  some g
def tL (a : aN) (b : aF) : Option Bool :=
  (eI b.Player 0 999).bind fun c =>
  bif !c then (some false)
  else (bif decide (b.Kind = 5) then ((bif decide (b.Round = 0) then ((eI b.Place 0 (w64 ((a.Slots.length : Int) - 1))).bind fun d =>
  some d) else (some false)).bind fun e =>
  (bif e then ((eI b.Old 0 999).bind fun f =>
  some f) else (some false)).bind fun g =>
  some g)
  else ((eI b.Kind 1 4).bind fun h =>
  (bif !h then (some true) else ((oS a b.Round b.Place).bind fun i =>
  some (!i))).bind fun j =>
  (bif j then (some true) else (some (!decide (b.Old = 0)))).bind fun k =>
  bif k then (some false)
  else ((bif decide (0 < b.Round) then (some true) else ((idx a.Slots (w64 (2 * b.Place))).bind fun l =>
  (bif !decide (l = (-1)) then ((idx a.Slots (w64 ((w64 (2 * b.Place)) + 1))).bind fun m =>
  some (!decide (m = (-1)))) else (some false)).bind fun n =>
  some n)).bind fun o =>
  some o)))
def oV (a : Int → (List aF) → Option ((List aF))) (_ : List aF) (b : Int) (c : List aF) : Option ((List aF)) :=
  a (w64 (b + 1)) c
def oW (a : Int → (List aF) → Option ((List aF))) (b : List aF) (c : Int) (d : Bool) (e : List aF) : Option ((List aF)) :=
  bif !d then ((idx b c).bind fun f =>
  (app 40 e ([f])).bind fun g =>
  oV a b c g)
  else (oV a b c e)
def kE (a : Int → (List aF) → Option ((List aF))) (b : List aF) (c : Int) (d : List aF) : Nat → Bool → Int → Option ((List aF))
 | 0, _, _ => none
 | h + 1, i, j =>
  bif decide (j < (d.length : Int)) then ((bif i then (some true) else ((idx d j).bind fun e =>
  (idx b c).bind fun f =>
  some (decide (e = f)))).bind fun g =>
  (kE a b c d h) g (w64 (j + 1)))
  else (oW a b c i d)
def wY (a : List aF) : Option ((List aF)) :=
  some a
def fU (a : List aF) : Nat → Int → (List aF) → Option ((List aF))
 | 0, _, _ => none
 | b + 1, c, d =>
  bif decide (c < (a.length : Int)) then (kE (fU a b) a c d BIG false 0)
  else (wY d)
def rZ (a : List aF) : Option ((List aF)) :=
  fU a BIG 0 ([] : List aF)
def yZ : Option Bool :=
  some false
def nQ (a : List Int) (b : Int) : Nat → Int → Option Bool
 | 0, _ => none
 | d + 1, e =>
  bif decide (e < (a.length : Int)) then ((idx a e).bind fun c =>
  bif decide (c = b) then (some true)
  else ((nQ a b d) (w64 (e + 1))))
  else (yZ)
def xM (a : List Int) (b : Int) : Option Bool :=
  nQ a b BIG 0
def mL (_ : Int → Int → (List Int) → (List Int) → Option ((List Int) × Bool)) (a : Int → Int → Bool → (List Int) → Option ((List Int) × Bool)) (_ : List aF) (b : Int) (_ : Int) (c : Int) (d : Bool) (_ : aN) (_ : List Int) (e : List Int) : Option ((List Int) × Bool) :=
  a b c d e
def mM (a : Int → Int → (List Int) → (List Int) → Option ((List Int) × Bool)) (b : Int → Int → Bool → (List Int) → Option ((List Int) × Bool)) (c : List aF) (d : Int) (e : Int) (f : Int) (g : Bool) (h : aN) (i : List Int) (j : List Int) (k : List Int) : Option ((List Int) × Bool) :=
  (bif decide (1 < (j.length : Int)) then (some true) else ((bif decide ((j.length : Int) = 1) then ((idx j 0).bind fun l =>
  (xM k l).bind fun m =>
  some m) else (some false)).bind fun n =>
  some n)).bind fun o =>
  bif o then (some (([] : List Int), false))
  else (bif decide ((j.length : Int) = 1) then ((idx j 0).bind fun p =>
  (app 8 k ([p])).bind fun q =>
  mL a b c (w64 (d + 1)) e p true h i q)
  else (mL a b c d e f g h i k))
def gG (a : Int → Int → (List Int) → (List Int) → Option ((List Int) × Bool)) (b : Int → Int → Bool → (List Int) → Option ((List Int) × Bool)) (c : List aF) (d : Int) (e : Int) (f : Int) (g : Bool) (h : aN) (i : List Int) (j : List Int) : Nat → Int → (List Int) → Option ((List Int) × Bool)
 | 0, _, _ => none
 | r + 1, s, t =>
  bif decide (s < (c.length : Int)) then ((idx c s).bind fun k =>
  (bif decide (k.Kind = 5) then ((idx c s).bind fun l =>
  some (decide (l.Place = e))) else (some false)).bind fun m =>
  (bif m then ((idx c s).bind fun n =>
  some (decide (n.Old = f))) else (some false)).bind fun o =>
  bif o then ((idx c s).bind fun p =>
  (app 8 t ([p.Player])).bind fun q =>
  (gG a b c d e f g h i j r) (w64 (s + 1)) q)
  else ((gG a b c d e f g h i j r) (w64 (s + 1)) t))
  else (mM a b c d e f g h i t j)
def uN (a : Int → Int → (List Int) → (List Int) → Option ((List Int) × Bool)) (_ : List aF) (b : Int) (c : Int) (_ : aN) (d : List Int) (e : List Int) : Option ((List Int) × Bool) :=
  a b (w64 (c + 1)) d e
def pQ (a : Int → Int → (List Int) → (List Int) → Option ((List Int) × Bool)) (b : List aF) (c : Int) (d : Int) (e : Int) (f : aN) (g : List Int) (h : List Int) : Option ((List Int) × Bool) :=
  (app 8 g ([e])).bind fun i =>
  uN a b c d f i h
def kA (a : Int → Int → (List Int) → (List Int) → Option ((List Int) × Bool)) (b : List aF) (c : Int) (d : aN) (e : List Int) : Nat → Int → Int → Bool → (List Int) → Option ((List Int) × Bool)
 | 0, _, _, _, _ => none
 | f + 1, g, h, i, j =>
  bif i then (gG a (kA a b c d e f) b g c h false d e j BIG 0 ([] : List Int))
  else (pQ a b g c h d e j)
def uO (a : Int) (b : List Int) : Option ((List Int) × Bool) :=
  some (b, decide (a = 0))
def gH (a : List aF) (b : List Int) : Nat → Int → Int → Option ((List Int) × Bool)
 | 0, _, _ => none
 | d + 1, e, f =>
  bif decide (f < (a.length : Int)) then ((idx a f).bind fun c =>
  bif decide (c.Kind = 5) then ((gH a b d) (w64 (e - 1)) (w64 (f + 1)))
  else ((gH a b d) e (w64 (f + 1))))
  else (uO e b)
def uM (a : List aF) (b : Int) (c : List Int) : Option ((List Int) × Bool) :=
  gH a c BIG b 0
def iM (a : List aF) (b : aN) : Nat → Int → Int → (List Int) → (List Int) → Option ((List Int) × Bool)
 | 0, _, _, _, _ => none
 | d + 1, e, f, g, h =>
  bif decide (f < (b.Slots.length : Int)) then ((idx b.Slots f).bind fun c =>
  kA (iM a b d) a f b g BIG e c true h)
  else (uM a e g)
def sI (a : aN) (b : List aF) : Option ((List Int) × Bool) :=
  (rZ b).bind fun c =>
  (app 8 ([] : List Int) a.Slots).bind fun d =>
  iM c a BIG 0 0 ([] : List Int) d
def wW (a : Int → (List (List Int)) → (List Int) → Option (aV × Bool)) (_ : List aF) (_ : List Int) (b : Int) (_ : aN) (_ : aV) (c : List (List Int)) (d : List Int) : Option (aV × Bool) :=
  a (w64 (b + 1)) c d
def lZ (a : Int → (List (List Int)) → (List Int) → Option (aV × Bool)) (b : List aF) (c : List Int) (d : Int) (e : aN) (f : aV) (g : List (List Int)) (h : List Int) (i : List Int) : Option (aV × Bool) :=
  (app 24 g [i]).bind fun j =>
  wW a b c d e f j h
def eZ (a : Int → (List (List Int)) → (List Int) → Option (aV × Bool)) (b : List aF) (c : List Int) (d : Int) (e : aN) (f : aV) (g : List (List Int)) (h : List Int) : Nat → Int → (List Int) → Option (aV × Bool)
 | 0, _, _ => none
 | w + 1, x, y =>
  (fL e d).bind fun i =>
  bif decide (x < i) then ((bif decide (d = 0) then ((idx c (w64 (2 * x))).bind fun j =>
  some (decide (j = (-1)))) else (some false)).bind fun k =>
  bif k then ((idx c (w64 ((w64 (2 * x)) + 1))).bind fun l =>
  (bif decide (d = 0) then ((idx c (w64 ((w64 (2 * x)) + 1))).bind fun m =>
  some (decide (m = (-1)))) else (some false)).bind fun n =>
  bif n then ((idx c (w64 (2 * x))).bind fun o =>
  (app 8 y ([o])).bind fun p =>
  (eZ a b c d e f g h w) (w64 (x + 1)) p)
  else ((app 8 y ([l])).bind fun q =>
  (eZ a b c d e f g h w) (w64 (x + 1)) q))
  else ((bif decide (d = 0) then ((idx c (w64 ((w64 (2 * x)) + 1))).bind fun r =>
  some (decide (r = (-1)))) else (some false)).bind fun s =>
  bif s then ((idx c (w64 (2 * x))).bind fun t =>
  (app 8 y ([t])).bind fun u =>
  (eZ a b c d e f g h w) (w64 (x + 1)) u)
  else ((app 8 y ([(-2)])).bind fun v =>
  (eZ a b c d e f g h w) (w64 (x + 1)) v)))
  else (lZ a b c d e f g h y)
def oU (a : Int → aV → (List (List Int)) → Option (aV × Bool)) (_ : List Int) (_ : List aF) (b : Int) (c : aV) (d : List (List Int)) (_ : List Int) : Option (aV × Bool) :=
  a (w64 (b + 1)) c d
def vX (a : Int → aV → (List (List Int)) → Option (aV × Bool)) (b : List Int) (c : List aF) (d : Int) (e : aV) (f : List (List Int)) (g : List Int) : Option (aV × Bool) :=
  oU a b c d e f g
def jL (a : Int → aV → (List (List Int)) → Option (aV × Bool)) (b : List Int) (c : List aF) (d : Int) (e : Int) (f : List Int) (g : aF) : Nat → Int → aV → (List (List Int)) → Option (aV × Bool)
 | 0, _, _, _ => none
 | n + 1, o, p, q =>
  bif decide (o ≤ g.Round) then ((chk (decide (0 ≤ (IntKind.u64.wrap (w64 (o + 1)))))).bind fun _ =>
  (idx q o).bind fun h =>
  (idx h (e.fdiv (2 ^ (min (IntKind.u64.wrap (w64 (o + 1))).toNat 64)))).bind fun i =>
  (bif !decide (i = (-2)) then ((idx q o).bind fun j =>
  (idx j (e.fdiv (2 ^ (min (IntKind.u64.wrap (w64 (o + 1))).toNat 64)))).bind fun k =>
  some (!decide (k = g.Player))) else (some false)).bind fun l =>
  bif l then (some ((aV.mk ([] : List Int) ([] : List (List Int))), false))
  else ((idx q o).bind fun m =>
  (idx m (e.fdiv (2 ^ (min (IntKind.u64.wrap (w64 (o + 1))).toNat 64)))).bind fun _ =>
  (jL a b c d e f g n) (w64 (o + 1)) p (q.set o.toNat (m.set (e.fdiv (2 ^ (min (IntKind.u64.wrap (w64 (o + 1))).toNat 64))).toNat g.Player))))
  else (vX a b c d p q f)
def iT (a : Int → aV → (List (List Int)) → Option (aV × Bool)) (b : List Int) (c : List aF) (d : Int) (e : Int) (f : aV) (g : List (List Int)) (h : List Int) (i : aF) : Option (aV × Bool) :=
  (bif decide (e < 0) then (some true) else ((chk (decide (0 ≤ (IntKind.u64.wrap (w64 (i.Round + 1)))))).bind fun _ =>
  some (!decide ((e.fdiv (2 ^ (min (IntKind.u64.wrap (w64 (i.Round + 1))).toNat 64))) = i.Place)))).bind fun j =>
  bif j then (some ((aV.mk ([] : List Int) ([] : List (List Int))), false))
  else (jL a b c d e h i BIG 0 f g)
def eS (a : Int → aV → (List (List Int)) → Option (aV × Bool)) (b : List Int) (c : List aF) (d : Int) (e : aV) (f : List (List Int)) (g : List Int) (h : aF) : Nat → Int → Int → Option (aV × Bool)
 | 0, _, _ => none
 | j + 1, k, l =>
  bif decide (l < (b.length : Int)) then ((idx b l).bind fun i =>
  bif decide (i = h.Player) then ((eS a b c d e f g h j) l (w64 (l + 1)))
  else ((eS a b c d e f g h j) k (w64 (l + 1))))
  else (iT a b c d k e f g h)
def sJ (a : Int → aV → (List (List Int)) → Option (aV × Bool)) (b : List Int) (c : List aF) (d : Int) (e : aV) (f : List (List Int)) (g : List Int) (h : aF) : Option (aV × Bool) :=
  eS a b c d e f g h BIG (-1) 0
def kD (a : Int → aV → (List (List Int)) → Option (aV × Bool)) (b : List Int) (c : List aF) (d : Int) (e : List (List Int)) (f : List Int) (g : aF) : Nat → Int → aV → Option (aV × Bool)
 | 0, _, _ => none
 | k + 1, l, m =>
  bif decide (l < d) then ((idx c l).bind fun h =>
  (bif !decide (h.Kind = 5) then (some (decide (h.Round = g.Round))) else (some false)).bind fun i =>
  (bif i then (some (decide (h.Place = g.Place))) else (some false)).bind fun j =>
  bif j then (some ((aV.mk ([] : List Int) ([] : List (List Int))), false))
  else ((kD a b c d e f g k) (w64 (l + 1)) m))
  else (sJ a b c d m e f g)
def wX (_ : aV) (a : List (List Int)) (b : List Int) : Option (aV × Bool) :=
  some ((aV.mk b a), true)
def fA (a : List Int) (b : List aF) (c : List Int) : Nat → Int → aV → (List (List Int)) → Option (aV × Bool)
 | 0, _, _, _ => none
 | e + 1, f, g, h =>
  bif decide (f < (b.length : Int)) then ((idx b f).bind fun d =>
  bif decide (d.Kind = 5) then (oU (fA a b c e) a b f g h c)
  else (kD (fA a b c e) a b f h c d BIG 0 g))
  else (wX g h c)
def lY (a : List aF) (b : List Int) (c : aV) (d : List (List Int)) (e : List Int) : Option (aV × Bool) :=
  (rZ a).bind fun f =>
  fA b f e BIG 0 c d
def kC (a : List aF) (b : List Int) (c : aN) (d : aV) : Nat → Int → (List (List Int)) → (List Int) → Option (aV × Bool)
 | 0, _, _, _ => none
 | e + 1, f, g, h =>
  bif decide (f < c.Rounds) then (eZ (kC a b c d e) a b f c d g h BIG 0 ([] : List Int))
  else (lY a b d g h)
def dW (a : aN) (b : List aF) : Option (aV × Bool) :=
  (sI a b).bind fun c =>
  bif !c.2 then (some ((aV.mk ([] : List Int) ([] : List (List Int))), false))
  else (kC b c.1 a (aV.mk ([] : List Int) ([] : List (List Int))) BIG 0 ([] : List (List Int)) c.1)
def lJ (a : List aF) (b : aN) : Option Int :=
  (dW b a).bind fun c =>
  bif !c.2 then (some 72)
  else (some 0)
def jJ (a : List aF) (b : aN) : Nat → Int → Option Int
 | 0, _ => none
 | e + 1, f =>
  bif decide (f < (a.length : Int)) then ((idx a f).bind fun c =>
  (tL b c).bind fun d =>
  bif !d then (some 71)
  else ((jJ a b e) (w64 (f + 1))))
  else (lJ a b)
def iS (a : aN) (b : List aF) : Option Int :=
  (jE a).bind fun c =>
  bif !c then (some 70)
  else (bif decide (60 < (b.length : Int)) then (some 71)
  else (jJ b a BIG 0))
def tY (a : aV) (b : Int) (c : Int) (d : Int) : Option Int :=
  bif decide (b = 0) then ((idx a.Slots (w64 ((w64 (2 * c)) + d))).bind fun e =>
  some e)
  else ((idx a.Must (w64 (b - 1))).bind fun f =>
  (idx f (w64 ((w64 (2 * c)) + d))).bind fun g =>
  some g)
def vW (a : Int → (List cA) → Option ((List cA))) (b : Int) (_ : aN) (_ : aV) (c : List cA) : Option ((List cA)) :=
  a (w64 (b + 1)) c
def nZ (a : Int → (List cA) → Option ((List cA))) (b : Int) (c : aN) (d : aV) (e : List cA) : Option ((List cA)) :=
  vW a b c d e
def jK (a : Int → (List cA) → Option ((List cA))) (b : Int) (c : aN) (d : aV) : Nat → Int → (List cA) → Option ((List cA))
 | 0, _, _ => none
 | i + 1, j, k =>
  (fL c b).bind fun e =>
  bif decide (j < e) then ((tY d b j 0).bind fun f =>
  (tY d b j 1).bind fun g =>
  (app 32 k ([(cA.mk b j f g)])).bind fun h =>
  (jK a b c d i) (w64 (j + 1)) h)
  else (nZ a b c d k)
def vV (a : List cA) : Option ((List cA)) :=
  some a
def fI (a : aN) (b : aV) : Nat → Int → (List cA) → Option ((List cA))
 | 0, _, _ => none
 | c + 1, d, e =>
  bif decide (d < a.Rounds) then (jK (fI a b c) d a b BIG 0 e)
  else (vV e)
def qR (a : aN) (b : aV) : Option ((List cA)) :=
  fI a b BIG 0 ([] : List cA)
def vU (a : List cA) : Option ((List cA) × Int) :=
  some (a, 0)
def gD (a : List cA) (b : aV) : Nat → Int → (List cA) → Option ((List cA) × Int)
 | 0, _, _ => none
 | m + 1, n, o =>
  bif decide (n < (a.length : Int)) then ((idx a n).bind fun c =>
  (bif decide (0 ≤ c.One) then ((idx a n).bind fun d =>
  some (decide (0 ≤ d.Two))) else (some false)).bind fun e =>
  (bif e then ((idx a n).bind fun f =>
  (idx b.Must f.Round).bind fun g =>
  (idx a n).bind fun h =>
  (idx g h.Place).bind fun i =>
  some (decide (i = (-2)))) else (some false)).bind fun j =>
  bif j then ((idx a n).bind fun k =>
  (app 32 o ([k])).bind fun l =>
  (gD a b m) (w64 (n + 1)) l)
  else ((gD a b m) (w64 (n + 1)) o))
  else (vU o)
def lP (a : aN) (b : List aF) : Option ((List cA) × Int) :=
  (iS a b).bind fun c =>
  bif !decide (c = 0) then (some (([] : List cA), c))
  else ((dW a b).bind fun d =>
  (qR a d.1).bind fun e =>
  gD e d.1 BIG 0 ([] : List cA))
def iN (a : aN) (b : List aF) (c : Int) (d : Int) : Option Int :=
  (iS a b).bind fun e =>
  bif !decide (e = 0) then (some e)
  else ((oS a c d).bind fun f =>
  bif !f then (some 1)
  else (some 0))
def iB (a : aN) (b : List aF) (c : Int) (d : Int) : Option (Int × Int) :=
  (iN a b c d).bind fun e =>
  bif !decide (e = 0) then (some (0, e))
  else ((dW a b).bind fun f =>
  (idx f.1.Must c).bind fun g =>
  (idx g d).bind fun h =>
  bif decide (h = (-2)) then (some (0, 3))
  else ((idx f.1.Must c).bind fun i =>
  (idx i d).bind fun j =>
  some (j, 0)))
def sK (a : Int) : Option Int :=
  some a
def mA (a : Int) (b : aN) (c : aV) : Nat → Int → Option Int
 | 0, _ => none
 | k + 1, l =>
  (bif decide (l < b.Rounds) then ((idx c.Must l).bind fun d =>
  (chk (decide (0 ≤ (IntKind.u64.wrap (w64 (l + 1)))))).bind fun _ =>
  (idx d (a.fdiv (2 ^ (min (IntKind.u64.wrap (w64 (l + 1))).toNat 64)))).bind fun e =>
  (bif decide (e = (-2)) then (some true) else ((idx c.Must l).bind fun f =>
  (chk (decide (0 ≤ (IntKind.u64.wrap (w64 (l + 1)))))).bind fun _ =>
  (idx f (a.fdiv (2 ^ (min (IntKind.u64.wrap (w64 (l + 1))).toNat 64)))).bind fun g =>
  (idx c.Slots a).bind fun h =>
  some (decide (g = h)))).bind fun i =>
  some i) else (some false)).bind fun j =>
  bif j then ((mA a b c k) (w64 (l + 1)))
  else (sK l)
def rY (a : aN) (b : aV) (c : Int) : Option Int :=
  mA c a b BIG 0
def vC (a : Int → (List Int) → Option ((List Int))) (_ : List Int) (b : Int) (c : List Int) : Option ((List Int)) :=
  a (w64 (b + 1)) c
def qS (a : Int → (List Int) → Option ((List Int))) (b : List Int) (c : Int) (d : List Int) : Option ((List Int)) :=
  vC a b c d
def kM (a : Int → (List Int) → Option ((List Int))) (b : List Int) (c : Int) : Nat → Int → (List Int) → Option ((List Int))
 | 0, _, _ => none
 | i + 1, j, k =>
  (bif decide (0 < j) then ((idx k j).bind fun d =>
  (idx k (w64 (j - 1))).bind fun e =>
  some (decide (d < e))) else (some false)).bind fun f =>
  bif f then ((idx k (w64 (j - 1))).bind fun g =>
  (idx k j).bind fun h =>
  (idx k j).bind fun _ =>
  (idx (k.set j.toNat g) (w64 (j - 1))).bind fun _ =>
  (kM a b c i) (w64 (j - 1)) ((k.set j.toNat g).set (w64 (j - 1)).toNat h))
  else (qS a b c k)
def vB (a : List Int) : Option ((List Int)) :=
  some a
def kL (a : List Int) : Nat → Int → (List Int) → Option ((List Int))
 | 0, _, _ => none
 | d + 1, e, f =>
  bif decide (e < (a.length : Int)) then ((idx a e).bind fun b =>
  (app 8 f ([b])).bind fun c =>
  kM (kL a d) a e BIG (w64 ((c.length : Int) - 1)) c)
  else (vB f)
def tM (a : List Int) : Option ((List Int)) :=
  kL a BIG 0 ([] : List Int)
def xR (a : List Int) : Option ((List Int) × Int) :=
  (tM a).bind fun b =>
  some (b, 0)
def iA (a : Int) (b : Int) (c : aN) (d : aV) : Nat → Int → (List Int) → Option ((List Int) × Int)
 | 0, _, _ => none
 | k + 1, l, m =>
  bif decide (l < (d.Slots.length : Int)) then ((idx d.Slots l).bind fun e =>
  (bif !decide (e = (-1)) then ((chk (decide (0 ≤ (IntKind.u64.wrap (w64 (a + 1)))))).bind fun _ =>
  some (decide ((l.fdiv (2 ^ (min (IntKind.u64.wrap (w64 (a + 1))).toNat 64))) = b))) else (some false)).bind fun f =>
  (bif f then ((rY c d l).bind fun g =>
  some (decide (a < g))) else (some false)).bind fun h =>
  bif h then ((idx d.Slots l).bind fun i =>
  (app 8 m ([i])).bind fun j =>
  (iA a b c d k) (w64 (l + 1)) j)
  else ((iA a b c d k) (w64 (l + 1)) m))
  else (xR m)
def jZ (a : aN) (b : List aF) (c : Int) (d : Int) : Option ((List Int) × Int) :=
  (iN a b c d).bind fun e =>
  bif !decide (e = 0) then (some (([] : List Int), e))
  else ((dW a b).bind fun f =>
  iA c d a f.1 BIG 0 ([] : List Int))
def wV (a : Int → Int → Option (Int × Int)) (b : Int) (c : Int) (_ : aN) (_ : aV) : Option (Int × Int) :=
  a b (w64 (c + 1))
def sH (a : Int → Int → Option (Int × Int)) (b : Int) (c : Int) (d : aN) (e : aV) : Option (Int × Int) :=
  wV a b c d e
def jY (a : Int → Int → Option (Int × Int)) (b : Int) (c : aN) (d : aV) : Nat → Int → Int → Option (Int × Int)
 | 0, _, _ => none
 | h + 1, i, j =>
  (fL c b).bind fun e =>
  bif decide (j < e) then ((idx d.Must b).bind fun f =>
  (idx f j).bind fun g =>
  bif decide (g = (-2)) then ((jY a b c d h) (w64 (i + 1)) (w64 (j + 1)))
  else ((jY a b c d h) i (w64 (j + 1))))
  else (sH a i b c d)
def wU (a : Int) : Option (Int × Int) :=
  some (a, 0)
def fT (a : aN) (b : aV) : Nat → Int → Int → Option (Int × Int)
 | 0, _, _ => none
 | c + 1, d, e =>
  bif decide (e < a.Rounds) then (jY (fT a b c) e a b BIG d 0)
  else (wU d)
def mK (a : aN) (b : List aF) : Option (Int × Int) :=
  (iS a b).bind fun c =>
  bif !decide (c = 0) then (some (0, c))
  else ((dW a b).bind fun d =>
  fT a d.1 BIG 0 0)
def wZ : Option Int :=
  some (-1)
def mB (a : Int) (b : aV) : Nat → Int → Option Int
 | 0, _ => none
 | d + 1, e =>
  bif decide (e < (b.Slots.length : Int)) then ((idx b.Slots e).bind fun c =>
  bif decide (c = a) then (some e)
  else ((mB a b d) (w64 (e + 1))))
  else (wZ)
def vA (a : aV) (b : Int) : Option Int :=
  mB b a BIG 0
def rQ (a : Int) : Option Int :=
  some a
def lK (a : Int) (b : aN) (c : aV) : Nat → Int → Option Int
 | 0, _ => none
 | h + 1, i =>
  (bif decide (i < b.Rounds) then ((idx c.Must i).bind fun d =>
  (chk (decide (0 ≤ (IntKind.u64.wrap (w64 (i + 1)))))).bind fun _ =>
  (idx d (a.fdiv (2 ^ (min (IntKind.u64.wrap (w64 (i + 1))).toNat 64)))).bind fun e =>
  (idx c.Slots a).bind fun f =>
  some (decide (e = f))) else (some false)).bind fun g =>
  bif g then ((lK a b c h) (w64 (i + 1)))
  else (rQ i)
def uF (a : aN) (b : aV) (c : Int) : Option Int :=
  lK c a b BIG 0
def kB (a : aN) (b : List aF) (c : Int) : Option (dZ × Int) :=
  (iS a b).bind fun d =>
  bif !decide (d = 0) then (some ((dZ.mk 0 0), d))
  else ((eI c 0 999).bind fun e =>
  bif !e then (some ((dZ.mk 0 0), 1))
  else ((dW a b).bind fun f =>
  (vA f.1 c).bind fun g =>
  bif decide (g < 0) then (some ((dZ.mk 0 0), 3))
  else ((uF a f.1 g).bind fun h =>
  (rY a f.1 g).bind fun i =>
  some ((dZ.mk h i), 0))))
end Go.Am
