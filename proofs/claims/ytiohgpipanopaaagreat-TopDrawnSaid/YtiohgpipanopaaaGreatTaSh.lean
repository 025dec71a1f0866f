/- Shallow functions, printed by program. -/
import Derived.Test.YtiohgpipanopaaaGreatAmFull
namespace Go.Am
def nI (x : List Int) : List D := [.sl 1 (x.map aG)]
structure aJ where
 Rounds : Int
 Slots : List Int
 deriving DecidableEq, Inhabited
def aZ (x : aJ) : List D := [.lit (.int .i64 x.Rounds), .sl 1 (x.Slots.map aG)]
structure aE where
 Kind : Int
 Round : Int
 Place : Int
 Player : Int
 Old : Int
 deriving DecidableEq, Inhabited
def aO (x : aE) : List D := [.lit (.int .i64 x.Kind), .lit (.int .i64 x.Round), .lit (.int .i64 x.Place), .lit (.int .i64 x.Player), .lit (.int .i64 x.Old)]
structure aQ where
 Slots : List Int
 Must : List (List Int)
 deriving DecidableEq, Inhabited
structure dK where
 Low : Int
 High : Int
 deriving DecidableEq, Inhabited
def gZ (x : dK) : List D := [.lit (.int .i64 x.Low), .lit (.int .i64 x.High)]
def cV (a : Int) (b : Int) (c : Int) : Option Bool :=
  (bif decide (b ≤ a) then (some (decide (a ≤ c))) else (some false)).bind fun d =>
  some d
def pN (a : Int → Option Bool) (b : Int) (_ : aJ) : Option Bool :=
  a (w64 (b + 1))
def pO (a : Int → Option Bool) (b : Int) (c : aJ) : Option Bool :=
  pN a b c
def eU (a : Int → Option Bool) (b : Int) (c : aJ) : Nat → Int → Option Bool
 | 0, _ => none
 | h + 1, i =>
  bif decide (i < b) then ((idx c.Slots i).bind fun d =>
  (idx c.Slots b).bind fun e =>
  (bif decide (d = e) then ((idx c.Slots b).bind fun f =>
  some (!decide (f = (-1)))) else (some false)).bind fun g =>
  bif g then (some false)
  else ((eU a b c h) (w64 (i + 1))))
  else (pO a b c)
def pM : Option Bool :=
  some true
def eT (a : aJ) : Nat → Int → Option Bool
 | 0, _ => none
 | i + 1, j =>
  bif decide (j < (a.Slots.length : Int)) then ((idx a.Slots j).bind fun b =>
  (cV b (-1) 999).bind fun c =>
  (bif !c then (some true) else ((bif decide ((j.tmod 2) = 1) then ((idx a.Slots j).bind fun d =>
  some (decide (d = (-1)))) else (some false)).bind fun e =>
  (bif e then ((idx a.Slots (w64 (j - 1))).bind fun f =>
  some (decide (f = (-1)))) else (some false)).bind fun g =>
  some g)).bind fun h =>
  bif h then (some false)
  else (eU (eT a i) j a BIG 0))
  else (pM)
def gK (a : aJ) : Option Bool :=
  (cV a.Rounds 1 5).bind fun b =>
  (bif !b then (some true) else ((chk (decide (0 ≤ (IntKind.u64.wrap a.Rounds)))).bind fun _ =>
  some (!decide ((a.Slots.length : Int) = (w64 (1 * 2 ^ (min (IntKind.u64.wrap a.Rounds).toNat 64))))))).bind fun c =>
  bif c then (some false)
  else (eT a BIG 0)
def oJ (a : aJ) (b : Int) : Option Int :=
  (chk (decide (0 ≤ (IntKind.u64.wrap (w64 ((w64 (a.Rounds - 1)) - b)))))).bind fun _ =>
  some (w64 (1 * 2 ^ (min (IntKind.u64.wrap (w64 ((w64 (a.Rounds - 1)) - b))).toNat 64)))
def nR (a : aJ) (b : Int) (c : Int) : Option Bool :=
  (cV b 0 (w64 (a.Rounds - 1))).bind fun d =>
  (bif d then ((oJ a b).bind fun e =>
  (cV c 0 (w64 (e - 1))).bind fun f =>
  some f) else (some false)).bind fun g =>
  some g
def rZ (a : aJ) (b : aE) : Option Bool :=
  (cV b.Player 0 999).bind fun c =>
  bif !c then (some false)
  else (bif decide (b.Kind = 5) then ((bif decide (b.Round = 0) then ((cV b.Place 0 (w64 ((a.Slots.length : Int) - 1))).bind fun d =>
  some d) else (some false)).bind fun e =>
  (bif e then ((cV b.Old 0 999).bind fun f =>
  some f) else (some false)).bind fun g =>
  some g)
  else ((cV b.Kind 1 4).bind fun h =>
  (bif !h then (some true) else ((nR a b.Round b.Place).bind fun i =>
  some (!i))).bind fun j =>
  (bif j then (some true) else (some (!decide (b.Old = 0)))).bind fun k =>
  bif k then (some false)
  else ((bif decide (0 < b.Round) then (some true) else ((idx a.Slots (w64 (2 * b.Place))).bind fun l =>
  (bif !decide (l = (-1)) then ((idx a.Slots (w64 ((w64 (2 * b.Place)) + 1))).bind fun m =>
  some (!decide (m = (-1)))) else (some false)).bind fun n =>
  some n)).bind fun o =>
  some o)))
def nU (a : Int → (List aE) → Option ((List aE))) (_ : List aE) (b : Int) (c : List aE) : Option ((List aE)) :=
  a (w64 (b + 1)) c
def nV (a : Int → (List aE) → Option ((List aE))) (b : List aE) (c : Int) (d : Bool) (e : List aE) : Option ((List aE)) :=
  bif !d then ((idx b c).bind fun f =>
  (app 40 e ([f])).bind fun g =>
  nU a b c g)
  else (nU a b c e)
def jU (a : Int → (List aE) → Option ((List aE))) (b : List aE) (c : Int) (d : List aE) : Nat → Bool → Int → Option ((List aE))
 | 0, _, _ => none
 | h + 1, i, j =>
  bif decide (j < (d.length : Int)) then ((bif i then (some true) else ((idx d j).bind fun e =>
  (idx b c).bind fun f =>
  some (decide (e = f)))).bind fun g =>
  (jU a b c d h) g (w64 (j + 1)))
  else (nV a b c i d)
def vM (a : List aE) : Option ((List aE)) :=
  some a
def eV (a : List aE) : Nat → Int → (List aE) → Option ((List aE))
 | 0, _, _ => none
 | b + 1, c, d =>
  bif decide (c < (a.length : Int)) then (jU (eV a b) a c d BIG false 0)
  else (vM d)
def qT (a : List aE) : Option ((List aE)) :=
  eV a BIG 0 ([] : List aE)
def xC : Option Bool :=
  some false
def mU (a : List Int) (b : Int) : Nat → Int → Option Bool
 | 0, _ => none
 | d + 1, e =>
  bif decide (e < (a.length : Int)) then ((idx a e).bind fun c =>
  bif decide (c = b) then (some true)
  else ((mU a b d) (w64 (e + 1))))
  else (xC)
def wB (a : List Int) (b : Int) : Option Bool :=
  mU a b BIG 0
def lY (_ : Int → Int → (List Int) → (List Int) → Option ((List Int) × Bool)) (a : Int → Int → Bool → (List Int) → Option ((List Int) × Bool)) (_ : List aE) (b : Int) (_ : Int) (c : Int) (d : Bool) (_ : aJ) (_ : List Int) (e : List Int) : Option ((List Int) × Bool) :=
  a b c d e
def lZ (a : Int → Int → (List Int) → (List Int) → Option ((List Int) × Bool)) (b : Int → Int → Bool → (List Int) → Option ((List Int) × Bool)) (c : List aE) (d : Int) (e : Int) (f : Int) (g : Bool) (h : aJ) (i : List Int) (j : List Int) (k : List Int) : Option ((List Int) × Bool) :=
  (bif decide (1 < (j.length : Int)) then (some true) else ((bif decide ((j.length : Int) = 1) then ((idx j 0).bind fun l =>
  (wB k l).bind fun m =>
  some m) else (some false)).bind fun n =>
  some n)).bind fun o =>
  bif o then (some (([] : List Int), false))
  else (bif decide ((j.length : Int) = 1) then ((idx j 0).bind fun p =>
  (app 8 k ([p])).bind fun q =>
  lY a b c (w64 (d + 1)) e p true h i q)
  else (lY a b c d e f g h i k))
def fJ (a : Int → Int → (List Int) → (List Int) → Option ((List Int) × Bool)) (b : Int → Int → Bool → (List Int) → Option ((List Int) × Bool)) (c : List aE) (d : Int) (e : Int) (f : Int) (g : Bool) (h : aJ) (i : List Int) (j : List Int) : Nat → Int → (List Int) → Option ((List Int) × Bool)
 | 0, _, _ => none
 | r + 1, s, t =>
  bif decide (s < (c.length : Int)) then ((idx c s).bind fun k =>
  (bif decide (k.Kind = 5) then ((idx c s).bind fun l =>
  some (decide (l.Place = e))) else (some false)).bind fun m =>
  (bif m then ((idx c s).bind fun n =>
  some (decide (n.Old = f))) else (some false)).bind fun o =>
  bif o then ((idx c s).bind fun p =>
  (app 8 t ([p.Player])).bind fun q =>
  (fJ a b c d e f g h i j r) (w64 (s + 1)) q)
  else ((fJ a b c d e f g h i j r) (w64 (s + 1)) t))
  else (lZ a b c d e f g h i t j)
def tJ (a : Int → Int → (List Int) → (List Int) → Option ((List Int) × Bool)) (_ : List aE) (b : Int) (c : Int) (_ : aJ) (d : List Int) (e : List Int) : Option ((List Int) × Bool) :=
  a b (w64 (c + 1)) d e
def oW (a : Int → Int → (List Int) → (List Int) → Option ((List Int) × Bool)) (b : List aE) (c : Int) (d : Int) (e : Int) (f : aJ) (g : List Int) (h : List Int) : Option ((List Int) × Bool) :=
  (app 8 g ([e])).bind fun i =>
  tJ a b c d f i h
def jP (a : Int → Int → (List Int) → (List Int) → Option ((List Int) × Bool)) (b : List aE) (c : Int) (d : aJ) (e : List Int) : Nat → Int → Int → Bool → (List Int) → Option ((List Int) × Bool)
 | 0, _, _, _, _ => none
 | f + 1, g, h, i, j =>
  bif i then (fJ a (jP a b c d e f) b g c h false d e j BIG 0 ([] : List Int))
  else (oW a b g c h d e j)
def tK (a : Int) (b : List Int) : Option ((List Int) × Bool) :=
  some (b, decide (a = 0))
def fK (a : List aE) (b : List Int) : Nat → Int → Int → Option ((List Int) × Bool)
 | 0, _, _ => none
 | d + 1, e, f =>
  bif decide (f < (a.length : Int)) then ((idx a f).bind fun c =>
  bif decide (c.Kind = 5) then ((fK a b d) (w64 (e - 1)) (w64 (f + 1)))
  else ((fK a b d) e (w64 (f + 1))))
  else (tK e b)
def tI (a : List aE) (b : Int) (c : List Int) : Option ((List Int) × Bool) :=
  fK a c BIG b 0
def iB (a : List aE) (b : aJ) : Nat → Int → Int → (List Int) → (List Int) → Option ((List Int) × Bool)
 | 0, _, _, _, _ => none
 | d + 1, e, f, g, h =>
  bif decide (f < (b.Slots.length : Int)) then ((idx b.Slots f).bind fun c =>
  jP (iB a b d) a f b g BIG e c true h)
  else (tI a e g)
def rE (a : aJ) (b : List aE) : Option ((List Int) × Bool) :=
  (qT b).bind fun c =>
  (app 8 ([] : List Int) a.Slots).bind fun d =>
  iB c a BIG 0 0 ([] : List Int) d
def vK (a : Int → (List (List Int)) → (List Int) → Option (aQ × Bool)) (_ : List aE) (_ : List Int) (b : Int) (_ : aJ) (_ : aQ) (c : List (List Int)) (d : List Int) : Option (aQ × Bool) :=
  a (w64 (b + 1)) c d
def lM (a : Int → (List (List Int)) → (List Int) → Option (aQ × Bool)) (b : List aE) (c : List Int) (d : Int) (e : aJ) (f : aQ) (g : List (List Int)) (h : List Int) (i : List Int) : Option (aQ × Bool) :=
  (app 24 g [i]).bind fun j =>
  vK a b c d e f j h
def eD (a : Int → (List (List Int)) → (List Int) → Option (aQ × Bool)) (b : List aE) (c : List Int) (d : Int) (e : aJ) (f : aQ) (g : List (List Int)) (h : List Int) : Nat → Int → (List Int) → Option (aQ × Bool)
 | 0, _, _ => none
 | w + 1, x, y =>
  (oJ e d).bind fun i =>
  bif decide (x < i) then ((bif decide (d = 0) then ((idx c (w64 (2 * x))).bind fun j =>
  some (decide (j = (-1)))) else (some false)).bind fun k =>
  bif k then ((idx c (w64 ((w64 (2 * x)) + 1))).bind fun l =>
  (bif decide (d = 0) then ((idx c (w64 ((w64 (2 * x)) + 1))).bind fun m =>
  some (decide (m = (-1)))) else (some false)).bind fun n =>
  bif n then ((idx c (w64 (2 * x))).bind fun o =>
  (app 8 y ([o])).bind fun p =>
  (eD a b c d e f g h w) (w64 (x + 1)) p)
  else ((app 8 y ([l])).bind fun q =>
  (eD a b c d e f g h w) (w64 (x + 1)) q))
  else ((bif decide (d = 0) then ((idx c (w64 ((w64 (2 * x)) + 1))).bind fun r =>
  some (decide (r = (-1)))) else (some false)).bind fun s =>
  bif s then ((idx c (w64 (2 * x))).bind fun t =>
  (app 8 y ([t])).bind fun u =>
  (eD a b c d e f g h w) (w64 (x + 1)) u)
  else ((app 8 y ([(-2)])).bind fun v =>
  (eD a b c d e f g h w) (w64 (x + 1)) v)))
  else (lM a b c d e f g h y)
def nT (a : Int → aQ → (List (List Int)) → Option (aQ × Bool)) (_ : List Int) (_ : List aE) (b : Int) (c : aQ) (d : List (List Int)) (_ : List Int) : Option (aQ × Bool) :=
  a (w64 (b + 1)) c d
def uM (a : Int → aQ → (List (List Int)) → Option (aQ × Bool)) (b : List Int) (c : List aE) (d : Int) (e : aQ) (f : List (List Int)) (g : List Int) : Option (aQ × Bool) :=
  nT a b c d e f g
def iX (a : Int → aQ → (List (List Int)) → Option (aQ × Bool)) (b : List Int) (c : List aE) (d : Int) (e : Int) (f : List Int) (g : aE) : Nat → Int → aQ → (List (List Int)) → Option (aQ × Bool)
 | 0, _, _, _ => none
 | n + 1, o, p, q =>
  bif decide (o ≤ g.Round) then ((chk (decide (0 ≤ (IntKind.u64.wrap (w64 (o + 1)))))).bind fun _ =>
  (idx q o).bind fun h =>
  (idx h (e.fdiv (2 ^ (min (IntKind.u64.wrap (w64 (o + 1))).toNat 64)))).bind fun i =>
  (bif !decide (i = (-2)) then ((idx q o).bind fun j =>
  (idx j (e.fdiv (2 ^ (min (IntKind.u64.wrap (w64 (o + 1))).toNat 64)))).bind fun k =>
  some (!decide (k = g.Player))) else (some false)).bind fun l =>
  bif l then (some ((aQ.mk ([] : List Int) ([] : List (List Int))), false))
  else ((idx q o).bind fun m =>
  (idx m (e.fdiv (2 ^ (min (IntKind.u64.wrap (w64 (o + 1))).toNat 64)))).bind fun _ =>
  (iX a b c d e f g n) (w64 (o + 1)) p (q.set o.toNat (m.set (e.fdiv (2 ^ (min (IntKind.u64.wrap (w64 (o + 1))).toNat 64))).toNat g.Player))))
  else (uM a b c d p q f)
def iG (a : Int → aQ → (List (List Int)) → Option (aQ × Bool)) (b : List Int) (c : List aE) (d : Int) (e : Int) (f : aQ) (g : List (List Int)) (h : List Int) (i : aE) : Option (aQ × Bool) :=
  (bif decide (e < 0) then (some true) else ((chk (decide (0 ≤ (IntKind.u64.wrap (w64 (i.Round + 1)))))).bind fun _ =>
  some (!decide ((e.fdiv (2 ^ (min (IntKind.u64.wrap (w64 (i.Round + 1))).toNat 64))) = i.Place)))).bind fun j =>
  bif j then (some ((aQ.mk ([] : List Int) ([] : List (List Int))), false))
  else (iX a b c d e h i BIG 0 f g)
def dR (a : Int → aQ → (List (List Int)) → Option (aQ × Bool)) (b : List Int) (c : List aE) (d : Int) (e : aQ) (f : List (List Int)) (g : List Int) (h : aE) : Nat → Int → Int → Option (aQ × Bool)
 | 0, _, _ => none
 | j + 1, k, l =>
  bif decide (l < (b.length : Int)) then ((idx b l).bind fun i =>
  bif decide (i = h.Player) then ((dR a b c d e f g h j) l (w64 (l + 1)))
  else ((dR a b c d e f g h j) k (w64 (l + 1))))
  else (iG a b c d k e f g h)
def rF (a : Int → aQ → (List (List Int)) → Option (aQ × Bool)) (b : List Int) (c : List aE) (d : Int) (e : aQ) (f : List (List Int)) (g : List Int) (h : aE) : Option (aQ × Bool) :=
  dR a b c d e f g h BIG (-1) 0
def jT (a : Int → aQ → (List (List Int)) → Option (aQ × Bool)) (b : List Int) (c : List aE) (d : Int) (e : List (List Int)) (f : List Int) (g : aE) : Nat → Int → aQ → Option (aQ × Bool)
 | 0, _, _ => none
 | k + 1, l, m =>
  bif decide (l < d) then ((idx c l).bind fun h =>
  (bif !decide (h.Kind = 5) then (some (decide (h.Round = g.Round))) else (some false)).bind fun i =>
  (bif i then (some (decide (h.Place = g.Place))) else (some false)).bind fun j =>
  bif j then (some ((aQ.mk ([] : List Int) ([] : List (List Int))), false))
  else ((jT a b c d e f g k) (w64 (l + 1)) m))
  else (rF a b c d m e f g)
def vL (_ : aQ) (a : List (List Int)) (b : List Int) : Option (aQ × Bool) :=
  some ((aQ.mk b a), true)
def eE (a : List Int) (b : List aE) (c : List Int) : Nat → Int → aQ → (List (List Int)) → Option (aQ × Bool)
 | 0, _, _, _ => none
 | e + 1, f, g, h =>
  bif decide (f < (b.length : Int)) then ((idx b f).bind fun d =>
  bif decide (d.Kind = 5) then (nT (eE a b c e) a b f g h c)
  else (jT (eE a b c e) a b f h c d BIG 0 g))
  else (vL g h c)
def lL (a : List aE) (b : List Int) (c : aQ) (d : List (List Int)) (e : List Int) : Option (aQ × Bool) :=
  (qT a).bind fun f =>
  eE b f e BIG 0 c d
def jS (a : List aE) (b : List Int) (c : aJ) (d : aQ) : Nat → Int → (List (List Int)) → (List Int) → Option (aQ × Bool)
 | 0, _, _, _ => none
 | e + 1, f, g, h =>
  bif decide (f < c.Rounds) then (eD (jS a b c d e) a b f c d g h BIG 0 ([] : List Int))
  else (lL a b d g h)
def eI (a : aJ) (b : List aE) : Option (aQ × Bool) :=
  (rE a b).bind fun c =>
  bif !c.2 then (some ((aQ.mk ([] : List Int) ([] : List (List Int))), false))
  else (jS b c.1 a (aQ.mk ([] : List Int) ([] : List (List Int))) BIG 0 ([] : List (List Int)) c.1)
def kX (a : List aE) (b : aJ) : Option Int :=
  (eI b a).bind fun c =>
  bif !c.2 then (some 72)
  else (some 0)
def iW (a : List aE) (b : aJ) : Nat → Int → Option Int
 | 0, _ => none
 | e + 1, f =>
  bif decide (f < (a.length : Int)) then ((idx a f).bind fun c =>
  (rZ b c).bind fun d =>
  bif !d then (some 71)
  else ((iW a b e) (w64 (f + 1))))
  else (kX a b)
def gA (a : aJ) (b : List aE) : Option Int :=
  (gK a).bind fun c =>
  bif !c then (some 70)
  else (bif decide (60 < (b.length : Int)) then (some 71)
  else (iW b a BIG 0))
def jR (a : aJ) (b : List aE) (c : Int) (d : Int) : Option Int :=
  (gA a b).bind fun e =>
  bif !decide (e = 0) then (some e)
  else ((nR a c d).bind fun f =>
  bif !f then (some 1)
  else (some 0))
def rG (a : Int) : Option Int :=
  some a
def lN (a : Int) (b : aJ) (c : aQ) : Nat → Int → Option Int
 | 0, _ => none
 | k + 1, l =>
  (bif decide (l < b.Rounds) then ((idx c.Must l).bind fun d =>
  (chk (decide (0 ≤ (IntKind.u64.wrap (w64 (l + 1)))))).bind fun _ =>
  (idx d (a.fdiv (2 ^ (min (IntKind.u64.wrap (w64 (l + 1))).toNat 64)))).bind fun e =>
  (bif decide (e = (-2)) then (some true) else ((idx c.Must l).bind fun f =>
  (chk (decide (0 ≤ (IntKind.u64.wrap (w64 (l + 1)))))).bind fun _ =>
  (idx f (a.fdiv (2 ^ (min (IntKind.u64.wrap (w64 (l + 1))).toNat 64)))).bind fun g =>
  (idx c.Slots a).bind fun h =>
  some (decide (g = h)))).bind fun i =>
  some i) else (some false)).bind fun j =>
  bif j then ((lN a b c k) (w64 (l + 1)))
  else (rG l)
def mA (a : aJ) (b : aQ) (c : Int) : Option Int :=
  lN c a b BIG 0
def tW (a : Int → (List Int) → Option ((List Int))) (_ : List Int) (b : Int) (c : List Int) : Option ((List Int)) :=
  a (w64 (b + 1)) c
def pP (a : Int → (List Int) → Option ((List Int))) (b : List Int) (c : Int) (d : List Int) : Option ((List Int)) :=
  tW a b c d
def kH (a : Int → (List Int) → Option ((List Int))) (b : List Int) (c : Int) : Nat → Int → (List Int) → Option ((List Int))
 | 0, _, _ => none
 | i + 1, j, k =>
  (bif decide (0 < j) then ((idx k j).bind fun d =>
  (idx k (w64 (j - 1))).bind fun e =>
  some (decide (d < e))) else (some false)).bind fun f =>
  bif f then ((idx k (w64 (j - 1))).bind fun g =>
  (idx k j).bind fun h =>
  (idx k j).bind fun _ =>
  (idx (k.set j.toNat g) (w64 (j - 1))).bind fun _ =>
  (kH a b c i) (w64 (j - 1)) ((k.set j.toNat g).set (w64 (j - 1)).toNat h))
  else (pP a b c k)
def tV (a : List Int) : Option ((List Int)) :=
  some a
def kG (a : List Int) : Nat → Int → (List Int) → Option ((List Int))
 | 0, _, _ => none
 | d + 1, e, f =>
  bif decide (e < (a.length : Int)) then ((idx a e).bind fun b =>
  (app 8 f ([b])).bind fun c =>
  kH (kG a d) a e BIG (w64 ((c.length : Int) - 1)) c)
  else (tV f)
def sA (a : List Int) : Option ((List Int)) :=
  kG a BIG 0 ([] : List Int)
def wD (a : List Int) : Option ((List Int) × Int) :=
  (sA a).bind fun b =>
  some (b, 0)
def gL (a : Int) (b : Int) (c : aJ) (d : aQ) : Nat → Int → (List Int) → Option ((List Int) × Int)
 | 0, _, _ => none
 | k + 1, l, m =>
  bif decide (l < (d.Slots.length : Int)) then ((idx d.Slots l).bind fun e =>
  (bif !decide (e = (-1)) then ((chk (decide (0 ≤ (IntKind.u64.wrap (w64 (a + 1)))))).bind fun _ =>
  some (decide ((l.fdiv (2 ^ (min (IntKind.u64.wrap (w64 (a + 1))).toNat 64))) = b))) else (some false)).bind fun f =>
  (bif f then ((mA c d l).bind fun g =>
  some (decide (a < g))) else (some false)).bind fun h =>
  bif h then ((idx d.Slots l).bind fun i =>
  (app 8 m ([i])).bind fun j =>
  (gL a b c d k) (w64 (l + 1)) j)
  else ((gL a b c d k) (w64 (l + 1)) m))
  else (wD m)
def jO (a : aJ) (b : List aE) (c : Int) (d : Int) : Option ((List Int) × Int) :=
  (jR a b c d).bind fun e =>
  bif !decide (e = 0) then (some (([] : List Int), e))
  else ((eI a b).bind fun f =>
  gL c d a f.1 BIG 0 ([] : List Int))
def vN : Option Int :=
  some (-1)
def lO (a : Int) (b : aQ) : Nat → Int → Option Int
 | 0, _ => none
 | d + 1, e =>
  bif decide (e < (b.Slots.length : Int)) then ((idx b.Slots e).bind fun c =>
  bif decide (c = a) then (some e)
  else ((lO a b d) (w64 (e + 1))))
  else (vN)
def kF (a : aQ) (b : Int) : Option Int :=
  lO b a BIG 0
def qO (a : Int) : Option Int :=
  some a
def kY (a : Int) (b : aJ) (c : aQ) : Nat → Int → Option Int
 | 0, _ => none
 | h + 1, i =>
  (bif decide (i < b.Rounds) then ((idx c.Must i).bind fun d =>
  (chk (decide (0 ≤ (IntKind.u64.wrap (w64 (i + 1)))))).bind fun _ =>
  (idx d (a.fdiv (2 ^ (min (IntKind.u64.wrap (w64 (i + 1))).toNat 64)))).bind fun e =>
  (idx c.Slots a).bind fun f =>
  some (decide (e = f))) else (some false)).bind fun g =>
  bif g then ((kY a b c h) (w64 (i + 1)))
  else (qO i)
def sU (a : aJ) (b : aQ) (c : Int) : Option Int :=
  kY c a b BIG 0
def jQ (a : aJ) (b : List aE) (c : Int) : Option (dK × Int) :=
  (gA a b).bind fun d =>
  bif !decide (d = 0) then (some ((dK.mk 0 0), d))
  else ((cV c 0 999).bind fun e =>
  bif !e then (some ((dK.mk 0 0), 1))
  else ((eI a b).bind fun f =>
  (kF f.1 c).bind fun g =>
  bif decide (g < 0) then (some ((dK.mk 0 0), 3))
  else ((sU a f.1 g).bind fun h =>
  (mA a f.1 g).bind fun i =>
  some ((dK.mk h i), 0))))
def nS (a : Int) (b : Int) (c : Int) (d : aJ) (e : aQ) : Option (Int × Int) :=
  (mA d e a).bind fun f =>
  (bif decide (f < c) then (some true) else ((mA d e b).bind fun g =>
  some (decide (g < c)))).bind fun h =>
  bif h then (some (0, 3))
  else (some (c, 0))
def fR (a : Int) (b : Int) (c : aJ) (d : aQ) : Nat → Int → Option (Int × Int)
 | 0, _ => none
 | e + 1, f =>
  (chk (decide (0 ≤ (IntKind.u64.wrap (w64 (f + 1)))))).bind fun _ =>
  (chk (decide (0 ≤ (IntKind.u64.wrap (w64 (f + 1)))))).bind fun _ =>
  bif !decide ((a.fdiv (2 ^ (min (IntKind.u64.wrap (w64 (f + 1))).toNat 64))) = (b.fdiv (2 ^ (min (IntKind.u64.wrap (w64 (f + 1))).toNat 64)))) then ((fR a b c d e) (w64 (f + 1)))
  else (nS a b f c d)
def lX (a : aJ) (b : List aE) (c : Int) (d : Int) : Option (Int × Int) :=
  (gA a b).bind fun e =>
  bif !decide (e = 0) then (some (0, e))
  else ((cV c 0 999).bind fun f =>
  (bif !f then (some true) else ((cV d 0 999).bind fun g =>
  some (!g))).bind fun h =>
  (bif h then (some true) else (some (decide (c = d)))).bind fun i =>
  bif i then (some (0, 1))
  else ((eI a b).bind fun j =>
  (kF j.1 c).bind fun k =>
  (kF j.1 d).bind fun l =>
  (bif decide (k < 0) then (some true) else (some (decide (l < 0)))).bind fun m =>
  bif m then (some (0, 3))
  else (fR k l a j.1 BIG 0)))
end Go.Am
