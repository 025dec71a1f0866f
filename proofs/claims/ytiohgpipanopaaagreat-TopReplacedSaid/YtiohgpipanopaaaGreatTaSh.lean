/- Shallow functions, printed by program. -/
import Derived.Test.YtiohgpipanopaaaGreatAmFull
namespace Go.Am
def aSo (x : List Int) : List D := [.sl 1 (x.map aG)]
structure aJ where
 Rounds : Int
 Slots : List Int
 deriving DecidableEq, Inhabited
def bF (x : aJ) : List D := [.lit (.int .i64 x.Rounds), .sl 1 (x.Slots.map aG)]
structure aE where
 Kind : Int
 Round : Int
 Place : Int
 Player : Int
 Old : Int
 deriving DecidableEq, Inhabited
def aO (x : aE) : List D := [.lit (.int .i64 x.Kind), .lit (.int .i64 x.Round), .lit (.int .i64 x.Place), .lit (.int .i64 x.Player), .lit (.int .i64 x.Old)]
structure aQ where
 Slots : List Int
 Must : List (List Int)
 deriving DecidableEq, Inhabited
structure bX where
 Round : Int
 Place : Int
 One : Int
 Two : Int
 deriving DecidableEq, Inhabited
def dL (x : bX) : List D := [.lit (.int .i64 x.Round), .lit (.int .i64 x.Place), .lit (.int .i64 x.One), .lit (.int .i64 x.Two)]
def eO (a : Int) (b : Int) (c : Int) : Option Bool :=
  (bif decide (b ≤ a) then (some (decide (a ≤ c))) else (some false)).bind fun d =>
  some d
def sZ (a : Int → Option Bool) (b : Int) (_ : aJ) : Option Bool :=
  a (w64 (b + 1))
def tA (a : Int → Option Bool) (b : Int) (c : aJ) : Option Bool :=
  sZ a b c
def gX (a : Int → Option Bool) (b : Int) (c : aJ) : Nat → Int → Option Bool
 | 0, _ => none
 | h + 1, i =>
  bif decide (i < b) then ((idx c.Slots i).bind fun d =>
  (idx c.Slots b).bind fun e =>
  (bif decide (d = e) then ((idx c.Slots b).bind fun f =>
  some (!decide (f = (-1)))) else (some false)).bind fun g =>
  bif g then (some false)
  else ((gX a b c h) (w64 (i + 1))))
  else (tA a b c)
def sY : Option Bool :=
  some true
def jK (a : aJ) : Nat → Int → Option Bool
 | 0, _ => none
 | i + 1, j =>
  bif decide (j < (a.Slots.length : Int)) then ((idx a.Slots j).bind fun b =>
  (eO b (-1) 999).bind fun c =>
  (bif !c then (some true) else ((bif decide ((j.tmod 2) = 1) then ((idx a.Slots j).bind fun d =>
  some (decide (d = (-1)))) else (some false)).bind fun e =>
  (bif e then ((idx a.Slots (w64 (j - 1))).bind fun f =>
  some (decide (f = (-1)))) else (some false)).bind fun g =>
  some g)).bind fun h =>
  bif h then (some false)
  else (gX (jK a i) j a BIG 0))
  else (sY)
def nS (a : aJ) : Option Bool :=
  (eO a.Rounds 1 5).bind fun b =>
  (bif !b then (some true) else ((chk (decide (0 ≤ (IntKind.u64.wrap a.Rounds)))).bind fun _ =>
  some (!decide ((a.Slots.length : Int) = (w64 (1 * 2 ^ (min (IntKind.u64.wrap a.Rounds).toNat 64))))))).bind fun c =>
  bif c then (some false)
  else (jK a BIG 0)
def lP (a : aJ) (b : Int) : Option Int :=
  (chk (decide (0 ≤ (IntKind.u64.wrap (w64 ((w64 (a.Rounds - 1)) - b)))))).bind fun _ =>
  some (w64 (1 * 2 ^ (min (IntKind.u64.wrap (w64 ((w64 (a.Rounds - 1)) - b))).toNat 64)))
def nC (a : aJ) (b : Int) (c : Int) : Option Bool :=
  (eO b 0 (w64 (a.Rounds - 1))).bind fun d =>
  (bif d then ((lP a b).bind fun e =>
  (eO c 0 (w64 (e - 1))).bind fun f =>
  some f) else (some false)).bind fun g =>
  some g
def rC (a : aJ) (b : aE) : Option Bool :=
  (eO b.Player 0 999).bind fun c =>
  bif !c then (some false)
  else (bif decide (b.Kind = 5) then ((bif decide (b.Round = 0) then ((eO b.Place 0 (w64 ((a.Slots.length : Int) - 1))).bind fun d =>
  some d) else (some false)).bind fun e =>
  (bif e then ((eO b.Old 0 999).bind fun f =>
  some f) else (some false)).bind fun g =>
  some g)
  else ((eO b.Kind 1 4).bind fun h =>
  (bif !h then (some true) else ((nC a b.Round b.Place).bind fun i =>
  some (!i))).bind fun j =>
  (bif j then (some true) else (some (!decide (b.Old = 0)))).bind fun k =>
  bif k then (some false)
  else ((bif decide (0 < b.Round) then (some true) else ((idx a.Slots (w64 (2 * b.Place))).bind fun l =>
  (bif !decide (l = (-1)) then ((idx a.Slots (w64 ((w64 (2 * b.Place)) + 1))).bind fun m =>
  some (!decide (m = (-1)))) else (some false)).bind fun n =>
  some n)).bind fun o =>
  some o)))
def nE (a : Int → (List aE) → Option ((List aE))) (_ : List aE) (b : Int) (c : List aE) : Option ((List aE)) :=
  a (w64 (b + 1)) c
def nF (a : Int → (List aE) → Option ((List aE))) (b : List aE) (c : Int) (d : Bool) (e : List aE) : Option ((List aE)) :=
  bif !d then ((idx b c).bind fun f =>
  (app 40 e ([f])).bind fun g =>
  nE a b c g)
  else (nE a b c e)
def jC (a : Int → (List aE) → Option ((List aE))) (b : List aE) (c : Int) (d : List aE) : Nat → Bool → Int → Option ((List aE))
 | 0, _, _ => none
 | h + 1, i, j =>
  bif decide (j < (d.length : Int)) then ((bif i then (some true) else ((idx d j).bind fun e =>
  (idx b c).bind fun f =>
  some (decide (e = f)))).bind fun g =>
  (jC a b c d h) g (w64 (j + 1)))
  else (nF a b c i d)
def uO (a : List aE) : Option ((List aE)) :=
  some a
def eV (a : List aE) : Nat → Int → (List aE) → Option ((List aE))
 | 0, _, _ => none
 | b + 1, c, d =>
  bif decide (c < (a.length : Int)) then (jC (eV a b) a c d BIG false 0)
  else (uO d)
def pY (a : List aE) : Option ((List aE)) :=
  eV a BIG 0 ([] : List aE)
def wJ : Option Bool :=
  some false
def mK (a : List Int) (b : Int) : Nat → Int → Option Bool
 | 0, _ => none
 | d + 1, e =>
  bif decide (e < (a.length : Int)) then ((idx a e).bind fun c =>
  bif decide (c = b) then (some true)
  else ((mK a b d) (w64 (e + 1))))
  else (wJ)
def vE (a : List Int) (b : Int) : Option Bool :=
  mK a b BIG 0
def lH (_ : Int → Int → (List Int) → (List Int) → Option ((List Int) × Bool)) (a : Int → Int → Bool → (List Int) → Option ((List Int) × Bool)) (_ : List aE) (b : Int) (_ : Int) (c : Int) (d : Bool) (_ : aJ) (_ : List Int) (e : List Int) : Option ((List Int) × Bool) :=
  a b c d e
def lI (a : Int → Int → (List Int) → (List Int) → Option ((List Int) × Bool)) (b : Int → Int → Bool → (List Int) → Option ((List Int) × Bool)) (c : List aE) (d : Int) (e : Int) (f : Int) (g : Bool) (h : aJ) (i : List Int) (j : List Int) (k : List Int) : Option ((List Int) × Bool) :=
  (bif decide (1 < (j.length : Int)) then (some true) else ((bif decide ((j.length : Int) = 1) then ((idx j 0).bind fun l =>
  (vE k l).bind fun m =>
  some m) else (some false)).bind fun n =>
  some n)).bind fun o =>
  bif o then (some (([] : List Int), false))
  else (bif decide ((j.length : Int) = 1) then ((idx j 0).bind fun p =>
  (app 8 k ([p])).bind fun q =>
  lH a b c (w64 (d + 1)) e p true h i q)
  else (lH a b c d e f g h i k))
def fF (a : Int → Int → (List Int) → (List Int) → Option ((List Int) × Bool)) (b : Int → Int → Bool → (List Int) → Option ((List Int) × Bool)) (c : List aE) (d : Int) (e : Int) (f : Int) (g : Bool) (h : aJ) (i : List Int) (j : List Int) : Nat → Int → (List Int) → Option ((List Int) × Bool)
 | 0, _, _ => none
 | r + 1, s, t =>
  bif decide (s < (c.length : Int)) then ((idx c s).bind fun k =>
  (bif decide (k.Kind = 5) then ((idx c s).bind fun l =>
  some (decide (l.Place = e))) else (some false)).bind fun m =>
  (bif m then ((idx c s).bind fun n =>
  some (decide (n.Old = f))) else (some false)).bind fun o =>
  bif o then ((idx c s).bind fun p =>
  (app 8 t ([p.Player])).bind fun q =>
  (fF a b c d e f g h i j r) (w64 (s + 1)) q)
  else ((fF a b c d e f g h i j r) (w64 (s + 1)) t))
  else (lI a b c d e f g h i t j)
def sL (a : Int → Int → (List Int) → (List Int) → Option ((List Int) × Bool)) (_ : List aE) (b : Int) (c : Int) (_ : aJ) (d : List Int) (e : List Int) : Option ((List Int) × Bool) :=
  a b (w64 (c + 1)) d e
def oB (a : Int → Int → (List Int) → (List Int) → Option ((List Int) × Bool)) (b : List aE) (c : Int) (d : Int) (e : Int) (f : aJ) (g : List Int) (h : List Int) : Option ((List Int) × Bool) :=
  (app 8 g ([e])).bind fun i =>
  sL a b c d f i h
def iY (a : Int → Int → (List Int) → (List Int) → Option ((List Int) × Bool)) (b : List aE) (c : Int) (d : aJ) (e : List Int) : Nat → Int → Int → Bool → (List Int) → Option ((List Int) × Bool)
 | 0, _, _, _, _ => none
 | f + 1, g, h, i, j =>
  bif i then (fF a (iY a b c d e f) b g c h false d e j BIG 0 ([] : List Int))
  else (oB a b g c h d e j)
def sM (a : Int) (b : List Int) : Option ((List Int) × Bool) :=
  some (b, decide (a = 0))
def fG (a : List aE) (b : List Int) : Nat → Int → Int → Option ((List Int) × Bool)
 | 0, _, _ => none
 | d + 1, e, f =>
  bif decide (f < (a.length : Int)) then ((idx a f).bind fun c =>
  bif decide (c.Kind = 5) then ((fG a b d) (w64 (e - 1)) (w64 (f + 1)))
  else ((fG a b d) e (w64 (f + 1))))
  else (sM e b)
def sK (a : List aE) (b : Int) (c : List Int) : Option ((List Int) × Bool) :=
  fG a c BIG b 0
def gM (a : List aE) (b : aJ) : Nat → Int → Int → (List Int) → (List Int) → Option ((List Int) × Bool)
 | 0, _, _, _, _ => none
 | d + 1, e, f, g, h =>
  bif decide (f < (b.Slots.length : Int)) then ((idx b.Slots f).bind fun c =>
  iY (gM a b d) a f b g BIG e c true h)
  else (sK a e g)
def qG (a : aJ) (b : List aE) : Option ((List Int) × Bool) :=
  (pY b).bind fun c =>
  (app 8 ([] : List Int) a.Slots).bind fun d =>
  gM c a BIG 0 0 ([] : List Int) d
def uM (a : Int → (List (List Int)) → (List Int) → Option (aQ × Bool)) (_ : List aE) (_ : List Int) (b : Int) (_ : aJ) (_ : aQ) (c : List (List Int)) (d : List Int) : Option (aQ × Bool) :=
  a (w64 (b + 1)) c d
def kZ (a : Int → (List (List Int)) → (List Int) → Option (aQ × Bool)) (b : List aE) (c : List Int) (d : Int) (e : aJ) (f : aQ) (g : List (List Int)) (h : List Int) (i : List Int) : Option (aQ × Bool) :=
  (app 24 g [i]).bind fun j =>
  uM a b c d e f j h
def eD (a : Int → (List (List Int)) → (List Int) → Option (aQ × Bool)) (b : List aE) (c : List Int) (d : Int) (e : aJ) (f : aQ) (g : List (List Int)) (h : List Int) : Nat → Int → (List Int) → Option (aQ × Bool)
 | 0, _, _ => none
 | w + 1, x, y =>
  (lP e d).bind fun i =>
  bif decide (x < i) then ((bif decide (d = 0) then ((idx c (w64 (2 * x))).bind fun j =>
  some (decide (j = (-1)))) else (some false)).bind fun k =>
  bif k then ((idx c (w64 ((w64 (2 * x)) + 1))).bind fun l =>
  (bif decide (d = 0) then ((idx c (w64 ((w64 (2 * x)) + 1))).bind fun m =>
  some (decide (m = (-1)))) else (some false)).bind fun n =>
  bif n then ((idx c (w64 (2 * x))).bind fun o =>
  (app 8 y ([o])).bind fun p =>
  (eD a b c d e f g h w) (w64 (x + 1)) p)
  else ((app 8 y ([l])).bind fun q =>
  (eD a b c d e f g h w) (w64 (x + 1)) q))
  else ((bif decide (d = 0) then ((idx c (w64 ((w64 (2 * x)) + 1))).bind fun r =>
  some (decide (r = (-1)))) else (some false)).bind fun s =>
  bif s then ((idx c (w64 (2 * x))).bind fun t =>
  (app 8 y ([t])).bind fun u =>
  (eD a b c d e f g h w) (w64 (x + 1)) u)
  else ((app 8 y ([(-2)])).bind fun v =>
  (eD a b c d e f g h w) (w64 (x + 1)) v)))
  else (kZ a b c d e f g h y)
def nD (a : Int → aQ → (List (List Int)) → Option (aQ × Bool)) (_ : List Int) (_ : List aE) (b : Int) (c : aQ) (d : List (List Int)) (_ : List Int) : Option (aQ × Bool) :=
  a (w64 (b + 1)) c d
def tY (a : Int → aQ → (List (List Int)) → Option (aQ × Bool)) (b : List Int) (c : List aE) (d : Int) (e : aQ) (f : List (List Int)) (g : List Int) : Option (aQ × Bool) :=
  nD a b c d e f g
def iL (a : Int → aQ → (List (List Int)) → Option (aQ × Bool)) (b : List Int) (c : List aE) (d : Int) (e : Int) (f : List Int) (g : aE) : Nat → Int → aQ → (List (List Int)) → Option (aQ × Bool)
 | 0, _, _, _ => none
 | n + 1, o, p, q =>
  bif decide (o ≤ g.Round) then ((chk (decide (0 ≤ (IntKind.u64.wrap (w64 (o + 1)))))).bind fun _ =>
  (idx q o).bind fun h =>
  (idx h (e.fdiv (2 ^ (min (IntKind.u64.wrap (w64 (o + 1))).toNat 64)))).bind fun i =>
  (bif !decide (i = (-2)) then ((idx q o).bind fun j =>
  (idx j (e.fdiv (2 ^ (min (IntKind.u64.wrap (w64 (o + 1))).toNat 64)))).bind fun k =>
  some (!decide (k = g.Player))) else (some false)).bind fun l =>
  bif l then (some ((aQ.mk ([] : List Int) ([] : List (List Int))), false))
  else ((idx q o).bind fun m =>
  (idx m (e.fdiv (2 ^ (min (IntKind.u64.wrap (w64 (o + 1))).toNat 64)))).bind fun _ =>
  (iL a b c d e f g n) (w64 (o + 1)) p (q.set o.toNat (m.set (e.fdiv (2 ^ (min (IntKind.u64.wrap (w64 (o + 1))).toNat 64))).toNat g.Player))))
  else (tY a b c d p q f)
def gP (a : Int → aQ → (List (List Int)) → Option (aQ × Bool)) (b : List Int) (c : List aE) (d : Int) (e : Int) (f : aQ) (g : List (List Int)) (h : List Int) (i : aE) : Option (aQ × Bool) :=
  (bif decide (e < 0) then (some true) else ((chk (decide (0 ≤ (IntKind.u64.wrap (w64 (i.Round + 1)))))).bind fun _ =>
  some (!decide ((e.fdiv (2 ^ (min (IntKind.u64.wrap (w64 (i.Round + 1))).toNat 64))) = i.Place)))).bind fun j =>
  bif j then (some ((aQ.mk ([] : List Int) ([] : List (List Int))), false))
  else (iL a b c d e h i BIG 0 f g)
def dR (a : Int → aQ → (List (List Int)) → Option (aQ × Bool)) (b : List Int) (c : List aE) (d : Int) (e : aQ) (f : List (List Int)) (g : List Int) (h : aE) : Nat → Int → Int → Option (aQ × Bool)
 | 0, _, _ => none
 | j + 1, k, l =>
  bif decide (l < (b.length : Int)) then ((idx b l).bind fun i =>
  bif decide (i = h.Player) then ((dR a b c d e f g h j) l (w64 (l + 1)))
  else ((dR a b c d e f g h j) k (w64 (l + 1))))
  else (gP a b c d k e f g h)
def qH (a : Int → aQ → (List (List Int)) → Option (aQ × Bool)) (b : List Int) (c : List aE) (d : Int) (e : aQ) (f : List (List Int)) (g : List Int) (h : aE) : Option (aQ × Bool) :=
  dR a b c d e f g h BIG (-1) 0
def jB (a : Int → aQ → (List (List Int)) → Option (aQ × Bool)) (b : List Int) (c : List aE) (d : Int) (e : List (List Int)) (f : List Int) (g : aE) : Nat → Int → aQ → Option (aQ × Bool)
 | 0, _, _ => none
 | k + 1, l, m =>
  bif decide (l < d) then ((idx c l).bind fun h =>
  (bif !decide (h.Kind = 5) then (some (decide (h.Round = g.Round))) else (some false)).bind fun i =>
  (bif i then (some (decide (h.Place = g.Place))) else (some false)).bind fun j =>
  bif j then (some ((aQ.mk ([] : List Int) ([] : List (List Int))), false))
  else ((jB a b c d e f g k) (w64 (l + 1)) m))
  else (qH a b c d m e f g)
def uN (_ : aQ) (a : List (List Int)) (b : List Int) : Option (aQ × Bool) :=
  some ((aQ.mk b a), true)
def eE (a : List Int) (b : List aE) (c : List Int) : Nat → Int → aQ → (List (List Int)) → Option (aQ × Bool)
 | 0, _, _, _ => none
 | e + 1, f, g, h =>
  bif decide (f < (b.length : Int)) then ((idx b f).bind fun d =>
  bif decide (d.Kind = 5) then (nD (eE a b c e) a b f g h c)
  else (jB (eE a b c e) a b f h c d BIG 0 g))
  else (uN g h c)
def kY (a : List aE) (b : List Int) (c : aQ) (d : List (List Int)) (e : List Int) : Option (aQ × Bool) :=
  (pY a).bind fun f =>
  eE b f e BIG 0 c d
def jA (a : List aE) (b : List Int) (c : aJ) (d : aQ) : Nat → Int → (List (List Int)) → (List Int) → Option (aQ × Bool)
 | 0, _, _, _ => none
 | e + 1, f, g, h =>
  bif decide (f < c.Rounds) then (eD (jA a b c d e) a b f c d g h BIG 0 ([] : List Int))
  else (kY a b d g h)
def fJ (a : aJ) (b : List aE) : Option (aQ × Bool) :=
  (qG a b).bind fun c =>
  bif !c.2 then (some ((aQ.mk ([] : List Int) ([] : List (List Int))), false))
  else (jA b c.1 a (aQ.mk ([] : List Int) ([] : List (List Int))) BIG 0 ([] : List (List Int)) c.1)
def kJ (a : List aE) (b : aJ) : Option Int :=
  (fJ b a).bind fun c =>
  bif !c.2 then (some 72)
  else (some 0)
def iJ (a : List aE) (b : aJ) : Nat → Int → Option Int
 | 0, _ => none
 | e + 1, f =>
  bif decide (f < (a.length : Int)) then ((idx a f).bind fun c =>
  (rC b c).bind fun d =>
  bif !d then (some 71)
  else ((iJ a b e) (w64 (f + 1))))
  else (kJ a b)
def kM (a : aJ) (b : List aE) : Option Int :=
  (nS a).bind fun c =>
  bif !c then (some 70)
  else (bif decide (60 < (b.length : Int)) then (some 71)
  else (iJ b a BIG 0))
def rM (a : aQ) (b : Int) (c : Int) (d : Int) : Option Int :=
  bif decide (b = 0) then ((idx a.Slots (w64 ((w64 (2 * c)) + d))).bind fun e =>
  some e)
  else ((idx a.Must (w64 (b - 1))).bind fun f =>
  (idx f (w64 ((w64 (2 * c)) + d))).bind fun g =>
  some g)
def tX (a : Int → (List bX) → Option ((List bX))) (b : Int) (_ : aJ) (_ : aQ) (c : List bX) : Option ((List bX)) :=
  a (w64 (b + 1)) c
def mP (a : Int → (List bX) → Option ((List bX))) (b : Int) (c : aJ) (d : aQ) (e : List bX) : Option ((List bX)) :=
  tX a b c d e
def iK (a : Int → (List bX) → Option ((List bX))) (b : Int) (c : aJ) (d : aQ) : Nat → Int → (List bX) → Option ((List bX))
 | 0, _, _ => none
 | i + 1, j, k =>
  (lP c b).bind fun e =>
  bif decide (j < e) then ((rM d b j 0).bind fun f =>
  (rM d b j 1).bind fun g =>
  (app 32 k ([(bX.mk b j f g)])).bind fun h =>
  (iK a b c d i) (w64 (j + 1)) h)
  else (mP a b c d k)
def tW (a : List bX) : Option ((List bX)) :=
  some a
def eL (a : aJ) (b : aQ) : Nat → Int → (List bX) → Option ((List bX))
 | 0, _, _ => none
 | c + 1, d, e =>
  bif decide (d < a.Rounds) then (iK (eL a b c) d a b BIG 0 e)
  else (tW e)
def rX (a : aJ) (b : aQ) : Option ((List bX)) :=
  eL a b BIG 0 ([] : List bX)
def kL (a : aJ) (b : List aE) : Option ((List bX) × Int) :=
  (kM a b).bind fun c =>
  bif !decide (c = 0) then (some (([] : List bX), c))
  else ((fJ a b).bind fun d =>
  (rX a d.1).bind fun e =>
  some (e, 0))
def iZ (a : aJ) (b : List aE) (c : Int) (d : Int) : Option Int :=
  (kM a b).bind fun e =>
  bif !decide (e = 0) then (some e)
  else ((nC a c d).bind fun f =>
  bif !f then (some 1)
  else (some 0))
def qI (a : Int) : Option Int :=
  some a
def lA (a : Int) (b : aJ) (c : aQ) : Nat → Int → Option Int
 | 0, _ => none
 | k + 1, l =>
  (bif decide (l < b.Rounds) then ((idx c.Must l).bind fun d =>
  (chk (decide (0 ≤ (IntKind.u64.wrap (w64 (l + 1)))))).bind fun _ =>
  (idx d (a.fdiv (2 ^ (min (IntKind.u64.wrap (w64 (l + 1))).toNat 64)))).bind fun e =>
  (bif decide (e = (-2)) then (some true) else ((idx c.Must l).bind fun f =>
  (chk (decide (0 ≤ (IntKind.u64.wrap (w64 (l + 1)))))).bind fun _ =>
  (idx f (a.fdiv (2 ^ (min (IntKind.u64.wrap (w64 (l + 1))).toNat 64)))).bind fun g =>
  (idx c.Slots a).bind fun h =>
  some (decide (g = h)))).bind fun i =>
  some i) else (some false)).bind fun j =>
  bif j then ((lA a b c k) (w64 (l + 1)))
  else (qI l)
def tB (a : aJ) (b : aQ) (c : Int) : Option Int :=
  lA c a b BIG 0
def tD (a : Int → (List Int) → Option ((List Int))) (_ : List Int) (b : Int) (c : List Int) : Option ((List Int)) :=
  a (w64 (b + 1)) c
def oU (a : Int → (List Int) → Option ((List Int))) (b : List Int) (c : Int) (d : List Int) : Option ((List Int)) :=
  tD a b c d
def jM (a : Int → (List Int) → Option ((List Int))) (b : List Int) (c : Int) : Nat → Int → (List Int) → Option ((List Int))
 | 0, _, _ => none
 | i + 1, j, k =>
  (bif decide (0 < j) then ((idx k j).bind fun d =>
  (idx k (w64 (j - 1))).bind fun e =>
  some (decide (d < e))) else (some false)).bind fun f =>
  bif f then ((idx k (w64 (j - 1))).bind fun g =>
  (idx k j).bind fun h =>
  (idx k j).bind fun _ =>
  (idx (k.set j.toNat g) (w64 (j - 1))).bind fun _ =>
  (jM a b c i) (w64 (j - 1)) ((k.set j.toNat g).set (w64 (j - 1)).toNat h))
  else (oU a b c k)
def tC (a : List Int) : Option ((List Int)) :=
  some a
def jL (a : List Int) : Nat → Int → (List Int) → Option ((List Int))
 | 0, _, _ => none
 | d + 1, e, f =>
  bif decide (e < (a.length : Int)) then ((idx a e).bind fun b =>
  (app 8 f ([b])).bind fun c =>
  jM (jL a d) a e BIG (w64 ((c.length : Int) - 1)) c)
  else (tC f)
def rD (a : List Int) : Option ((List Int)) :=
  jL a BIG 0 ([] : List Int)
def vG (a : List Int) : Option ((List Int) × Int) :=
  (rD a).bind fun b =>
  some (b, 0)
def fY (a : Int) (b : Int) (c : aJ) (d : aQ) : Nat → Int → (List Int) → Option ((List Int) × Int)
 | 0, _, _ => none
 | k + 1, l, m =>
  bif decide (l < (d.Slots.length : Int)) then ((idx d.Slots l).bind fun e =>
  (bif !decide (e = (-1)) then ((chk (decide (0 ≤ (IntKind.u64.wrap (w64 (a + 1)))))).bind fun _ =>
  some (decide ((l.fdiv (2 ^ (min (IntKind.u64.wrap (w64 (a + 1))).toNat 64))) = b))) else (some false)).bind fun f =>
  (bif f then ((tB c d l).bind fun g =>
  some (decide (a < g))) else (some false)).bind fun h =>
  bif h then ((idx d.Slots l).bind fun i =>
  (app 8 m ([i])).bind fun j =>
  (fY a b c d k) (w64 (l + 1)) j)
  else ((fY a b c d k) (w64 (l + 1)) m))
  else (vG m)
def iX (a : aJ) (b : List aE) (c : Int) (d : Int) : Option ((List Int) × Int) :=
  (iZ a b c d).bind fun e =>
  bif !decide (e = 0) then (some (([] : List Int), e))
  else ((fJ a b).bind fun f =>
  fY c d a f.1 BIG 0 ([] : List Int))
end Go.Am
