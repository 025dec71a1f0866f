/- Shallow functions, printed by program. -/
import Derived.Test.YtiohgpipanopaaaGreatAmClose
namespace Go.Am
def oJ(x:List Int):List D:=[.sl 1 (x.map aD)]
structure aF where
 Rounds:Int
 Slots:List Int
 deriving DecidableEq,Inhabited
def aV(x:aF):List D:=[.lit (.int .i64 x.Rounds),.sl 1 (x.Slots.map aD)]
structure aB where
 Kind:Int
 Round:Int
 Place:Int
 Player:Int
 Old:Int
 deriving DecidableEq,Inhabited
def aK(x:aB):List D:=[.lit (.int .i64 x.Kind),.lit (.int .i64 x.Round),.lit (.int .i64 x.Place),.lit (.int .i64 x.Player),.lit (.int .i64 x.Old)]
structure aJ where
 Slots:List Int
 Must:List (List Int)
 deriving DecidableEq,Inhabited
def cA(x:aJ):List D:=[.sl 1 (x.Slots.map aD),.sl 1 (x.Must.map oJ)]
structure aN where
 Round:Int
 Place:Int
 One:Int
 Two:Int
 deriving DecidableEq,Inhabited
def cY(x:aN):List D:=[.lit (.int .i64 x.Round),.lit (.int .i64 x.Place),.lit (.int .i64 x.One),.lit (.int .i64 x.Two)]
structure aX where
 Low:Int
 High:Int
 deriving DecidableEq,Inhabited
def bX(x:aX):List D:=[.lit (.int .i64 x.Low),.lit (.int .i64 x.High)]
def dU(a:Int)(b:Int)(c:Int):Option Bool:=
  (bif decide (b<=a) then(some (decide (a<=c))) else(some false)).bind λd=>
  some d
def vB(a:Int->Option Bool)(b:Int)(_:aF):Option Bool:=
  a (w64 (b+1))
def vC(a:Int->Option Bool)(b:Int)(c:aF):Option Bool:=
  vB a b c
def gJ(a:Int->Option Bool)(b:Int)(c:aF):Nat->Int->Option Bool
 |0,_=>none
 | h+1,i=>
  bif decide (i<b) then((idx c.Slots i).bind λd=>
  (idx c.Slots b).bind λe=>
  (bif decide (d=e) then((idx c.Slots b).bind λf=>
  some (!decide (f=(-1)))) else(some false)).bind λg=>
  bif g then(some false)
  else((gJ a b c h) (w64 (i+1))))
  else(vC a b c)
def uZ:Option Bool:=
  some true
def gI(a:aF):Nat->Int->Option Bool
 |0,_=>none
 | i+1,j=>
  bif decide (j<(a.Slots.length:Int)) then((idx a.Slots j).bind λb=>
  (dU b (-1) 999).bind λc=>
  (bif !c then(some true) else((bif decide ((j.tmod 2)=1) then((idx a.Slots j).bind λd=>
  some (decide (d=(-1)))) else(some false)).bind λe=>
  (bif e then((idx a.Slots (w64 (j-1))).bind λf=>
  some (decide (f=(-1)))) else(some false)).bind λg=>
  some g)).bind λh=>
  bif h then(some false)
  else(gJ (gI a i) j a BIG 0))
  else(uZ)
def nG(a:aF):Option Bool:=
  (dU a.Rounds 1 5).bind λb=>
  (bif !b then(some true) else((chk (decide (0<=(IntKind.u64.wrap a.Rounds)))).bind λ_=>
  some (!decide ((a.Slots.length:Int)=(w64 (1*2^(min (IntKind.u64.wrap a.Rounds).toNat 64))))))).bind λc=>
  bif c then(some false)
  else(gI a BIG 0)
def jW(a:aF)(b:Int):Option Int:=
  (chk (decide (0<=(IntKind.u64.wrap (w64 ((w64 (a.Rounds-1))-b)))))).bind λ_=>
  some (w64 (1*2^(min (IntKind.u64.wrap (w64 ((w64 (a.Rounds-1))-b))).toNat 64)))
def lV(a:aF)(b:Int)(c:Int):Option Bool:=
  (dU b 0 (w64 (a.Rounds-1))).bind λd=>
  (bif d then((jW a b).bind λe=>
  (dU c 0 (w64 (e-1))).bind λf=>
  some f) else(some false)).bind λg=>
  some g
def qI(a:aF)(b:aB):Option Bool:=
  (dU b.Player 0 999).bind λc=>
  bif !c then(some false)
  else(bif decide (b.Kind=5) then((bif decide (b.Round=0) then((dU b.Place 0 (w64 ((a.Slots.length:Int)-1))).bind λd=>
  some d) else(some false)).bind λe=>
  (bif e then((dU b.Old 0 999).bind λf=>
  some f) else(some false)).bind λg=>
  some g)
  else((dU b.Kind 1 4).bind λh=>
  (bif !h then(some true) else((lV a b.Round b.Place).bind λi=>
  some (!i))).bind λj=>
  (bif j then(some true) else(some (!decide (b.Old=0)))).bind λk=>
  bif k then(some false)
  else((bif decide (0<b.Round) then(some true) else((idx a.Slots (w64 (2*b.Place))).bind λl=>
  (bif !decide (l=(-1)) then((idx a.Slots (w64 ((w64 (2*b.Place))+1))).bind λm=>
  some (!decide (m=(-1)))) else(some false)).bind λn=>
  some n)).bind λo=>
  some o)))
def mB(a:Int->(List aB)->Option ((List aB)))(_:List aB)(b:Int)(c:List aB):Option ((List aB)):=
  a (w64 (b+1)) c
def pB(a:Int->(List aB)->Option ((List aB)))(b:List aB)(c:Int)(d:Bool)(e:List aB):Option ((List aB)):=
  bif !d then((idx b c).bind λf=>
  (app 40 e ([f])).bind λg=>
  mB a b c g)
  else(mB a b c e)
def iV(a:Int->(List aB)->Option ((List aB)))(b:List aB)(c:Int)(d:List aB):Nat->Bool->Int->Option ((List aB))
 |0,_,_=>none
 | h+1,i,j=>
  bif decide (j<(d.length:Int)) then((bif i then(some true) else((idx d j).bind λe=>
  (idx b c).bind λf=>
  some (decide (e=f)))).bind λg=>
  (iV a b c d h) g (w64 (j+1)))
  else(pB a b c i d)
def xN(a:List aB):Option ((List aB)):=
  some a
def eM(a:List aB):Nat->Int->(List aB)->Option ((List aB))
 |0,_,_=>none
 | b+1,c,d=>
  bif decide (c<(a.length:Int)) then(iV (eM a b) a c d BIG false 0)
  else(xN d)
def pT(a:List aB):Option ((List aB)):=
  eM a BIG 0 ([]:List aB)
def zW:Option Bool:=
  some false
def lU(a:List Int)(b:Int):Nat->Int->Option Bool
 |0,_=>none
 | d+1,e=>
  bif decide (e<(a.length:Int)) then((idx a e).bind λc=>
  bif decide (c=b) then(some true)
  else((lU a b d) (w64 (e+1))))
  else(zW)
def vN(a:List Int)(b:Int):Option Bool:=
  lU a b BIG 0
def kJ(_:Int->Int->(List Int)->(List Int)->Option ((List Int)×Bool))(a:Int->Int->Bool->(List Int)->Option ((List Int)×Bool))(_:List aB)(b:Int)(_:Int)(c:Int)(d:Bool)(_:aF)(_:List Int)(e:List Int):Option ((List Int)×Bool):=
  a b c d e
def lX(a:Int->Int->(List Int)->(List Int)->Option ((List Int)×Bool))(b:Int->Int->Bool->(List Int)->Option ((List Int)×Bool))(c:List aB)(d:Int)(e:Int)(f:Int)(g:Bool)(h:aF)(i:List Int)(j:List Int)(k:List Int):Option ((List Int)×Bool):=
  (bif decide (1<(j.length:Int)) then(some true) else((bif decide ((j.length:Int)=1) then((idx j 0).bind λl=>
  (vN k l).bind λm=>
  some m) else(some false)).bind λn=>
  some n)).bind λo=>
  bif o then(some (([]:List Int),false))
  else(bif decide ((j.length:Int)=1) then((idx j 0).bind λp=>
  (app 8 k ([p])).bind λq=>
  kJ a b c (w64 (d+1)) e p true h i q)
  else(kJ a b c d e f g h i k))
def fE(a:Int->Int->(List Int)->(List Int)->Option ((List Int)×Bool))(b:Int->Int->Bool->(List Int)->Option ((List Int)×Bool))(c:List aB)(d:Int)(e:Int)(f:Int)(g:Bool)(h:aF)(i:List Int)(j:List Int):Nat->Int->(List Int)->Option ((List Int)×Bool)
 |0,_,_=>none
 | r+1,s,t=>
  bif decide (s<(c.length:Int)) then((idx c s).bind λk=>
  (bif decide (k.Kind=5) then((idx c s).bind λl=>
  some (decide (l.Place=e))) else(some false)).bind λm=>
  (bif m then((idx c s).bind λn=>
  some (decide (n.Old=f))) else(some false)).bind λo=>
  bif o then((idx c s).bind λp=>
  (app 8 t ([p.Player])).bind λq=>
  (fE a b c d e f g h i j r) (w64 (s+1)) q)
  else((fE a b c d e f g h i j r) (w64 (s+1)) t))
  else(lX a b c d e f g h i t j)
def tS(a:Int->Int->(List Int)->(List Int)->Option ((List Int)×Bool))(_:List aB)(b:Int)(c:Int)(_:aF)(d:List Int)(e:List Int):Option ((List Int)×Bool):=
  a b (w64 (c+1)) d e
def pS(a:Int->Int->(List Int)->(List Int)->Option ((List Int)×Bool))(b:List aB)(c:Int)(d:Int)(e:Int)(f:aF)(g:List Int)(h:List Int):Option ((List Int)×Bool):=
  (app 8 g ([e])).bind λi=>
  tS a b c d f i h
def gF(a:Int->Int->(List Int)->(List Int)->Option ((List Int)×Bool))(b:List aB)(c:Int)(d:aF)(e:List Int):Nat->Int->Int->Bool->(List Int)->Option ((List Int)×Bool)
 |0,_,_,_,_=>none
 | f+1,g,h,i,j=>
  bif i then(fE a (gF a b c d e f) b g c h false d e j BIG 0 ([]:List Int))
  else(pS a b g c h d e j)
def tT(a:Int)(b:List Int):Option ((List Int)×Bool):=
  some (b,decide (a=0))
def fF(a:List aB)(b:List Int):Nat->Int->Int->Option ((List Int)×Bool)
 |0,_,_=>none
 | d+1,e,f=>
  bif decide (f<(a.length:Int)) then((idx a f).bind λc=>
  bif decide (c.Kind=5) then((fF a b d) (w64 (e-1)) (w64 (f+1)))
  else((fF a b d) e (w64 (f+1))))
  else(tT e b)
def tR(a:List aB)(b:Int)(c:List Int):Option ((List Int)×Bool):=
  fF a c BIG b 0
def dZ(a:List aB)(b:aF):Nat->Int->Int->(List Int)->(List Int)->Option ((List Int)×Bool)
 |0,_,_,_,_=>none
 | d+1,e,f,g,h=>
  bif decide (f<(b.Slots.length:Int)) then((idx b.Slots f).bind λc=>
  gF (dZ a b d) a f b g BIG e c true h)
  else(tR a e g)
def oZ(a:aF)(b:List aB):Option ((List Int)×Bool):=
  (pT b).bind λc=>
  (app 8 ([]:List Int) a.Slots).bind λd=>
  dZ c a BIG 0 0 ([]:List Int) d
def xK(a:Int->(List (List Int))->(List Int)->Option (aJ×Bool))(_:List aB)(_:List Int)(b:Int)(_:aF)(_:aJ)(c:List (List Int))(d:List Int):Option (aJ×Bool):=
  a (w64 (b+1)) c d
def lZ(a:Int->(List (List Int))->(List Int)->Option (aJ×Bool))(b:List aB)(c:List Int)(d:Int)(e:aF)(f:aJ)(g:List (List Int))(h:List Int)(i:List Int):Option (aJ×Bool):=
  (app 24 g [i]).bind λj=>
  xK a b c d e f j h
def eL(a:Int->(List (List Int))->(List Int)->Option (aJ×Bool))(b:List aB)(c:List Int)(d:Int)(e:aF)(f:aJ)(g:List (List Int))(h:List Int):Nat->Int->(List Int)->Option (aJ×Bool)
 |0,_,_=>none
 | w+1,x,y=>
  (jW e d).bind λi=>
  bif decide (x<i) then((bif decide (d=0) then((idx c (w64 (2*x))).bind λj=>
  some (decide (j=(-1)))) else(some false)).bind λk=>
  bif k then((idx c (w64 ((w64 (2*x))+1))).bind λl=>
  (bif decide (d=0) then((idx c (w64 ((w64 (2*x))+1))).bind λm=>
  some (decide (m=(-1)))) else(some false)).bind λn=>
  bif n then((idx c (w64 (2*x))).bind λo=>
  (app 8 y ([o])).bind λp=>
  (eL a b c d e f g h w) (w64 (x+1)) p)
  else((app 8 y ([l])).bind λq=>
  (eL a b c d e f g h w) (w64 (x+1)) q))
  else((bif decide (d=0) then((idx c (w64 ((w64 (2*x))+1))).bind λr=>
  some (decide (r=(-1)))) else(some false)).bind λs=>
  bif s then((idx c (w64 (2*x))).bind λt=>
  (app 8 y ([t])).bind λu=>
  (eL a b c d e f g h w) (w64 (x+1)) u)
  else((app 8 y ([(-2)])).bind λv=>
  (eL a b c d e f g h w) (w64 (x+1)) v)))
  else(lZ a b c d e f g h y)
def mA(a:Int->aJ->(List (List Int))->Option (aJ×Bool))(_:List Int)(_:List aB)(b:Int)(c:aJ)(d:List (List Int))(_:List Int):Option (aJ×Bool):=
  a (w64 (b+1)) c d
def wF(a:Int->aJ->(List (List Int))->Option (aJ×Bool))(b:List Int)(c:List aB)(d:Int)(e:aJ)(f:List (List Int))(g:List Int):Option (aJ×Bool):=
  mA a b c d e f g
def iA(a:Int->aJ->(List (List Int))->Option (aJ×Bool))(b:List Int)(c:List aB)(d:Int)(e:Int)(f:List Int)(g:aB):Nat->Int->aJ->(List (List Int))->Option (aJ×Bool)
 |0,_,_,_=>none
 | n+1,o,p,q=>
  bif decide (o<=g.Round) then((chk (decide (0<=(IntKind.u64.wrap (w64 (o+1)))))).bind λ_=>
  (idx q o).bind λh=>
  (idx h (e.fdiv (2^(min (IntKind.u64.wrap (w64 (o+1))).toNat 64)))).bind λi=>
  (bif !decide (i=(-2)) then((idx q o).bind λj=>
  (idx j (e.fdiv (2^(min (IntKind.u64.wrap (w64 (o+1))).toNat 64)))).bind λk=>
  some (!decide (k=g.Player))) else(some false)).bind λl=>
  bif l then(some ((aJ.mk ([]:List Int) ([]:List (List Int))),false))
  else((idx q o).bind λm=>
  (idx m (e.fdiv (2^(min (IntKind.u64.wrap (w64 (o+1))).toNat 64)))).bind λ_=>
  (iA a b c d e f g n) (w64 (o+1)) p (q.set o.toNat (m.set (e.fdiv (2^(min (IntKind.u64.wrap (w64 (o+1))).toNat 64))).toNat g.Player))))
  else(wF a b c d p q f)
def iT(a:Int->aJ->(List (List Int))->Option (aJ×Bool))(b:List Int)(c:List aB)(d:Int)(e:Int)(f:aJ)(g:List (List Int))(h:List Int)(i:aB):Option (aJ×Bool):=
  (bif decide (e<0) then(some true) else((chk (decide (0<=(IntKind.u64.wrap (w64 (i.Round+1)))))).bind λ_=>
  some (!decide ((e.fdiv (2^(min (IntKind.u64.wrap (w64 (i.Round+1))).toNat 64)))=i.Place)))).bind λj=>
  bif j then(some ((aJ.mk ([]:List Int) ([]:List (List Int))),false))
  else(iA a b c d e h i BIG 0 f g)
def eA(a:Int->aJ->(List (List Int))->Option (aJ×Bool))(b:List Int)(c:List aB)(d:Int)(e:aJ)(f:List (List Int))(g:List Int)(h:aB):Nat->Int->Int->Option (aJ×Bool)
 |0,_,_=>none
 | j+1,k,l=>
  bif decide (l<(b.length:Int)) then((idx b l).bind λi=>
  bif decide (i=h.Player) then((eA a b c d e f g h j) l (w64 (l+1)))
  else((eA a b c d e f g h j) k (w64 (l+1))))
  else(iT a b c d k e f g h)
def sJ(a:Int->aJ->(List (List Int))->Option (aJ×Bool))(b:List Int)(c:List aB)(d:Int)(e:aJ)(f:List (List Int))(g:List Int)(h:aB):Option (aJ×Bool):=
  eA a b c d e f g h BIG (-1) 0
def iU(a:Int->aJ->(List (List Int))->Option (aJ×Bool))(b:List Int)(c:List aB)(d:Int)(e:List (List Int))(f:List Int)(g:aB):Nat->Int->aJ->Option (aJ×Bool)
 |0,_,_=>none
 | k+1,l,m=>
  bif decide (l<d) then((idx c l).bind λh=>
  (bif !decide (h.Kind=5) then(some (decide (h.Round=g.Round))) else(some false)).bind λi=>
  (bif i then(some (decide (h.Place=g.Place))) else(some false)).bind λj=>
  bif j then(some ((aJ.mk ([]:List Int) ([]:List (List Int))),false))
  else((iU a b c d e f g k) (w64 (l+1)) m))
  else(sJ a b c d m e f g)
def xL(_:aJ)(a:List (List Int))(b:List Int):Option (aJ×Bool):=
  some ((aJ.mk b a),true)
def dE(a:List Int)(b:List aB)(c:List Int):Nat->Int->aJ->(List (List Int))->Option (aJ×Bool)
 |0,_,_,_=>none
 | e+1,f,g,h=>
  bif decide (f<(b.length:Int)) then((idx b f).bind λd=>
  bif decide (d.Kind=5) then(mA (dE a b c e) a b f g h c)
  else(iU (dE a b c e) a b f h c d BIG 0 g))
  else(xL g h c)
def lY(a:List aB)(b:List Int)(c:aJ)(d:List (List Int))(e:List Int):Option (aJ×Bool):=
  (pT a).bind λf=>
  dE b f e BIG 0 c d
def gL(a:List aB)(b:List Int)(c:aF)(d:aJ):Nat->Int->(List (List Int))->(List Int)->Option (aJ×Bool)
 |0,_,_,_=>none
 | e+1,f,g,h=>
  bif decide (f<c.Rounds) then(eL (gL a b c d e) a b f c d g h BIG 0 ([]:List Int))
  else(lY a b d g h)
def cL(a:aF)(b:List aB):Option (aJ×Bool):=
  (oZ a b).bind λc=>
  bif !c.2 then(some ((aJ.mk ([]:List Int) ([]:List (List Int))),false))
  else(gL b c.1 a (aJ.mk ([]:List Int) ([]:List (List Int))) BIG 0 ([]:List (List Int)) c.1)
def lO(a:List aB)(b:aF):Option Int:=
  (cL b a).bind λc=>
  bif !c.2 then(some 72)
  else(some 0)
def gZ(a:List aB)(b:aF):Nat->Int->Option Int
 |0,_=>none
 | e+1,f=>
  bif decide (f<(a.length:Int)) then((idx a f).bind λc=>
  (qI b c).bind λd=>
  bif !d then(some 71)
  else((gZ a b e) (w64 (f+1))))
  else(lO a b)
def eS(a:aF)(b:List aB):Option Int:=
  (nG a).bind λc=>
  bif !c then(some 70)
  else(bif decide (60<(b.length:Int)) then(some 71)
  else(gZ b a BIG 0))
def rZ(a:aJ)(b:Int)(c:Int)(d:Int):Option Int:=
  bif decide (b=0) then((idx a.Slots (w64 ((w64 (2*c))+d))).bind λe=>
  some e)
  else((idx a.Must (w64 (b-1))).bind λf=>
  (idx f (w64 ((w64 (2*c))+d))).bind λg=>
  some g)
def wE(a:Int->(List aN)->Option ((List aN)))(b:Int)(_:aF)(_:aJ)(c:List aN):Option ((List aN)):=
  a (w64 (b+1)) c
def nU(a:Int->(List aN)->Option ((List aN)))(b:Int)(c:aF)(d:aJ)(e:List aN):Option ((List aN)):=
  wE a b c d e
def hZ(a:Int->(List aN)->Option ((List aN)))(b:Int)(c:aF)(d:aJ):Nat->Int->(List aN)->Option ((List aN))
 |0,_,_=>none
 | i+1,j,k=>
  (jW c b).bind λe=>
  bif decide (j<e) then((rZ d b j 0).bind λf=>
  (rZ d b j 1).bind λg=>
  (app 32 k ([(aN.mk b j f g)])).bind λh=>
  (hZ a b c d i) (w64 (j+1)) h)
  else(nU a b c d k)
def wD(a:List aN):Option ((List aN)):=
  some a
def eC(a:aF)(b:aJ):Nat->Int->(List aN)->Option ((List aN))
 |0,_,_=>none
 | c+1,d,e=>
  bif decide (d<a.Rounds) then(hZ (eC a b c) d a b BIG 0 e)
  else(wD e)
def qZ(a:aF)(b:aJ):Option ((List aN)):=
  eC a b BIG 0 ([]:List aN)
def jI(a:aF)(b:List aB):Option ((List aN)×Int):=
  (eS a b).bind λc=>
  bif !decide (c=0) then(some (([]:List aN),c))
  else((cL a b).bind λd=>
  (qZ a d.1).bind λe=>
  some (e,0))
def iJ(a:aF)(b:List aB)(c:Int)(d:Int):Option Int:=
  (eS a b).bind λe=>
  bif !decide (e=0) then(some e)
  else((lV a c d).bind λf=>
  bif !f then(some 1)
  else(some 0))
def eX(a:aF)(b:List aB)(c:Int)(d:Int):Option (Int×Int):=
  (iJ a b c d).bind λe=>
  bif !decide (e=0) then(some (0,e))
  else((cL a b).bind λf=>
  (idx f.1.Must c).bind λg=>
  (idx g d).bind λh=>
  bif decide (h=(-2)) then(some (0,3))
  else((idx f.1.Must c).bind λi=>
  (idx i d).bind λj=>
  some (j,0)))
def xM(a:Int):Option Int:=
  some a
def pA(a:Int)(b:aF)(c:aJ):Nat->Int->Option Int
 |0,_=>none
 | k+1,l=>
  (bif decide (l<b.Rounds) then((idx c.Must l).bind λd=>
  (chk (decide (0<=(IntKind.u64.wrap (w64 (l+1)))))).bind λ_=>
  (idx d (a.fdiv (2^(min (IntKind.u64.wrap (w64 (l+1))).toNat 64)))).bind λe=>
  (bif decide (e=(-2)) then(some true) else((idx c.Must l).bind λf=>
  (chk (decide (0<=(IntKind.u64.wrap (w64 (l+1)))))).bind λ_=>
  (idx f (a.fdiv (2^(min (IntKind.u64.wrap (w64 (l+1))).toNat 64)))).bind λg=>
  (idx c.Slots a).bind λh=>
  some (decide (g=h)))).bind λi=>
  some i) else(some false)).bind λj=>
  bif j then((pA a b c k) (w64 (l+1)))
  else(xM l)
def wS(a:aF)(b:aJ)(c:Int):Option Int:=
  pA c a b BIG 0
def aEa(a:Int->Int->Option (Int×Int))(b:Int)(c:Int)(_:aF)(_:aJ):Option (Int×Int):=
  a b (w64 (c+1))
def xJ(a:Int->Int->Option (Int×Int))(b:Int)(c:Int)(d:aF)(e:aJ):Option (Int×Int):=
  aEa a b c d e
def lW(a:Int->Int->Option (Int×Int))(b:Int)(c:aF)(d:aJ):Nat->Int->Int->Option (Int×Int)
 |0,_,_=>none
 | h+1,i,j=>
  (jW c b).bind λe=>
  bif decide (j<e) then((idx d.Must b).bind λf=>
  (idx f j).bind λg=>
  bif decide (g=(-2)) then((lW a b c d h) (w64 (i+1)) (w64 (j+1)))
  else((lW a b c d h) i (w64 (j+1))))
  else(xJ a i b c d)
def aDz(a:Int):Option (Int×Int):=
  some (a,0)
def gK(a:aF)(b:aJ):Nat->Int->Int->Option (Int×Int)
 |0,_,_=>none
 | c+1,d,e=>
  bif decide (e<a.Rounds) then(lW (gK a b c) e a b BIG d 0)
  else(aDz d)
def pQ(a:aF)(b:List aB):Option (Int×Int):=
  (eS a b).bind λc=>
  bif !decide (c=0) then(some (0,c))
  else((cL a b).bind λd=>
  gK a d.1 BIG 0 0)
def aEb:Option Int:=
  some (-1)
def pC(a:Int)(b:aJ):Nat->Int->Option Int
 |0,_=>none
 | d+1,e=>
  bif decide (e<(b.Slots.length:Int)) then((idx b.Slots e).bind λc=>
  bif decide (c=a) then(some e)
  else((pC a b d) (w64 (e+1))))
  else(aEb)
def pU(a:aJ)(b:Int):Option Int:=
  pC b a BIG 0
def sI(a:Int)(b:Int)(c:Int)(d:aF)(e:aJ):Option (Int×Int):=
  (wS d e a).bind λf=>
  (bif decide (f<c) then(some true) else((wS d e b).bind λg=>
  some (decide (g<c)))).bind λh=>
  bif h then(some (0,3))
  else(some (c,0))
def iS(a:Int)(b:Int)(c:aF)(d:aJ):Nat->Int->Option (Int×Int)
 |0,_=>none
 | e+1,f=>
  (chk (decide (0<=(IntKind.u64.wrap (w64 (f+1)))))).bind λ_=>
  (chk (decide (0<=(IntKind.u64.wrap (w64 (f+1)))))).bind λ_=>
  bif !decide ((a.fdiv (2^(min (IntKind.u64.wrap (w64 (f+1))).toNat 64)))=(b.fdiv (2^(min (IntKind.u64.wrap (w64 (f+1))).toNat 64)))) then((iS a b c d e) (w64 (f+1)))
  else(sI a b f c d)
def pR(a:aF)(b:List aB)(c:Int)(d:Int):Option (Int×Int):=
  (eS a b).bind λe=>
  bif !decide (e=0) then(some (0,e))
  else((dU c 0 999).bind λf=>
  (bif !f then(some true) else((dU d 0 999).bind λg=>
  some (!g))).bind λh=>
  (bif h then(some true) else(some (decide (c=d)))).bind λi=>
  bif i then(some (0,1))
  else((cL a b).bind λj=>
  (pU j.1 c).bind λk=>
  (pU j.1 d).bind λl=>
  (bif decide (k<0) then(some true) else(some (decide (l<0)))).bind λm=>
  bif m then(some (0,3))
  else(iS k l a j.1 BIG 0)))
end Go.Am
