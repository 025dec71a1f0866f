/- Shallow functions, printed by program. -/
import Derived.Test.YtdebnakalmnnpaaGreatDoorAmClose
namespace Go.Am
def sO(x:List Int):List D:=[.sl 1 (x.map aI)]
structure aD where
 Rounds:Int
 Slots:List Int
 deriving DecidableEq,Inhabited
def bB(x:aD):List D:=[.lit (.int .i64 x.Rounds),.sl 1 (x.Slots.map aI)]
structure aA where
 Kind:Int
 Round:Int
 Place:Int
 Player:Int
 Old:Int
 deriving DecidableEq,Inhabited
def aG(x:aA):List D:=[.lit (.int .i64 x.Kind),.lit (.int .i64 x.Round),.lit (.int .i64 x.Place),.lit (.int .i64 x.Player),.lit (.int .i64 x.Old)]
structure aF where
 Slots:List Int
 Must:List (List Int)
 deriving DecidableEq,Inhabited
def bT(x:aF):List D:=[.sl 1 (x.Slots.map aI),.sl 1 (x.Must.map sO)]
structure aE where
 Round:Int
 Place:Int
 One:Int
 Two:Int
 deriving DecidableEq,Inhabited
def bM(x:aE):List D:=[.lit (.int .i64 x.Round),.lit (.int .i64 x.Place),.lit (.int .i64 x.One),.lit (.int .i64 x.Two)]
def bEc(x:aD):Prop:=okI x.Rounds/\(okL okI) x.Slots
def eR(a:Int)(b:Int)(c:Int):Option Bool:=
  (bif decide (b<=a) then(some (decide (a<=c))) else(some false)).bind λd=>
  some d
def wA(a:Int->Option Bool)(b:Int)(_:aD):Option Bool:=
  a (w64 (b+1))
def wB(a:Int->Option Bool)(b:Int)(c:aD):Option Bool:=
  wA a b c
def gB(a:Int->Option Bool)(b:Int)(c:aD):Nat->Int->Option Bool
 |0,_=>none
 | h+1,i=>
  bif decide (i<b) then((idx c.Slots i).bind λd=>
  (idx c.Slots b).bind λe=>
  (bif decide (d=e) then((idx c.Slots b).bind λf=>
  some (!decide (f=(-1)))) else(some false)).bind λg=>
  bif g then(some false)
  else((gB a b c h) (w64 (i+1))))
  else(wB a b c)
def vZ:Option Bool:=
  some true
def gA(a:aD):Nat->Int->Option Bool
 |0,_=>none
 | i+1,j=>
  bif decide (j<(a.Slots.length:Int)) then((idx a.Slots j).bind λb=>
  (eR b (-1) 999).bind λc=>
  (bif !c then(some true) else((bif decide ((j.tmod 2)=1) then((idx a.Slots j).bind λd=>
  some (decide (d=(-1)))) else(some false)).bind λe=>
  (bif e then((idx a.Slots (w64 (j-1))).bind λf=>
  some (decide (f=(-1)))) else(some false)).bind λg=>
  some g)).bind λh=>
  bif h then(some false)
  else(gB (gA a i) j a BIG 0))
  else(vZ)
def nS(a:aD):Option Bool:=
  (eR a.Rounds 1 5).bind λb=>
  (bif !b then(some true) else((chk (decide (0<=(IntKind.u64.wrap a.Rounds)))).bind λ_=>
  some (!decide ((a.Slots.length:Int)=(w64 (1*2^(min (IntKind.u64.wrap a.Rounds).toNat 64))))))).bind λc=>
  bif c then(some false)
  else(gA a BIG 0)
def kV(a:aD)(b:Int):Option Int:=
  (chk (decide (0<=(IntKind.u64.wrap (w64 ((w64 (a.Rounds-1))-b)))))).bind λ_=>
  some (w64 (1*2^(min (IntKind.u64.wrap (w64 ((w64 (a.Rounds-1))-b))).toNat 64)))
def mG(a:aD)(b:Int)(c:Int):Option Bool:=
  (eR b 0 (w64 (a.Rounds-1))).bind λd=>
  (bif d then((kV a b).bind λe=>
  (eR c 0 (w64 (e-1))).bind λf=>
  some f) else(some false)).bind λg=>
  some g
def qQ(a:aD)(b:aA):Option Bool:=
  (eR b.Player 0 999).bind λc=>
  bif !c then(some false)
  else(bif decide (b.Kind=5) then((bif decide (b.Round=0) then((eR b.Place 0 (w64 ((a.Slots.length:Int)-1))).bind λd=>
  some d) else(some false)).bind λe=>
  (bif e then((eR b.Old 0 999).bind λf=>
  some f) else(some false)).bind λg=>
  some g)
  else((eR b.Kind 1 4).bind λh=>
  (bif !h then(some true) else((mG a b.Round b.Place).bind λi=>
  some (!i))).bind λj=>
  (bif j then(some true) else(some (!decide (b.Old=0)))).bind λk=>
  bif k then(some false)
  else((bif decide (0<b.Round) then(some true) else((idx a.Slots (w64 (2*b.Place))).bind λl=>
  (bif !decide (l=(-1)) then((idx a.Slots (w64 ((w64 (2*b.Place))+1))).bind λm=>
  some (!decide (m=(-1)))) else(some false)).bind λn=>
  some n)).bind λo=>
  some o)))
def mL(a:Int->(List aA)->Option ((List aA)))(_:List aA)(b:Int)(c:List aA):Option ((List aA)):=
  a (w64 (b+1)) c
def pK(a:Int->(List aA)->Option ((List aA)))(b:List aA)(c:Int)(d:Bool)(e:List aA):Option ((List aA)):=
  bif !d then((idx b c).bind λf=>
  (app 40 e ([f])).bind λg=>
  mL a b c g)
  else(mL a b c e)
def iQ(a:Int->(List aA)->Option ((List aA)))(b:List aA)(c:Int)(d:List aA):Nat->Bool->Int->Option ((List aA))
 |0,_,_=>none
 | h+1,i,j=>
  bif decide (j<(d.length:Int)) then((bif i then(some true) else((idx d j).bind λe=>
  (idx b c).bind λf=>
  some (decide (e=f)))).bind λg=>
  (iQ a b c d h) g (w64 (j+1)))
  else(pK a b c i d)
def yL(a:List aA):Option ((List aA)):=
  some a
def eB(a:List aA):Nat->Int->(List aA)->Option ((List aA))
 |0,_,_=>none
 | b+1,c,d=>
  bif decide (c<(a.length:Int)) then(iQ (eB a b) a c d BIG false 0)
  else(yL d)
def pW(a:List aA):Option ((List aA)):=
  eB a BIG 0 ([]:List aA)
def aBh:Option Bool:=
  some false
def lV(a:List Int)(b:Int):Nat->Int->Option Bool
 |0,_=>none
 | d+1,e=>
  bif decide (e<(a.length:Int)) then((idx a e).bind λc=>
  bif decide (c=b) then(some true)
  else((lV a b d) (w64 (e+1))))
  else(aBh)
def wQ(a:List Int)(b:Int):Option Bool:=
  lV a b BIG 0
def kC(_:Int->Int->(List Int)->(List Int)->Option ((List Int)×Bool))(a:Int->Int->Bool->(List Int)->Option ((List Int)×Bool))(_:List aA)(b:Int)(_:Int)(c:Int)(d:Bool)(_:aD)(_:List Int)(e:List Int):Option ((List Int)×Bool):=
  a b c d e
def mH(a:Int->Int->(List Int)->(List Int)->Option ((List Int)×Bool))(b:Int->Int->Bool->(List Int)->Option ((List Int)×Bool))(c:List aA)(d:Int)(e:Int)(f:Int)(g:Bool)(h:aD)(i:List Int)(j:List Int)(k:List Int):Option ((List Int)×Bool):=
  (bif decide (1<(j.length:Int)) then(some true) else((bif decide ((j.length:Int)=1) then((idx j 0).bind λl=>
  (wQ k l).bind λm=>
  some m) else(some false)).bind λn=>
  some n)).bind λo=>
  bif o then(some (([]:List Int),false))
  else(bif decide ((j.length:Int)=1) then((idx j 0).bind λp=>
  (app 8 k ([p])).bind λq=>
  kC a b c (w64 (d+1)) e p true h i q)
  else(kC a b c d e f g h i k))
def eX(a:Int->Int->(List Int)->(List Int)->Option ((List Int)×Bool))(b:Int->Int->Bool->(List Int)->Option ((List Int)×Bool))(c:List aA)(d:Int)(e:Int)(f:Int)(g:Bool)(h:aD)(i:List Int)(j:List Int):Nat->Int->(List Int)->Option ((List Int)×Bool)
 |0,_,_=>none
 | r+1,s,t=>
  bif decide (s<(c.length:Int)) then((idx c s).bind λk=>
  (bif decide (k.Kind=5) then((idx c s).bind λl=>
  some (decide (l.Place=e))) else(some false)).bind λm=>
  (bif m then((idx c s).bind λn=>
  some (decide (n.Old=f))) else(some false)).bind λo=>
  bif o then((idx c s).bind λp=>
  (app 8 t ([p.Player])).bind λq=>
  (eX a b c d e f g h i j r) (w64 (s+1)) q)
  else((eX a b c d e f g h i j r) (w64 (s+1)) t))
  else(mH a b c d e f g h i t j)
def uS(a:Int->Int->(List Int)->(List Int)->Option ((List Int)×Bool))(_:List aA)(b:Int)(c:Int)(_:aD)(d:List Int)(e:List Int):Option ((List Int)×Bool):=
  a b (w64 (c+1)) d e
def pV(a:Int->Int->(List Int)->(List Int)->Option ((List Int)×Bool))(b:List aA)(c:Int)(d:Int)(e:Int)(f:aD)(g:List Int)(h:List Int):Option ((List Int)×Bool):=
  (app 8 g ([e])).bind λi=>
  uS a b c d f i h
def fR(a:Int->Int->(List Int)->(List Int)->Option ((List Int)×Bool))(b:List aA)(c:Int)(d:aD)(e:List Int):Nat->Int->Int->Bool->(List Int)->Option ((List Int)×Bool)
 |0,_,_,_,_=>none
 | f+1,g,h,i,j=>
  bif i then(eX a (fR a b c d e f) b g c h false d e j BIG 0 ([]:List Int))
  else(pV a b g c h d e j)
def uT(a:Int)(b:List Int):Option ((List Int)×Bool):=
  some (b,decide (a=0))
def eY(a:List aA)(b:List Int):Nat->Int->Int->Option ((List Int)×Bool)
 |0,_,_=>none
 | d+1,e,f=>
  bif decide (f<(a.length:Int)) then((idx a f).bind λc=>
  bif decide (c.Kind=5) then((eY a b d) (w64 (e-1)) (w64 (f+1)))
  else((eY a b d) e (w64 (f+1))))
  else(uT e b)
def uR(a:List aA)(b:Int)(c:List Int):Option ((List Int)×Bool):=
  eY a c BIG b 0
def dP(a:List aA)(b:aD):Nat->Int->Int->(List Int)->(List Int)->Option ((List Int)×Bool)
 |0,_,_,_,_=>none
 | d+1,e,f,g,h=>
  bif decide (f<(b.Slots.length:Int)) then((idx b.Slots f).bind λc=>
  fR (dP a b d) a f b g BIG e c true h)
  else(uR a e g)
def pJ(a:aD)(b:List aA):Option ((List Int)×Bool):=
  (pW b).bind λc=>
  (app 8 ([]:List Int) a.Slots).bind λd=>
  dP c a BIG 0 0 ([]:List Int) d
def yJ(a:Int->(List (List Int))->(List Int)->Option (aF×Bool))(_:List aA)(_:List Int)(b:Int)(_:aD)(_:aF)(c:List (List Int))(d:List Int):Option (aF×Bool):=
  a (w64 (b+1)) c d
def mJ(a:Int->(List (List Int))->(List Int)->Option (aF×Bool))(b:List aA)(c:List Int)(d:Int)(e:aD)(f:aF)(g:List (List Int))(h:List Int)(i:List Int):Option (aF×Bool):=
  (app 24 g [i]).bind λj=>
  yJ a b c d e f j h
def eA(a:Int->(List (List Int))->(List Int)->Option (aF×Bool))(b:List aA)(c:List Int)(d:Int)(e:aD)(f:aF)(g:List (List Int))(h:List Int):Nat->Int->(List Int)->Option (aF×Bool)
 |0,_,_=>none
 | w+1,x,y=>
  (kV e d).bind λi=>
  bif decide (x<i) then((bif decide (d=0) then((idx c (w64 (2*x))).bind λj=>
  some (decide (j=(-1)))) else(some false)).bind λk=>
  bif k then((idx c (w64 ((w64 (2*x))+1))).bind λl=>
  (bif decide (d=0) then((idx c (w64 ((w64 (2*x))+1))).bind λm=>
  some (decide (m=(-1)))) else(some false)).bind λn=>
  bif n then((idx c (w64 (2*x))).bind λo=>
  (app 8 y ([o])).bind λp=>
  (eA a b c d e f g h w) (w64 (x+1)) p)
  else((app 8 y ([l])).bind λq=>
  (eA a b c d e f g h w) (w64 (x+1)) q))
  else((bif decide (d=0) then((idx c (w64 ((w64 (2*x))+1))).bind λr=>
  some (decide (r=(-1)))) else(some false)).bind λs=>
  bif s then((idx c (w64 (2*x))).bind λt=>
  (app 8 y ([t])).bind λu=>
  (eA a b c d e f g h w) (w64 (x+1)) u)
  else((app 8 y ([(-2)])).bind λv=>
  (eA a b c d e f g h w) (w64 (x+1)) v)))
  else(mJ a b c d e f g h y)
def mK(a:Int->aF->(List (List Int))->Option (aF×Bool))(_:List Int)(_:List aA)(b:Int)(c:aF)(d:List (List Int))(_:List Int):Option (aF×Bool):=
  a (w64 (b+1)) c d
def xO(a:Int->aF->(List (List Int))->Option (aF×Bool))(b:List Int)(c:List aA)(d:Int)(e:aF)(f:List (List Int))(g:List Int):Option (aF×Bool):=
  mK a b c d e f g
def gZ(a:Int->aF->(List (List Int))->Option (aF×Bool))(b:List Int)(c:List aA)(d:Int)(e:Int)(f:List Int)(g:aA):Nat->Int->aF->(List (List Int))->Option (aF×Bool)
 |0,_,_,_=>none
 | n+1,o,p,q=>
  bif decide (o<=g.Round) then((chk (decide (0<=(IntKind.u64.wrap (w64 (o+1)))))).bind λ_=>
  (idx q o).bind λh=>
  (idx h (e.fdiv (2^(min (IntKind.u64.wrap (w64 (o+1))).toNat 64)))).bind λi=>
  (bif !decide (i=(-2)) then((idx q o).bind λj=>
  (idx j (e.fdiv (2^(min (IntKind.u64.wrap (w64 (o+1))).toNat 64)))).bind λk=>
  some (!decide (k=g.Player))) else(some false)).bind λl=>
  bif l then(some ((aF.mk ([]:List Int) ([]:List (List Int))),false))
  else((idx q o).bind λm=>
  (idx m (e.fdiv (2^(min (IntKind.u64.wrap (w64 (o+1))).toNat 64)))).bind λ_=>
  (gZ a b c d e f g n) (w64 (o+1)) p (q.set o.toNat (m.set (e.fdiv (2^(min (IntKind.u64.wrap (w64 (o+1))).toNat 64))).toNat g.Player))))
  else(xO a b c d p q f)
def iO(a:Int->aF->(List (List Int))->Option (aF×Bool))(b:List Int)(c:List aA)(d:Int)(e:Int)(f:aF)(g:List (List Int))(h:List Int)(i:aA):Option (aF×Bool):=
  (bif decide (e<0) then(some true) else((chk (decide (0<=(IntKind.u64.wrap (w64 (i.Round+1)))))).bind λ_=>
  some (!decide ((e.fdiv (2^(min (IntKind.u64.wrap (w64 (i.Round+1))).toNat 64)))=i.Place)))).bind λj=>
  bif j then(some ((aF.mk ([]:List Int) ([]:List (List Int))),false))
  else(gZ a b c d e h i BIG 0 f g)
def dQ(a:Int->aF->(List (List Int))->Option (aF×Bool))(b:List Int)(c:List aA)(d:Int)(e:aF)(f:List (List Int))(g:List Int)(h:aA):Nat->Int->Int->Option (aF×Bool)
 |0,_,_=>none
 | j+1,k,l=>
  bif decide (l<(b.length:Int)) then((idx b l).bind λi=>
  bif decide (i=h.Player) then((dQ a b c d e f g h j) l (w64 (l+1)))
  else((dQ a b c d e f g h j) k (w64 (l+1))))
  else(iO a b c d k e f g h)
def tB(a:Int->aF->(List (List Int))->Option (aF×Bool))(b:List Int)(c:List aA)(d:Int)(e:aF)(f:List (List Int))(g:List Int)(h:aA):Option (aF×Bool):=
  dQ a b c d e f g h BIG (-1) 0
def iP(a:Int->aF->(List (List Int))->Option (aF×Bool))(b:List Int)(c:List aA)(d:Int)(e:List (List Int))(f:List Int)(g:aA):Nat->Int->aF->Option (aF×Bool)
 |0,_,_=>none
 | k+1,l,m=>
  bif decide (l<d) then((idx c l).bind λh=>
  (bif !decide (h.Kind=5) then(some (decide (h.Round=g.Round))) else(some false)).bind λi=>
  (bif i then(some (decide (h.Place=g.Place))) else(some false)).bind λj=>
  bif j then(some ((aF.mk ([]:List Int) ([]:List (List Int))),false))
  else((iP a b c d e f g k) (w64 (l+1)) m))
  else(tB a b c d m e f g)
def yK(_:aF)(a:List (List Int))(b:List Int):Option (aF×Bool):=
  some ((aF.mk b a),true)
def cR(a:List Int)(b:List aA)(c:List Int):Nat->Int->aF->(List (List Int))->Option (aF×Bool)
 |0,_,_,_=>none
 | e+1,f,g,h=>
  bif decide (f<(b.length:Int)) then((idx b f).bind λd=>
  bif decide (d.Kind=5) then(mK (cR a b c e) a b f g h c)
  else(iP (cR a b c e) a b f h c d BIG 0 g))
  else(yK g h c)
def mI(a:List aA)(b:List Int)(c:aF)(d:List (List Int))(e:List Int):Option (aF×Bool):=
  (pW a).bind λf=>
  cR b f e BIG 0 c d
def gC(a:List aA)(b:List Int)(c:aD)(d:aF):Nat->Int->(List (List Int))->(List Int)->Option (aF×Bool)
 |0,_,_,_=>none
 | e+1,f,g,h=>
  bif decide (f<c.Rounds) then(eA (gC a b c d e) a b f c d g h BIG 0 ([]:List Int))
  else(mI a b d g h)
def cN(a:aD)(b:List aA):Option (aF×Bool):=
  (pJ a b).bind λc=>
  bif !c.2 then(some ((aF.mk ([]:List Int) ([]:List (List Int))),false))
  else(gC b c.1 a (aF.mk ([]:List Int) ([]:List (List Int))) BIG 0 ([]:List (List Int)) c.1)
def lD(a:List aA)(b:aD):Option Int:=
  (cN b a).bind λc=>
  bif !c.2 then(some 72)
  else(some 0)
def gW(a:List aA)(b:aD):Nat->Int->Option Int
 |0,_=>none
 | e+1,f=>
  bif decide (f<(a.length:Int)) then((idx a f).bind λc=>
  (qQ b c).bind λd=>
  bif !d then(some 71)
  else((gW a b e) (w64 (f+1))))
  else(lD a b)
def dU(a:aD)(b:List aA):Option Int:=
  (nS a).bind λc=>
  bif !c then(some 70)
  else(bif decide (60<(b.length:Int)) then(some 71)
  else(gW b a BIG 0))
def sN(a:aF)(b:Int)(c:Int)(d:Int):Option Int:=
  bif decide (b=0) then((idx a.Slots (w64 ((w64 (2*c))+d))).bind λe=>
  some e)
  else((idx a.Must (w64 (b-1))).bind λf=>
  (idx f (w64 ((w64 (2*c))+d))).bind λg=>
  some g)
def xN(a:Int->(List aE)->Option ((List aE)))(b:Int)(_:aD)(_:aF)(c:List aE):Option ((List aE)):=
  a (w64 (b+1)) c
def oL(a:Int->(List aE)->Option ((List aE)))(b:Int)(c:aD)(d:aF)(e:List aE):Option ((List aE)):=
  xN a b c d e
def gY(a:Int->(List aE)->Option ((List aE)))(b:Int)(c:aD)(d:aF):Nat->Int->(List aE)->Option ((List aE))
 |0,_,_=>none
 | i+1,j,k=>
  (kV c b).bind λe=>
  bif decide (j<e) then((sN d b j 0).bind λf=>
  (sN d b j 1).bind λg=>
  (app 32 k ([(aE.mk b j f g)])).bind λh=>
  (gY a b c d i) (w64 (j+1)) h)
  else(oL a b c d k)
def xM(a:List aE):Option ((List aE)):=
  some a
def dR(a:aD)(b:aF):Nat->Int->(List aE)->Option ((List aE))
 |0,_,_=>none
 | c+1,d,e=>
  bif decide (d<a.Rounds) then(gY (dR a b c) d a b BIG 0 e)
  else(xM e)
def lU(a:aD)(b:aF):Option ((List aE)):=
  dR a b BIG 0 ([]:List aE)
def jE(a:aD)(b:List aA):Option ((List aE)×Int):=
  (dU a b).bind λc=>
  bif !decide (c=0) then(some (([]:List aE),c))
  else((cN a b).bind λd=>
  (lU a d.1).bind λe=>
  some (e,0))
def aEe(a:List aE):Option ((List aE)×Int):=
  some (a,0)
def gX(a:List aE)(b:aF):Nat->Int->(List aE)->Option ((List aE)×Int)
 |0,_,_=>none
 | m+1,n,o=>
  bif decide (n<(a.length:Int)) then((idx a n).bind λc=>
  (bif decide (0<=c.One) then((idx a n).bind λd=>
  some (decide (0<=d.Two))) else(some false)).bind λe=>
  (bif e then((idx a n).bind λf=>
  (idx b.Must f.Round).bind λg=>
  (idx a n).bind λh=>
  (idx g h.Place).bind λi=>
  some (decide (i=(-2)))) else(some false)).bind λj=>
  bif j then((idx a n).bind λk=>
  (app 32 o ([k])).bind λl=>
  (gX a b m) (w64 (n+1)) l)
  else((gX a b m) (w64 (n+1)) o))
  else(aEe o)
def lT(a:aD)(b:List aA):Option ((List aE)×Int):=
  (dU a b).bind λc=>
  bif !decide (c=0) then(some (([]:List aE),c))
  else((cN a b).bind λd=>
  (lU a d.1).bind λe=>
  gX e d.1 BIG 0 ([]:List aE))
def iF(a:aD)(b:List aA)(c:Int)(d:Int):Option Int:=
  (dU a b).bind λe=>
  bif !decide (e=0) then(some e)
  else((mG a c d).bind λf=>
  bif !f then(some 1)
  else(some 0))
def eQ(a:aD)(b:List aA)(c:Int)(d:Int):Option (Int×Int):=
  (iF a b c d).bind λe=>
  bif !decide (e=0) then(some (0,e))
  else((cN a b).bind λf=>
  (idx f.1.Must c).bind λg=>
  (idx g d).bind λh=>
  bif decide (h=(-2)) then(some (0,3))
  else((idx f.1.Must c).bind λi=>
  (idx i d).bind λj=>
  some (j,0)))
end Go.Am
