/- Shallow functions, printed by program. -/
import Derived.Test.YtammglnfelkbpaaGreatDoorAmClose
namespace Go.Am
def bBx(x:List Int):List D:=[.sl 1 (x.map aP)]
structure aD where
 Rounds:Int
 Slots:List Int
 deriving DecidableEq,Inhabited
def bU(x:aD):List D:=[.lit (.int .i64 x.Rounds),.sl 1 (x.Slots.map aP)]
structure aA where
 Kind:Int
 Round:Int
 Place:Int
 Player:Int
 Old:Int
 deriving DecidableEq,Inhabited
def aL(x:aA):List D:=[.lit (.int .i64 x.Kind),.lit (.int .i64 x.Round),.lit (.int .i64 x.Place),.lit (.int .i64 x.Player),.lit (.int .i64 x.Old)]
structure aI where
 Slots:List Int
 Must:List (List Int)
 deriving DecidableEq,Inhabited
def tH(x:aI):List D:=[.sl 1 (x.Slots.map aP),.sl 1 (x.Must.map bBx)]
structure aG where
 Round:Int
 Place:Int
 One:Int
 Two:Int
 deriving DecidableEq,Inhabited
def cA(x:aG):List D:=[.lit (.int .i64 x.Round),.lit (.int .i64 x.Place),.lit (.int .i64 x.One),.lit (.int .i64 x.Two)]
def bEr(x:aD):Prop:=okI x.Rounds/\(okL okI) x.Slots
def fI(a:Int)(b:Int)(c:Int):Option Bool:=
  (bif decide (b<=a) then(some (decide (a<=c))) else(some false)).bind λd=>
  some d
def aCa(a:Int->Option Bool)(b:Int)(_:aD):Option Bool:=
  a (w64 (b+1))
def aCb(a:Int->Option Bool)(b:Int)(c:aD):Option Bool:=
  aCa a b c
def iT(a:Int->Option Bool)(b:Int)(c:aD):Nat->Int->Option Bool
 |0,_=>none
 | h+1,i=>
  bif decide (i<b) then((idx c.Slots i).bind λd=>
  (idx c.Slots b).bind λe=>
  (bif decide (d=e) then((idx c.Slots b).bind λf=>
  some (!decide (f=(-1)))) else(some false)).bind λg=>
  bif g then(some false)
  else((iT a b c h) (w64 (i+1))))
  else(aCb a b c)
def aBz:Option Bool:=
  some true
def kW(a:aD):Nat->Int->Option Bool
 |0,_=>none
 | i+1,j=>
  bif decide (j<(a.Slots.length:Int)) then((idx a.Slots j).bind λb=>
  (fI b (-1) 999).bind λc=>
  (bif !c then(some true) else((bif decide ((j.tmod 2)=1) then((idx a.Slots j).bind λd=>
  some (decide (d=(-1)))) else(some false)).bind λe=>
  (bif e then((idx a.Slots (w64 (j-1))).bind λf=>
  some (decide (f=(-1)))) else(some false)).bind λg=>
  some g)).bind λh=>
  bif h then(some false)
  else(iT (kW a i) j a BIG 0))
  else(aBz)
def qA(a:aD):Option Bool:=
  (fI a.Rounds 1 5).bind λb=>
  (bif !b then(some true) else((chk (decide (0<=(IntKind.u64.wrap a.Rounds)))).bind λ_=>
  some (!decide ((a.Slots.length:Int)=(w64 (1*2^(min (IntKind.u64.wrap a.Rounds).toNat 64))))))).bind λc=>
  bif c then(some false)
  else(kW a BIG 0)
def lF(a:aD)(b:Int):Option Int:=
  (chk (decide (0<=(IntKind.u64.wrap (w64 ((w64 (a.Rounds-1))-b)))))).bind λ_=>
  some (w64 (1*2^(min (IntKind.u64.wrap (w64 ((w64 (a.Rounds-1))-b))).toNat 64)))
def oP(a:aD)(b:Int)(c:Int):Option Bool:=
  (fI b 0 (w64 (a.Rounds-1))).bind λd=>
  (bif d then((lF a b).bind λe=>
  (fI c 0 (w64 (e-1))).bind λf=>
  some f) else(some false)).bind λg=>
  some g
def tG(a:aD)(b:aA):Option Bool:=
  (fI b.Player 0 999).bind λc=>
  bif !c then(some false)
  else(bif decide (b.Kind=5) then((bif decide (b.Round=0) then((fI b.Place 0 (w64 ((a.Slots.length:Int)-1))).bind λd=>
  some d) else(some false)).bind λe=>
  (bif e then((fI b.Old 0 999).bind λf=>
  some f) else(some false)).bind λg=>
  some g)
  else((fI b.Kind 1 4).bind λh=>
  (bif !h then(some true) else((oP a b.Round b.Place).bind λi=>
  some (!i))).bind λj=>
  (bif j then(some true) else(some (!decide (b.Old=0)))).bind λk=>
  bif k then(some false)
  else((bif decide (0<b.Round) then(some true) else((idx a.Slots (w64 (2*b.Place))).bind λl=>
  (bif !decide (l=(-1)) then((idx a.Slots (w64 ((w64 (2*b.Place))+1))).bind λm=>
  some (!decide (m=(-1)))) else(some false)).bind λn=>
  some n)).bind λo=>
  some o)))
def sK(a:Int->(List aA)->Option ((List aA)))(_:List aA)(b:Int)(c:List aA):Option ((List aA)):=
  a (w64 (b+1)) c
def sL(a:Int->(List aA)->Option ((List aA)))(b:List aA)(c:Int)(d:Bool)(e:List aA):Option ((List aA)):=
  bif !d then((idx b c).bind λf=>
  (app 40 e ([f])).bind λg=>
  sK a b c g)
  else(sK a b c e)
def kJ(a:Int->(List aA)->Option ((List aA)))(b:List aA)(c:Int)(d:List aA):Nat->Bool->Int->Option ((List aA))
 |0,_,_=>none
 | h+1,i,j=>
  bif decide (j<(d.length:Int)) then((bif i then(some true) else((idx d j).bind λe=>
  (idx b c).bind λf=>
  some (decide (e=f)))).bind λg=>
  (kJ a b c d h) g (w64 (j+1)))
  else(sL a b c i d)
def aFq(a:List aA):Option ((List aA)):=
  some a
def fP(a:List aA):Nat->Int->(List aA)->Option ((List aA))
 |0,_,_=>none
 | b+1,c,d=>
  bif decide (c<(a.length:Int)) then(kJ (fP a b) a c d BIG false 0)
  else(aFq d)
def pI(a:List aA):Option ((List aA)):=
  fP a BIG 0 ([]:List aA)
def aIu:Option Bool:=
  some false
def oD(a:List Int)(b:Int):Nat->Int->Option Bool
 |0,_=>none
 | d+1,e=>
  bif decide (e<(a.length:Int)) then((idx a e).bind λc=>
  bif decide (c=b) then(some true)
  else((oD a b d) (w64 (e+1))))
  else(aIu)
def zU(a:List Int)(b:Int):Option Bool:=
  oD a b BIG 0
def pG(_:Int->Int->(List Int)->(List Int)->Option ((List Int)×Bool))(a:Int->Int->Bool->(List Int)->Option ((List Int)×Bool))(_:List aA)(b:Int)(_:Int)(c:Int)(d:Bool)(_:aD)(_:List Int)(e:List Int):Option ((List Int)×Bool):=
  a b c d e
def pH(a:Int->Int->(List Int)->(List Int)->Option ((List Int)×Bool))(b:Int->Int->Bool->(List Int)->Option ((List Int)×Bool))(c:List aA)(d:Int)(e:Int)(f:Int)(g:Bool)(h:aD)(i:List Int)(j:List Int)(k:List Int):Option ((List Int)×Bool):=
  (bif decide (1<(j.length:Int)) then(some true) else((bif decide ((j.length:Int)=1) then((idx j 0).bind λl=>
  (zU k l).bind λm=>
  some m) else(some false)).bind λn=>
  some n)).bind λo=>
  bif o then(some (([]:List Int),false))
  else(bif decide ((j.length:Int)=1) then((idx j 0).bind λp=>
  (app 8 k ([p])).bind λq=>
  pG a b c (w64 (d+1)) e p true h i q)
  else(pG a b c d e f g h i k))
def fY(a:Int->Int->(List Int)->(List Int)->Option ((List Int)×Bool))(b:Int->Int->Bool->(List Int)->Option ((List Int)×Bool))(c:List aA)(d:Int)(e:Int)(f:Int)(g:Bool)(h:aD)(i:List Int)(j:List Int):Nat->Int->(List Int)->Option ((List Int)×Bool)
 |0,_,_=>none
 | r+1,s,t=>
  bif decide (s<(c.length:Int)) then((idx c s).bind λk=>
  (bif decide (k.Kind=5) then((idx c s).bind λl=>
  some (decide (l.Place=e))) else(some false)).bind λm=>
  (bif m then((idx c s).bind λn=>
  some (decide (n.Old=f))) else(some false)).bind λo=>
  bif o then((idx c s).bind λp=>
  (app 8 t ([p.Player])).bind λq=>
  (fY a b c d e f g h i j r) (w64 (s+1)) q)
  else((fY a b c d e f g h i j r) (w64 (s+1)) t))
  else(pH a b c d e f g h i t j)
def aAy(a:Int->Int->(List Int)->(List Int)->Option ((List Int)×Bool))(_:List aA)(b:Int)(c:Int)(_:aD)(d:List Int)(e:List Int):Option ((List Int)×Bool):=
  a b (w64 (c+1)) d e
def tU(a:Int->Int->(List Int)->(List Int)->Option ((List Int)×Bool))(b:List aA)(c:Int)(d:Int)(e:Int)(f:aD)(g:List Int)(h:List Int):Option ((List Int)×Bool):=
  (app 8 g ([e])).bind λi=>
  aAy a b c d f i h
def kA(a:Int->Int->(List Int)->(List Int)->Option ((List Int)×Bool))(b:List aA)(c:Int)(d:aD)(e:List Int):Nat->Int->Int->Bool->(List Int)->Option ((List Int)×Bool)
 |0,_,_,_,_=>none
 | f+1,g,h,i,j=>
  bif i then(fY a (kA a b c d e f) b g c h false d e j BIG 0 ([]:List Int))
  else(tU a b g c h d e j)
def aAz(a:Int)(b:List Int):Option ((List Int)×Bool):=
  some (b,decide (a=0))
def fZ(a:List aA)(b:List Int):Nat->Int->Int->Option ((List Int)×Bool)
 |0,_,_=>none
 | d+1,e,f=>
  bif decide (f<(a.length:Int)) then((idx a f).bind λc=>
  bif decide (c.Kind=5) then((fZ a b d) (w64 (e-1)) (w64 (f+1)))
  else((fZ a b d) e (w64 (f+1))))
  else(aAz e b)
def aAx(a:List aA)(b:Int)(c:List Int):Option ((List Int)×Bool):=
  fZ a c BIG b 0
def iB(a:List aA)(b:aD):Nat->Int->Int->(List Int)->(List Int)->Option ((List Int)×Bool)
 |0,_,_,_,_=>none
 | d+1,e,f,g,h=>
  bif decide (f<(b.Slots.length:Int)) then((idx b.Slots f).bind λc=>
  kA (iB a b d) a f b g BIG e c true h)
  else(aAx a e g)
def sI(a:aD)(b:List aA):Option ((List Int)×Bool):=
  (pI b).bind λc=>
  (app 8 ([]:List Int) a.Slots).bind λd=>
  iB c a BIG 0 0 ([]:List Int) d
def xE(a:Int->(List (List Int))->(List Int)->Option (aI×Bool))(_:List aA)(_:List Int)(b:Int)(_:aD)(_:aI)(c:List (List Int))(d:List Int):Option (aI×Bool):=
  a (w64 (b+1)) c d
def mG(a:Int->(List (List Int))->(List Int)->Option (aI×Bool))(b:List aA)(c:List Int)(d:Int)(e:aD)(f:aI)(g:List (List Int))(h:List Int)(i:List Int):Option (aI×Bool):=
  (app 24 g [i]).bind λj=>
  xE a b c d e f j h
def eD(a:Int->(List (List Int))->(List Int)->Option (aI×Bool))(b:List aA)(c:List Int)(d:Int)(e:aD)(f:aI)(g:List (List Int))(h:List Int):Nat->Int->(List Int)->Option (aI×Bool)
 |0,_,_=>none
 | w+1,x,y=>
  (lF e d).bind λi=>
  bif decide (x<i) then((bif decide (d=0) then((idx c (w64 (2*x))).bind λj=>
  some (decide (j=(-1)))) else(some false)).bind λk=>
  bif k then((idx c (w64 ((w64 (2*x))+1))).bind λl=>
  (bif decide (d=0) then((idx c (w64 ((w64 (2*x))+1))).bind λm=>
  some (decide (m=(-1)))) else(some false)).bind λn=>
  bif n then((idx c (w64 (2*x))).bind λo=>
  (app 8 y ([o])).bind λp=>
  (eD a b c d e f g h w) (w64 (x+1)) p)
  else((app 8 y ([l])).bind λq=>
  (eD a b c d e f g h w) (w64 (x+1)) q))
  else((bif decide (d=0) then((idx c (w64 ((w64 (2*x))+1))).bind λr=>
  some (decide (r=(-1)))) else(some false)).bind λs=>
  bif s then((idx c (w64 (2*x))).bind λt=>
  (app 8 y ([t])).bind λu=>
  (eD a b c d e f g h w) (w64 (x+1)) u)
  else((app 8 y ([(-2)])).bind λv=>
  (eD a b c d e f g h w) (w64 (x+1)) v)))
  else(mG a b c d e f g h y)
def sJ(a:Int->aI->(List (List Int))->Option (aI×Bool))(_:List Int)(_:List aA)(b:Int)(c:aI)(d:List (List Int))(_:List Int):Option (aI×Bool):=
  a (w64 (b+1)) c d
def aDq(a:Int->aI->(List (List Int))->Option (aI×Bool))(b:List Int)(c:List aA)(d:Int)(e:aI)(f:List (List Int))(g:List Int):Option (aI×Bool):=
  sJ a b c d e f g
def lI(a:Int->aI->(List (List Int))->Option (aI×Bool))(b:List Int)(c:List aA)(d:Int)(e:Int)(f:List Int)(g:aA):Nat->Int->aI->(List (List Int))->Option (aI×Bool)
 |0,_,_,_=>none
 | n+1,o,p,q=>
  bif decide (o<=g.Round) then((chk (decide (0<=(IntKind.u64.wrap (w64 (o+1)))))).bind λ_=>
  (idx q o).bind λh=>
  (idx h (e.fdiv (2^(min (IntKind.u64.wrap (w64 (o+1))).toNat 64)))).bind λi=>
  (bif !decide (i=(-2)) then((idx q o).bind λj=>
  (idx j (e.fdiv (2^(min (IntKind.u64.wrap (w64 (o+1))).toNat 64)))).bind λk=>
  some (!decide (k=g.Player))) else(some false)).bind λl=>
  bif l then(some ((aI.mk ([]:List Int) ([]:List (List Int))),false))
  else((idx q o).bind λm=>
  (idx m (e.fdiv (2^(min (IntKind.u64.wrap (w64 (o+1))).toNat 64)))).bind λ_=>
  (lI a b c d e f g n) (w64 (o+1)) p (q.set o.toNat (m.set (e.fdiv (2^(min (IntKind.u64.wrap (w64 (o+1))).toNat 64))).toNat g.Player))))
  else(aDq a b c d p q f)
def kI(a:Int->aI->(List (List Int))->Option (aI×Bool))(b:List Int)(c:List aA)(d:Int)(e:Int)(f:aI)(g:List (List Int))(h:List Int)(i:aA):Option (aI×Bool):=
  (bif decide (e<0) then(some true) else((chk (decide (0<=(IntKind.u64.wrap (w64 (i.Round+1)))))).bind λ_=>
  some (!decide ((e.fdiv (2^(min (IntKind.u64.wrap (w64 (i.Round+1))).toNat 64)))=i.Place)))).bind λj=>
  bif j then(some ((aI.mk ([]:List Int) ([]:List (List Int))),false))
  else(lI a b c d e h i BIG 0 f g)
def eV(a:Int->aI->(List (List Int))->Option (aI×Bool))(b:List Int)(c:List aA)(d:Int)(e:aI)(f:List (List Int))(g:List Int)(h:aA):Nat->Int->Int->Option (aI×Bool)
 |0,_,_=>none
 | j+1,k,l=>
  bif decide (l<(b.length:Int)) then((idx b l).bind λi=>
  bif decide (i=h.Player) then((eV a b c d e f g h j) l (w64 (l+1)))
  else((eV a b c d e f g h j) k (w64 (l+1))))
  else(kI a b c d k e f g h)
def xG(a:Int->aI->(List (List Int))->Option (aI×Bool))(b:List Int)(c:List aA)(d:Int)(e:aI)(f:List (List Int))(g:List Int)(h:aA):Option (aI×Bool):=
  eV a b c d e f g h BIG (-1) 0
def mH(a:Int->aI->(List (List Int))->Option (aI×Bool))(b:List Int)(c:List aA)(d:Int)(e:List (List Int))(f:List Int)(g:aA):Nat->Int->aI->Option (aI×Bool)
 |0,_,_=>none
 | k+1,l,m=>
  bif decide (l<d) then((idx c l).bind λh=>
  (bif !decide (h.Kind=5) then(some (decide (h.Round=g.Round))) else(some false)).bind λi=>
  (bif i then(some (decide (h.Place=g.Place))) else(some false)).bind λj=>
  bif j then(some ((aI.mk ([]:List Int) ([]:List (List Int))),false))
  else((mH a b c d e f g k) (w64 (l+1)) m))
  else(xG a b c d m e f g)
def xF(_:aI)(a:List (List Int))(b:List Int):Option (aI×Bool):=
  some ((aI.mk b a),true)
def eE(a:List Int)(b:List aA)(c:List Int):Nat->Int->aI->(List (List Int))->Option (aI×Bool)
 |0,_,_,_=>none
 | e+1,f,g,h=>
  bif decide (f<(b.length:Int)) then((idx b f).bind λd=>
  bif decide (d.Kind=5) then(sJ (eE a b c e) a b f g h c)
  else(mH (eE a b c e) a b f h c d BIG 0 g))
  else(xF g h c)
def mF(a:List aA)(b:List Int)(c:aI)(d:List (List Int))(e:List Int):Option (aI×Bool):=
  (pI a).bind λf=>
  eE b f e BIG 0 c d
def gL(a:List aA)(b:List Int)(c:aD)(d:aI):Nat->Int->(List (List Int))->(List Int)->Option (aI×Bool)
 |0,_,_,_=>none
 | e+1,f,g,h=>
  bif decide (f<c.Rounds) then(eD (gL a b c d e) a b f c d g h BIG 0 ([]:List Int))
  else(mF a b d g h)
def cK(a:aD)(b:List aA):Option (aI×Bool):=
  (sI a b).bind λc=>
  bif !c.2 then(some ((aI.mk ([]:List Int) ([]:List (List Int))),false))
  else(gL b c.1 a (aI.mk ([]:List Int) ([]:List (List Int))) BIG 0 ([]:List (List Int)) c.1)
def nX(a:List aA)(b:aD):Option Int:=
  (cK b a).bind λc=>
  bif !c.2 then(some 72)
  else(some 0)
def jN(a:List aA)(b:aD):Nat->Int->Option Int
 |0,_=>none
 | e+1,f=>
  bif decide (f<(a.length:Int)) then((idx a f).bind λc=>
  (tG b c).bind λd=>
  bif !d then(some 71)
  else((jN a b e) (w64 (f+1))))
  else(nX a b)
def eM(a:aD)(b:List aA):Option Int:=
  (qA a).bind λc=>
  bif !c then(some 70)
  else(bif decide (60<(b.length:Int)) then(some 71)
  else(jN b a BIG 0))
def vS(a:aI)(b:Int)(c:Int)(d:Int):Option Int:=
  bif decide (b=0) then((idx a.Slots (w64 ((w64 (2*c))+d))).bind λe=>
  some e)
  else((idx a.Must (w64 (b-1))).bind λf=>
  (idx f (w64 ((w64 (2*c))+d))).bind λg=>
  some g)
def aDp(a:Int->(List aG)->Option ((List aG)))(b:Int)(_:aD)(_:aI)(c:List aG):Option ((List aG)):=
  a (w64 (b+1)) c
def rL(a:Int->(List aG)->Option ((List aG)))(b:Int)(c:aD)(d:aI)(e:List aG):Option ((List aG)):=
  aDp a b c d e
def jO(a:Int->(List aG)->Option ((List aG)))(b:Int)(c:aD)(d:aI):Nat->Int->(List aG)->Option ((List aG))
 |0,_,_=>none
 | i+1,j,k=>
  (lF c b).bind λe=>
  bif decide (j<e) then((vS d b j 0).bind λf=>
  (vS d b j 1).bind λg=>
  (app 32 k ([(aG.mk b j f g)])).bind λh=>
  (jO a b c d i) (w64 (j+1)) h)
  else(rL a b c d k)
def aDo(a:List aG):Option ((List aG)):=
  some a
def eZ(a:aD)(b:aI):Nat->Int->(List aG)->Option ((List aG))
 |0,_,_=>none
 | c+1,d,e=>
  bif decide (d<a.Rounds) then(jO (eZ a b c) d a b BIG 0 e)
  else(aDo e)
def oC(a:aD)(b:aI):Option ((List aG)):=
  eZ a b BIG 0 ([]:List aG)
def kH(a:aD)(b:List aA):Option ((List aG)×Int):=
  (eM a b).bind λc=>
  bif !decide (c=0) then(some (([]:List aG),c))
  else((cK a b).bind λd=>
  (oC a d.1).bind λe=>
  some (e,0))
def aDn(a:List aG):Option ((List aG)×Int):=
  some (a,0)
def gV(a:List aG)(b:aI):Nat->Int->(List aG)->Option ((List aG)×Int)
 |0,_,_=>none
 | m+1,n,o=>
  bif decide (n<(a.length:Int)) then((idx a n).bind λc=>
  (bif decide (0<=c.One) then((idx a n).bind λd=>
  some (decide (0<=d.Two))) else(some false)).bind λe=>
  (bif e then((idx a n).bind λf=>
  (idx b.Must f.Round).bind λg=>
  (idx a n).bind λh=>
  (idx g h.Place).bind λi=>
  some (decide (i=(-2)))) else(some false)).bind λj=>
  bif j then((idx a n).bind λk=>
  (app 32 o ([k])).bind λl=>
  (gV a b m) (w64 (n+1)) l)
  else((gV a b m) (w64 (n+1)) o))
  else(aDn o)
def oB(a:aD)(b:List aA):Option ((List aG)×Int):=
  (eM a b).bind λc=>
  bif !decide (c=0) then(some (([]:List aG),c))
  else((cK a b).bind λd=>
  (oC a d.1).bind λe=>
  gV e d.1 BIG 0 ([]:List aG))
def kB(a:aD)(b:List aA)(c:Int)(d:Int):Option Int:=
  (eM a b).bind λe=>
  bif !decide (e=0) then(some e)
  else((oP a c d).bind λf=>
  bif !f then(some 1)
  else(some 0))
def fH(a:aD)(b:List aA)(c:Int)(d:Int):Option (Int×Int):=
  (kB a b c d).bind λe=>
  bif !decide (e=0) then(some (0,e))
  else((cK a b).bind λf=>
  (idx f.1.Must c).bind λg=>
  (idx g d).bind λh=>
  bif decide (h=(-2)) then(some (0,3))
  else((idx f.1.Must c).bind λi=>
  (idx i d).bind λj=>
  some (j,0)))
def aFp(a:Int->Int->Option (Int×Int))(b:Int)(c:Int)(_:aD)(_:aI):Option (Int×Int):=
  a b (w64 (c+1))
def xD(a:Int->Int->Option (Int×Int))(b:Int)(c:Int)(d:aD)(e:aI):Option (Int×Int):=
  aFp a b c d e
def mE(a:Int->Int->Option (Int×Int))(b:Int)(c:aD)(d:aI):Nat->Int->Int->Option (Int×Int)
 |0,_,_=>none
 | h+1,i,j=>
  (lF c b).bind λe=>
  bif decide (j<e) then((idx d.Must b).bind λf=>
  (idx f j).bind λg=>
  bif decide (g=(-2)) then((mE a b c d h) (w64 (i+1)) (w64 (j+1)))
  else((mE a b c d h) i (w64 (j+1))))
  else(xD a i b c d)
def aFo(a:Int):Option (Int×Int):=
  some (a,0)
def gK(a:aD)(b:aI):Nat->Int->Int->Option (Int×Int)
 |0,_,_=>none
 | c+1,d,e=>
  bif decide (e<a.Rounds) then(mE (gK a b c) e a b BIG d 0)
  else(aFo d)
def pF(a:aD)(b:List aA):Option (Int×Int):=
  (eM a b).bind λc=>
  bif !decide (c=0) then(some (0,c))
  else((cK a b).bind λd=>
  gK a d.1 BIG 0 0)
end Go.Am
