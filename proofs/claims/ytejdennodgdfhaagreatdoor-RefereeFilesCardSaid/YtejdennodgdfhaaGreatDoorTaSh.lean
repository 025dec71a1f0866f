/- Shallow functions, printed by program. -/
import Derived.Test.YtejdennodgdfhaaGreatDoorAmClose
namespace Go.Am
structure aI where
 Rounds:Int
 Slots:List Int
 deriving DecidableEq,Inhabited
def bH(x:aI):List D:=[.lit (.int .i64 x.Rounds),.sl 1 (x.Slots.map aE)]
structure aC where
 Kind:Int
 Round:Int
 Place:Int
 Player:Int
 Old:Int
 deriving DecidableEq,Inhabited
def aJ(x:aC):List D:=[.lit (.int .i64 x.Kind),.lit (.int .i64 x.Round),.lit (.int .i64 x.Place),.lit (.int .i64 x.Player),.lit (.int .i64 x.Old)]
structure aN where
 Slots:List Int
 Must:List (List Int)
 deriving DecidableEq,Inhabited
structure aP where
 Round:Int
 Place:Int
 One:Int
 Two:Int
 deriving DecidableEq,Inhabited
def cE(x:aP):List D:=[.lit (.int .i64 x.Round),.lit (.int .i64 x.Place),.lit (.int .i64 x.One),.lit (.int .i64 x.Two)]
def eM(a:Int)(b:Int)(c:Int):Option Bool:=
  (bif decide (b<=a) then(some (decide (a<=c))) else(some false)).bind λd=>
  some d
def wV(a:Int->Option Bool)(b:Int)(_:aI):Option Bool:=
  a (w64 (b+1))
def wW(a:Int->Option Bool)(b:Int)(c:aI):Option Bool:=
  wV a b c
def iO(a:Int->Option Bool)(b:Int)(c:aI):Nat->Int->Option Bool
 |0,_=>none
 | h+1,i=>
  bif decide (i<b) then((idx c.Slots i).bind λd=>
  (idx c.Slots b).bind λe=>
  (bif decide (d=e) then((idx c.Slots b).bind λf=>
  some (!decide (f=(-1)))) else(some false)).bind λg=>
  bif g then(some false)
  else((iO a b c h) (w64 (i+1))))
  else(wW a b c)
def wU:Option Bool:=
  some true
def kC(a:aI):Nat->Int->Option Bool
 |0,_=>none
 | i+1,j=>
  bif decide (j<(a.Slots.length:Int)) then((idx a.Slots j).bind λb=>
  (eM b (-1) 999).bind λc=>
  (bif !c then(some true) else((bif decide ((j.tmod 2)=1) then((idx a.Slots j).bind λd=>
  some (decide (d=(-1)))) else(some false)).bind λe=>
  (bif e then((idx a.Slots (w64 (j-1))).bind λf=>
  some (decide (f=(-1)))) else(some false)).bind λg=>
  some g)).bind λh=>
  bif h then(some false)
  else(iO (kC a i) j a BIG 0))
  else(wU)
def pQ(a:aI):Option Bool:=
  (eM a.Rounds 1 5).bind λb=>
  (bif !b then(some true) else((chk (decide (0<=(IntKind.u64.wrap a.Rounds)))).bind λ_=>
  some (!decide ((a.Slots.length:Int)=(w64 (1*2^(min (IntKind.u64.wrap a.Rounds).toNat 64))))))).bind λc=>
  bif c then(some false)
  else(kC a BIG 0)
def mX(a:aI)(b:Int):Option Int:=
  (chk (decide (0<=(IntKind.u64.wrap (w64 ((w64 (a.Rounds-1))-b)))))).bind λ_=>
  some (w64 (1*2^(min (IntKind.u64.wrap (w64 ((w64 (a.Rounds-1))-b))).toNat 64)))
def oX(a:aI)(b:Int)(c:Int):Option Bool:=
  (eM b 0 (w64 (a.Rounds-1))).bind λd=>
  (bif d then((mX a b).bind λe=>
  (eM c 0 (w64 (e-1))).bind λf=>
  some f) else(some false)).bind λg=>
  some g
def uK(a:aI)(b:aC):Option Bool:=
  (eM b.Player 0 999).bind λc=>
  bif !c then(some false)
  else(bif decide (b.Kind=5) then((bif decide (b.Round=0) then((eM b.Place 0 (w64 ((a.Slots.length:Int)-1))).bind λd=>
  some d) else(some false)).bind λe=>
  (bif e then((eM b.Old 0 999).bind λf=>
  some f) else(some false)).bind λg=>
  some g)
  else((eM b.Kind 1 4).bind λh=>
  (bif !h then(some true) else((oX a b.Round b.Place).bind λi=>
  some (!i))).bind λj=>
  (bif j then(some true) else(some (!decide (b.Old=0)))).bind λk=>
  bif k then(some false)
  else((bif decide (0<b.Round) then(some true) else((idx a.Slots (w64 (2*b.Place))).bind λl=>
  (bif !decide (l=(-1)) then((idx a.Slots (w64 ((w64 (2*b.Place))+1))).bind λm=>
  some (!decide (m=(-1)))) else(some false)).bind λn=>
  some n)).bind λo=>
  some o)))
def oZ(a:Int->(List aC)->Option ((List aC)))(_:List aC)(b:Int)(c:List aC):Option ((List aC)):=
  a (w64 (b+1)) c
def pA(a:Int->(List aC)->Option ((List aC)))(b:List aC)(c:Int)(d:Bool)(e:List aC):Option ((List aC)):=
  bif !d then((idx b c).bind λf=>
  (app 40 e ([f])).bind λg=>
  oZ a b c g)
  else(oZ a b c e)
def jU(a:Int->(List aC)->Option ((List aC)))(b:List aC)(c:Int)(d:List aC):Nat->Bool->Int->Option ((List aC))
 |0,_,_=>none
 | h+1,i,j=>
  bif decide (j<(d.length:Int)) then((bif i then(some true) else((idx d j).bind λe=>
  (idx b c).bind λf=>
  some (decide (e=f)))).bind λg=>
  (jU a b c d h) g (w64 (j+1)))
  else(pA a b c i d)
def aAa(a:List aC):Option ((List aC)):=
  some a
def eV(a:List aC):Nat->Int->(List aC)->Option ((List aC))
 |0,_,_=>none
 | b+1,c,d=>
  bif decide (c<(a.length:Int)) then(jU (eV a b) a c d BIG false 0)
  else(aAa d)
def sM(a:List aC):Option ((List aC)):=
  eV a BIG 0 ([]:List aC)
def aCt:Option Bool:=
  some false
def nX(a:List Int)(b:Int):Nat->Int->Option Bool
 |0,_=>none
 | d+1,e=>
  bif decide (e<(a.length:Int)) then((idx a e).bind λc=>
  bif decide (c=b) then(some true)
  else((nX a b d) (w64 (e+1))))
  else(aCt)
def aAy(a:List Int)(b:Int):Option Bool:=
  nX a b BIG 0
def mN(_:Int->Int->(List Int)->(List Int)->Option ((List Int)×Bool))(a:Int->Int->Bool->(List Int)->Option ((List Int)×Bool))(_:List aC)(b:Int)(_:Int)(c:Int)(d:Bool)(_:aI)(_:List Int)(e:List Int):Option ((List Int)×Bool):=
  a b c d e
def mO(a:Int->Int->(List Int)->(List Int)->Option ((List Int)×Bool))(b:Int->Int->Bool->(List Int)->Option ((List Int)×Bool))(c:List aC)(d:Int)(e:Int)(f:Int)(g:Bool)(h:aI)(i:List Int)(j:List Int)(k:List Int):Option ((List Int)×Bool):=
  (bif decide (1<(j.length:Int)) then(some true) else((bif decide ((j.length:Int)=1) then((idx j 0).bind λl=>
  (aAy k l).bind λm=>
  some m) else(some false)).bind λn=>
  some n)).bind λo=>
  bif o then(some (([]:List Int),false))
  else(bif decide ((j.length:Int)=1) then((idx j 0).bind λp=>
  (app 8 k ([p])).bind λq=>
  mN a b c (w64 (d+1)) e p true h i q)
  else(mN a b c d e f g h i k))
def fJ(a:Int->Int->(List Int)->(List Int)->Option ((List Int)×Bool))(b:Int->Int->Bool->(List Int)->Option ((List Int)×Bool))(c:List aC)(d:Int)(e:Int)(f:Int)(g:Bool)(h:aI)(i:List Int)(j:List Int):Nat->Int->(List Int)->Option ((List Int)×Bool)
 |0,_,_=>none
 | r+1,s,t=>
  bif decide (s<(c.length:Int)) then((idx c s).bind λk=>
  (bif decide (k.Kind=5) then((idx c s).bind λl=>
  some (decide (l.Place=e))) else(some false)).bind λm=>
  (bif m then((idx c s).bind λn=>
  some (decide (n.Old=f))) else(some false)).bind λo=>
  bif o then((idx c s).bind λp=>
  (app 8 t ([p.Player])).bind λq=>
  (fJ a b c d e f g h i j r) (w64 (s+1)) q)
  else((fJ a b c d e f g h i j r) (w64 (s+1)) t))
  else(mO a b c d e f g h i t j)
def vV(a:Int->Int->(List Int)->(List Int)->Option ((List Int)×Bool))(_:List aC)(b:Int)(c:Int)(_:aI)(d:List Int)(e:List Int):Option ((List Int)×Bool):=
  a b (w64 (c+1)) d e
def qD(a:Int->Int->(List Int)->(List Int)->Option ((List Int)×Bool))(b:List aC)(c:Int)(d:Int)(e:Int)(f:aI)(g:List Int)(h:List Int):Option ((List Int)×Bool):=
  (app 8 g ([e])).bind λi=>
  vV a b c d f i h
def jQ(a:Int->Int->(List Int)->(List Int)->Option ((List Int)×Bool))(b:List aC)(c:Int)(d:aI)(e:List Int):Nat->Int->Int->Bool->(List Int)->Option ((List Int)×Bool)
 |0,_,_,_,_=>none
 | f+1,g,h,i,j=>
  bif i then(fJ a (jQ a b c d e f) b g c h false d e j BIG 0 ([]:List Int))
  else(qD a b g c h d e j)
def vW(a:Int)(b:List Int):Option ((List Int)×Bool):=
  some (b,decide (a=0))
def fK(a:List aC)(b:List Int):Nat->Int->Int->Option ((List Int)×Bool)
 |0,_,_=>none
 | d+1,e,f=>
  bif decide (f<(a.length:Int)) then((idx a f).bind λc=>
  bif decide (c.Kind=5) then((fK a b d) (w64 (e-1)) (w64 (f+1)))
  else((fK a b d) e (w64 (f+1))))
  else(vW e b)
def vU(a:List aC)(b:Int)(c:List Int):Option ((List Int)×Bool):=
  fK a c BIG b 0
def iD(a:List aC)(b:aI):Nat->Int->Int->(List Int)->(List Int)->Option ((List Int)×Bool)
 |0,_,_,_,_=>none
 | d+1,e,f,g,h=>
  bif decide (f<(b.Slots.length:Int)) then((idx b.Slots f).bind λc=>
  jQ (iD a b d) a f b g BIG e c true h)
  else(vU a e g)
def tC(a:aI)(b:List aC):Option ((List Int)×Bool):=
  (sM b).bind λc=>
  (app 8 ([]:List Int) a.Slots).bind λd=>
  iD c a BIG 0 0 ([]:List Int) d
def zY(a:Int->(List (List Int))->(List Int)->Option (aN×Bool))(_:List aC)(_:List Int)(b:Int)(_:aI)(_:aN)(c:List (List Int))(d:List Int):Option (aN×Bool):=
  a (w64 (b+1)) c d
def lZ(a:Int->(List (List Int))->(List Int)->Option (aN×Bool))(b:List aC)(c:List Int)(d:Int)(e:aI)(f:aN)(g:List (List Int))(h:List Int)(i:List Int):Option (aN×Bool):=
  (app 24 g [i]).bind λj=>
  zY a b c d e f j h
def eE(a:Int->(List (List Int))->(List Int)->Option (aN×Bool))(b:List aC)(c:List Int)(d:Int)(e:aI)(f:aN)(g:List (List Int))(h:List Int):Nat->Int->(List Int)->Option (aN×Bool)
 |0,_,_=>none
 | w+1,x,y=>
  (mX e d).bind λi=>
  bif decide (x<i) then((bif decide (d=0) then((idx c (w64 (2*x))).bind λj=>
  some (decide (j=(-1)))) else(some false)).bind λk=>
  bif k then((idx c (w64 ((w64 (2*x))+1))).bind λl=>
  (bif decide (d=0) then((idx c (w64 ((w64 (2*x))+1))).bind λm=>
  some (decide (m=(-1)))) else(some false)).bind λn=>
  bif n then((idx c (w64 (2*x))).bind λo=>
  (app 8 y ([o])).bind λp=>
  (eE a b c d e f g h w) (w64 (x+1)) p)
  else((app 8 y ([l])).bind λq=>
  (eE a b c d e f g h w) (w64 (x+1)) q))
  else((bif decide (d=0) then((idx c (w64 ((w64 (2*x))+1))).bind λr=>
  some (decide (r=(-1)))) else(some false)).bind λs=>
  bif s then((idx c (w64 (2*x))).bind λt=>
  (app 8 y ([t])).bind λu=>
  (eE a b c d e f g h w) (w64 (x+1)) u)
  else((app 8 y ([(-2)])).bind λv=>
  (eE a b c d e f g h w) (w64 (x+1)) v)))
  else(lZ a b c d e f g h y)
def oY(a:Int->aN->(List (List Int))->Option (aN×Bool))(_:List Int)(_:List aC)(b:Int)(c:aN)(d:List (List Int))(_:List Int):Option (aN×Bool):=
  a (w64 (b+1)) c d
def yC(a:Int->aN->(List (List Int))->Option (aN×Bool))(b:List Int)(c:List aC)(d:Int)(e:aN)(f:List (List Int))(g:List Int):Option (aN×Bool):=
  oY a b c d e f g
def jB(a:Int->aN->(List (List Int))->Option (aN×Bool))(b:List Int)(c:List aC)(d:Int)(e:Int)(f:List Int)(g:aC):Nat->Int->aN->(List (List Int))->Option (aN×Bool)
 |0,_,_,_=>none
 | n+1,o,p,q=>
  bif decide (o<=g.Round) then((chk (decide (0<=(IntKind.u64.wrap (w64 (o+1)))))).bind λ_=>
  (idx q o).bind λh=>
  (idx h (e.fdiv (2^(min (IntKind.u64.wrap (w64 (o+1))).toNat 64)))).bind λi=>
  (bif !decide (i=(-2)) then((idx q o).bind λj=>
  (idx j (e.fdiv (2^(min (IntKind.u64.wrap (w64 (o+1))).toNat 64)))).bind λk=>
  some (!decide (k=g.Player))) else(some false)).bind λl=>
  bif l then(some ((aN.mk ([]:List Int) ([]:List (List Int))),false))
  else((idx q o).bind λm=>
  (idx m (e.fdiv (2^(min (IntKind.u64.wrap (w64 (o+1))).toNat 64)))).bind λ_=>
  (jB a b c d e f g n) (w64 (o+1)) p (q.set o.toNat (m.set (e.fdiv (2^(min (IntKind.u64.wrap (w64 (o+1))).toNat 64))).toNat g.Player))))
  else(yC a b c d p q f)
def iG(a:Int->aN->(List (List Int))->Option (aN×Bool))(b:List Int)(c:List aC)(d:Int)(e:Int)(f:aN)(g:List (List Int))(h:List Int)(i:aC):Option (aN×Bool):=
  (bif decide (e<0) then(some true) else((chk (decide (0<=(IntKind.u64.wrap (w64 (i.Round+1)))))).bind λ_=>
  some (!decide ((e.fdiv (2^(min (IntKind.u64.wrap (w64 (i.Round+1))).toNat 64)))=i.Place)))).bind λj=>
  bif j then(some ((aN.mk ([]:List Int) ([]:List (List Int))),false))
  else(jB a b c d e h i BIG 0 f g)
def dS(a:Int->aN->(List (List Int))->Option (aN×Bool))(b:List Int)(c:List aC)(d:Int)(e:aN)(f:List (List Int))(g:List Int)(h:aC):Nat->Int->Int->Option (aN×Bool)
 |0,_,_=>none
 | j+1,k,l=>
  bif decide (l<(b.length:Int)) then((idx b l).bind λi=>
  bif decide (i=h.Player) then((dS a b c d e f g h j) l (w64 (l+1)))
  else((dS a b c d e f g h j) k (w64 (l+1))))
  else(iG a b c d k e f g h)
def tD(a:Int->aN->(List (List Int))->Option (aN×Bool))(b:List Int)(c:List aC)(d:Int)(e:aN)(f:List (List Int))(g:List Int)(h:aC):Option (aN×Bool):=
  dS a b c d e f g h BIG (-1) 0
def jT(a:Int->aN->(List (List Int))->Option (aN×Bool))(b:List Int)(c:List aC)(d:Int)(e:List (List Int))(f:List Int)(g:aC):Nat->Int->aN->Option (aN×Bool)
 |0,_,_=>none
 | k+1,l,m=>
  bif decide (l<d) then((idx c l).bind λh=>
  (bif !decide (h.Kind=5) then(some (decide (h.Round=g.Round))) else(some false)).bind λi=>
  (bif i then(some (decide (h.Place=g.Place))) else(some false)).bind λj=>
  bif j then(some ((aN.mk ([]:List Int) ([]:List (List Int))),false))
  else((jT a b c d e f g k) (w64 (l+1)) m))
  else(tD a b c d m e f g)
def zZ(_:aN)(a:List (List Int))(b:List Int):Option (aN×Bool):=
  some ((aN.mk b a),true)
def eF(a:List Int)(b:List aC)(c:List Int):Nat->Int->aN->(List (List Int))->Option (aN×Bool)
 |0,_,_,_=>none
 | e+1,f,g,h=>
  bif decide (f<(b.length:Int)) then((idx b f).bind λd=>
  bif decide (d.Kind=5) then(oY (eF a b c e) a b f g h c)
  else(jT (eF a b c e) a b f h c d BIG 0 g))
  else(zZ g h c)
def lY(a:List aC)(b:List Int)(c:aN)(d:List (List Int))(e:List Int):Option (aN×Bool):=
  (sM a).bind λf=>
  eF b f e BIG 0 c d
def jS(a:List aC)(b:List Int)(c:aI)(d:aN):Nat->Int->(List (List Int))->(List Int)->Option (aN×Bool)
 |0,_,_,_=>none
 | e+1,f,g,h=>
  bif decide (f<c.Rounds) then(eE (jS a b c d e) a b f c d g h BIG 0 ([]:List Int))
  else(lY a b d g h)
def eI(a:aI)(b:List aC):Option (aN×Bool):=
  (tC a b).bind λc=>
  bif !c.2 then(some ((aN.mk ([]:List Int) ([]:List (List Int))),false))
  else(jS b c.1 a (aN.mk ([]:List Int) ([]:List (List Int))) BIG 0 ([]:List (List Int)) c.1)
def lF(a:List aC)(b:aI):Option Int:=
  (eI b a).bind λc=>
  bif !c.2 then(some 72)
  else(some 0)
def iZ(a:List aC)(b:aI):Nat->Int->Option Int
 |0,_=>none
 | e+1,f=>
  bif decide (f<(a.length:Int)) then((idx a f).bind λc=>
  (uK b c).bind λd=>
  bif !d then(some 71)
  else((iZ a b e) (w64 (f+1))))
  else(lF a b)
def gE(a:aI)(b:List aC):Option Int:=
  (pQ a).bind λc=>
  bif !c then(some 70)
  else(bif decide (60<(b.length:Int)) then(some 71)
  else(iZ b a BIG 0))
def vB(a:aN)(b:Int)(c:Int)(d:Int):Option Int:=
  bif decide (b=0) then((idx a.Slots (w64 ((w64 (2*c))+d))).bind λe=>
  some e)
  else((idx a.Must (w64 (b-1))).bind λf=>
  (idx f (w64 ((w64 (2*c))+d))).bind λg=>
  some g)
def yB(a:Int->(List aP)->Option ((List aP)))(b:Int)(_:aI)(_:aN)(c:List aP):Option ((List aP)):=
  a (w64 (b+1)) c
def oG(a:Int->(List aP)->Option ((List aP)))(b:Int)(c:aI)(d:aN)(e:List aP):Option ((List aP)):=
  yB a b c d e
def jA(a:Int->(List aP)->Option ((List aP)))(b:Int)(c:aI)(d:aN):Nat->Int->(List aP)->Option ((List aP))
 |0,_,_=>none
 | i+1,j,k=>
  (mX c b).bind λe=>
  bif decide (j<e) then((vB d b j 0).bind λf=>
  (vB d b j 1).bind λg=>
  (app 32 k ([(aP.mk b j f g)])).bind λh=>
  (jA a b c d i) (w64 (j+1)) h)
  else(oG a b c d k)
def yA(a:List aP):Option ((List aP)):=
  some a
def eL(a:aI)(b:aN):Nat->Int->(List aP)->Option ((List aP))
 |0,_,_=>none
 | c+1,d,e=>
  bif decide (d<a.Rounds) then(jA (eL a b c) d a b BIG 0 e)
  else(yA e)
def nW(a:aI)(b:aN):Option ((List aP)):=
  eL a b BIG 0 ([]:List aP)
def lI(a:aI)(b:List aC):Option ((List aP)×Int):=
  (gE a b).bind λc=>
  bif !decide (c=0) then(some (([]:List aP),c))
  else((eI a b).bind λd=>
  (nW a d.1).bind λe=>
  some (e,0))
def xZ(a:List aP):Option ((List aP)×Int):=
  some (a,0)
def fF(a:List aP)(b:aN):Nat->Int->(List aP)->Option ((List aP)×Int)
 |0,_,_=>none
 | m+1,n,o=>
  bif decide (n<(a.length:Int)) then((idx a n).bind λc=>
  (bif decide (0<=c.One) then((idx a n).bind λd=>
  some (decide (0<=d.Two))) else(some false)).bind λe=>
  (bif e then((idx a n).bind λf=>
  (idx b.Must f.Round).bind λg=>
  (idx a n).bind λh=>
  (idx g h.Place).bind λi=>
  some (decide (i=(-2)))) else(some false)).bind λj=>
  bif j then((idx a n).bind λk=>
  (app 32 o ([k])).bind λl=>
  (fF a b m) (w64 (n+1)) l)
  else((fF a b m) (w64 (n+1)) o))
  else(xZ o)
def lJ(a:aI)(b:List aC):Option ((List aP)×Int):=
  (gE a b).bind λc=>
  bif !decide (c=0) then(some (([]:List aP),c))
  else((eI a b).bind λd=>
  (nW a d.1).bind λe=>
  fF e d.1 BIG 0 ([]:List aP))
def jR(a:aI)(b:List aC)(c:Int)(d:Int):Option Int:=
  (gE a b).bind λe=>
  bif !decide (e=0) then(some e)
  else((oX a c d).bind λf=>
  bif !f then(some 1)
  else(some 0))
def gP(a:aI)(b:List aC)(c:Int)(d:Int):Option (Int×Int):=
  (jR a b c d).bind λe=>
  bif !decide (e=0) then(some (0,e))
  else((eI a b).bind λf=>
  (idx f.1.Must c).bind λg=>
  (idx g d).bind λh=>
  bif decide (h=(-2)) then(some (0,3))
  else((idx f.1.Must c).bind λi=>
  (idx i d).bind λj=>
  some (j,0)))
end Go.Am
