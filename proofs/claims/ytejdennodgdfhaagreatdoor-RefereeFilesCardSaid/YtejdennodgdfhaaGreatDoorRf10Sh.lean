/- Shallow functions, printed by program. -/
import Derived.Test.YtejdennodgdfhaaGreatDoorRfSh
namespace Go.Am
def tA:Option oN:=
  some (oN.mk (fW.mk 3 1 1 10 20) (aI.mk 1 ([7,8])) (kT.mk 1 1 false (-1) 1 0 2 0 0 false) ([[(cR.mk 600 700)]]) 0 ([(eJ.mk (cR.mk 30 60) 0)]))
def uF:Option Bool:=
  some true
def dZ(a:List Str)(b:List Str):Nat->Int->Option Bool
 |0,_=>none
 | e+1,f=>
  bif decide (f<(a.length:Int)) then((idx a f).bind λc=>
  (idx b f).bind λd=>
  bif !decide (c=d) then(some false)
  else((dZ a b e) (w64 (f+1))))
  else(uF)
def iN(a:List Str)(b:List Str):Option Bool:=
  bif !decide ((a.length:Int)=(b.length:Int)) then(some false)
  else(dZ a b BIG 0)
def lH:Option Bool:=
  (tA).bind λa=>
  (aFr a ([([101,110,116,101,114,32,53,32,50,48]:Str),([111,112,101,110,32,48,32,48,32,49]:Str),([112,111,105,110,116,32,48]:Str),([115,99,111,114,101]:Str),([112,111,105,110,116,32,48]:Str),([109,97,105,110]:Str),([104,111,117,114,32,48,55]:Str)])).bind λb=>
  (mT ([([109,97,105,110]:Str)])).bind λc=>
  (bif decide (b.2.2=0) then(some (decide (c.2=0))) else(some false)).bind λd=>
  (bif d then(some (decide (c.1=([97,109,97,105,110,124,51,51,10]:Str)))) else(some false)).bind λe=>
  (bif e then((iN b.1 ([([111,107]:Str),([111,107]:Str),([111,107]:Str),([48,45,48,32,49,45,48]:Str),([55]:Str),([53]:Str),([63]:Str)])).bind λf=>
  some f) else(some false)).bind λg=>
  (bif g then(some (decide ((b.2.1.Slips.length:Int)=1))) else(some false)).bind λh=>
  (bif h then(some (decide (b.2.1.Round=(-1)))) else(some false)).bind λi=>
  some i
def mW(a:List Str):Option ((List Str)):=
  (app 16 ([]:List Str) a).bind λb=>
  some b
def rE(a:Str):Option Bool:=
  some (decide ((a.length:Int)<=30))
def eW(a:Str):Nat->Int->Option Bool
 |0,_=>none
 | e+1,f=>
  bif decide (f<(a.length:Int)) then((sat a f).bind λb=>
  (bif decide (b<32) then(some true) else((sat a f).bind λc=>
  some (decide (126<c)))).bind λd=>
  bif d then(some false)
  else((eW a e) (w64 (f+1))))
  else(rE a)
def kR(a:Str):Option Bool:=
  eW a BIG 0
def nB(a:Str)(b:Str)(c:Int):Option Str:=
  (mE b ([124]:Str)).bind λd=>
  (sub a (w64 ((c.tmod 97).tdiv 10)) (w64 ((w64 ((c.tmod 97).tdiv 10))+1))).bind λe=>
  (mE d e).bind λf=>
  (sub a ((c.tmod 97).tmod 10) (w64 (((c.tmod 97).tmod 10)+1))).bind λg=>
  (mE f g).bind λh=>
  (mE h ([10]:Str)).bind λi=>
  some i
def eX(a:Str)(b:Str):Nat->Int->Int->Option Str
 |0,_,_=>none
 | d+1,e,f=>
  bif decide (f<(b.length:Int)) then((sat b f).bind λc=>
  (eX a b d) (w64 (e+(w64 c))) (w64 (f+1)))
  else(nB a b e)
def kS(a:Str)(b:Int):Option Str:=
  (sub ([97,98,99,100,101,102,103,104,105,106,107,108,109,110,111,112,113,114,115,116,117,118,119,120,121,122]:Str) (b.tmod 26) (w64 ((b.tmod 26)+1))).bind λc=>
  (mE c a).bind λd=>
  eX ([48,49,50,51,52,53,54,55,56,57]:Str) d BIG 0 0
def sF(a:Str):Option (Str×Int):=
  some (a,0)
def gS(a:List Str):Nat->Str->Int->Option (Str×Int)
 |0,_,_=>none
 | g+1,h,i=>
  bif decide (i<(a.length:Int)) then((idx a i).bind λb=>
  (kR b).bind λc=>
  bif !c then(some (([]:Str),121))
  else((idx a i).bind λd=>
  (kS d i).bind λe=>
  (mE h e).bind λf=>
  (gS a g) f (w64 (i+1))))
  else(sF h)
def nY(a:List Str):Option (Str×Int):=
  bif decide (80<(a.length:Int)) then(some (([]:Str),2))
  else(gS a BIG ([]:Str) 0)
def strings_Cut(s sep:Str):Option (Str×Str×Bool):=bEd s sep
def aEo(a:List Str):Option ((List Str)×Int×Int):=
  some (a,0,0)
def mQ:Nat->Str->Int->(List Str)->Option ((List Str)×Int×Int)
 |0,_,_,_=>none
 | j+1,k,l,m=>
  bif !decide (k=([]:Str)) then((strings_Cut k ([10]:Str)).bind λa=>
  (mE a.1 ([10]:Str)).bind λb=>
  (bif decide (80<=l) then(some true) else(some (!a.2.2))).bind λc=>
  (bif c then(some true) else(some (decide ((b.length:Int)<5)))).bind λd=>
  bif d then(some (([]:List Str),l,122))
  else((sub b 1 (w64 ((b.length:Int)-4))).bind λe=>
  (lK e).bind λf=>
  (bif !f then(some true) else((nS e l).bind λg=>
  some (!decide (g=b)))).bind λh=>
  bif h then(some (([]:List Str),l,122))
  else((app 16 m ([e])).bind λi=>
  (mQ j) a.2.1 (w64 (l+1)) i)))
  else(aEo m)
def xL(a:Str):Option ((List Str)×Int×Int):=
  mQ BIG a 0 ([]:List Str)
def aAc(a:Str->(List Str)->Option ((List Str)×Int×Int))(b:Str)(c:List Str):Option ((List Str)×Int×Int):=
  a b c
def jV(a:Str->(List Str)->Option ((List Str)×Int×Int))(b:Str)(c:Int)(d:Int)(e:List Str):Option ((List Str)×Int×Int):=
  (bif decide (d=(b.length:Int)) then(some true) else(some (decide (d<4)))).bind λf=>
  bif f then(some (([]:List Str),c,122))
  else((sub b 1 (w64 (d-3))).bind λg=>
  (kR g).bind λh=>
  (bif !h then(some true) else((sub b 0 (w64 (d+1))).bind λi=>
  (kS g c).bind λj=>
  some (!decide (i=j)))).bind λk=>
  bif k then(some (([]:List Str),c,122))
  else((app 16 e ([g])).bind λl=>
  (sub b (w64 (d+1)) (b.length:Int)).bind λm=>
  aAc a m l))
def fU(a:Str->(List Str)->Option ((List Str)×Int×Int))(b:Str)(c:Int)(d:List Str):Nat->Int->Option ((List Str)×Int×Int)
 |0,_=>none
 | g+1,h=>
  (bif decide (h<(b.length:Int)) then((sat b h).bind λe=>
  some (!decide (e=10))) else(some false)).bind λf=>
  bif f then((fU a b c d g) (w64 (h+1)))
  else(jV a b c h d)
def aAb(a:List Str):Option ((List Str)×Int×Int):=
  some (a,0,0)
def iH:Nat->Str->(List Str)->Option ((List Str)×Int×Int)
 |0,_,_=>none
 | a+1,b,c=>
  bif decide (0<(b.length:Int)) then(bif decide ((c.length:Int)=80) then(some (([]:List Str),(c.length:Int),122))
  else(fU (iH a) b (c.length:Int) c BIG 0))
  else(aAb c)
def sN(a:Str):Option ((List Str)×Int×Int):=
  iH BIG a ([]:List Str)
def gJ(a:List Str)(b:Str):Option Bool:=
  (mW a).bind λc=>
  (mT c).bind λd=>
  (nY a).bind λe=>
  (xL b).bind λf=>
  (sN b).bind λg=>
  (bif decide (d.1=e.1) then(some (decide (d.2=e.2))) else(some false)).bind λh=>
  (bif h then((iN f.1 g.1).bind λi=>
  some i) else(some false)).bind λj=>
  (bif j then(some (decide (f.2.1=g.2.1))) else(some false)).bind λk=>
  (bif k then(some (decide (f.2.2=g.2.2))) else(some false)).bind λl=>
  (bif l then((lH).bind λm=>
  some m) else(some false)).bind λn=>
  some n
def dK(a:List Str)(b:Str):Nat->Int->Option Bool
 |0,_=>none
 | e+1,f=>
  bif decide (f<(a.length:Int)) then((idx a f).bind λc=>
  bif decide (200<(c.length:Int)) then((lH).bind λd=>
  some d)
  else((dK a b e) (w64 (f+1))))
  else(gJ a b)
def lE(a:List Str)(b:Str):Option Bool:=
  (bif decide (100<(a.length:Int)) then(some true) else(some (decide (4000<(b.length:Int))))).bind λc=>
  bif c then((lH).bind λd=>
  some d)
  else(dK a b BIG 0)
end Go.Am
