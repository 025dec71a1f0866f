/- Shallow functions, printed by program. -/
import Derived.Test.YtdebnakalmnnpaaGreatDoorCdA
import Derived.Test.YtdebnakalmnnpaaGreatDoorRfSh
import Derived.Test.YtdebnakalmnnpaaGreatDoorAmVal
import Derived.Test.YtdebnakalmnnpaaGreatDoorAmEnt
namespace Go.Am
structure A5(α:Type) where
 x0:α
 x1:α
 x2:α
 x3:α
 x4:α
 deriving DecidableEq,Inhabited
def A5.at{α:Type}(a:A5 α)(p:Int):α:=if p=0 then a.x0 else if p=1 then a.x1 else if p=2 then a.x2 else if p=3 then a.x3 else a.x4
def A5.set{α:Type}(a:A5 α)(p:Int)(v:α):A5 α:=if p=0 then{a with x0:=v} else if p=1 then{a with x1:=v} else if p=2 then{a with x2:=v} else if p=3 then{a with x3:=v} else{a with x4:=v}
structure lK where
 Side:Int
 View:bQ
 Box:dZ
 Mark:iU
 deriving DecidableEq,Inhabited
def aBi(x:lK):List D:=[.lit (.int .i64 x.Side),.lit (.int .i64 x.View.Size),.sl 4 (x.View.Strips.map gN),.lit (.int .i64 x.View.Wrong),.lit (.int .i64 x.View.HalfX.Low),.lit (.int .i64 x.View.HalfX.High),.lit (.int .i64 x.View.HalfY.Low),.lit (.int .i64 x.View.HalfY.High),.lit (.int .i64 x.Box.Left),.lit (.int .i64 x.Box.Right),.lit (.int .i64 x.Box.Bottom),.lit (.int .i64 x.Box.Top),.lit (.int .i64 x.Mark.X),.lit (.int .i64 x.Mark.Y),.lit (.int .i64 x.Mark.HalfX),.lit (.int .i64 x.Mark.HalfY)]
def aQl(x:List lK):List D:=[.sl 16 (x.map aBi)]
def tH(x:lK):Prop:=okI x.Side/\bEd x.View/\bIm x.Box/\bEb x.Mark
def pI:Option cT:=
  some (cT.mk (oO.mk 3 1 1 10 20) (aD.mk 1 ([7,8])) (bU.mk 1 1 false (-1) 1 0 2 0 0 false) ([[(bO.mk 600 700)]]) 0 ([(bP.mk (bO.mk 30 60) 0)]))
def pG:Option (bQ×dZ):=
  some ((bQ.mk 10 ([(dT.mk 1 0 4 5),(dT.mk 0 1 6 6),(dT.mk 1 1 9 12)]) 0 (bO.mk 2 2) (bO.mk 1 2)),(dZ.mk 0 3 0 10))
def iD:Option Bool:=
  (pI).bind λa=>
  (pE a ([([111,112,101,110,32,48,32,48,32,49]:Str),([112,111,105,110,116,32,48]:Str),([112,111,105,110,116,32,48]:Str)])).bind λb=>
  (sZ).bind λc=>
  (aHs c).bind λd=>
  (pH).bind λe=>
  (aDl e).bind λf=>
  (pG).bind λg=>
  (wE g.1 g.2).bind λh=>
  (bif decide (b.2.2=0) then(some (decide (d.2=0))) else(some false)).bind λi=>
  (bif i then(some (decide (f.2=0))) else(some false)).bind λj=>
  (bif j then(some (decide (h.2=0))) else(some false)).bind λk=>
  (bif k then(some (decide ((b.1.length:Int)=3))) else(some false)).bind λl=>
  (bif l then((idx b.1 2).bind λm=>
  some (decide (m=([55]:Str)))) else(some false)).bind λn=>
  (bif n then(some (decide ((b.2.1.Slips.length:Int)=1))) else(some false)).bind λo=>
  (bif o then(some (decide (d.1=(-1)))) else(some false)).bind λp=>
  (bif p then(some (decide (f.1=1501))) else(some false)).bind λq=>
  (bif q then(some (decide (h.1=1))) else(some false)).bind λr=>
  some r
def rP(a:List Int)(b:bL):Option Bool:=
  bif decide (b.Round=(-1)) then((iD).bind λc=>
  some c)
  else((lF b.Points a).bind λd=>
  (bif d then((iD).bind λe=>
  some e) else(some false)).bind λf=>
  some f)
def fO(a:List Str)(b:List Str)(c:List Int)(d:bL):Nat->Int->Option Bool
 |0,_=>none
 | g+1,h=>
  bif decide (h<(a.length:Int)) then((idx a h).bind λe=>
  (idx b h).bind λf=>
  bif !decide (e=f) then(some false)
  else((fO a b c d g) (w64 (h+1))))
  else(rP c d)
def nB(a:cT)(b:List Int)(c:List Str)(d:List Str):Option Bool:=
  (pE a c).bind λe=>
  (pE a d).bind λf=>
  (bif !decide (e.2.2=0) then(some true) else(some (!decide (f.2.2=0)))).bind λg=>
  (bif g then(some true) else(some (!decide ((e.1.length:Int)=(f.1.length:Int))))).bind λh=>
  (bif h then(some true) else((kT e.2.1 f.2.1).bind λi=>
  some (!i))).bind λj=>
  bif j then(some false)
  else(fO e.1 f.1 b e.2.1 BIG 0)
def dV(a:List lK)(b:List Int)(c:cT):Nat->Int->(List Int)->(List Str)->(List Str)->Option Bool
 |0,_,_,_,_=>none
 | b0+1,b1,b2,b3,b4=>
  bif decide (b1<(a.length:Int)) then((idx a b1).bind λd=>
  (bif decide (d.Side<0) then(some true) else(some (decide (1<d.Side)))).bind λe=>
  (bif e then(some true) else((idx b b1).bind λf=>
  (bif !decide (f=1) then((idx b b1).bind λg=>
  some (!decide (g=2))) else(some false)).bind λh=>
  some h)).bind λi=>
  (bif i then(some true) else((rI d.View).bind λj=>
  some j)).bind λk=>
  (bif k then(some true) else((lS d.View).bind λl=>
  some (!decide (l=0)))).bind λm=>
  (bif m then(some true) else((oS d.Box).bind λn=>
  some (!n))).bind λo=>
  (bif o then(some true) else((mE d.View d.Mark).bind λp=>
  some (!p))).bind λq=>
  bif q then((iD).bind λr=>
  some r)
  else((wE d.View d.Box).bind λs=>
  bif !decide (s.2=0) then(some false)
  else(bif decide (s.1=3) then((iD).bind λt=>
  some t)
  else((idx b b1).bind λu=>
  (vB u d.View d.Box).bind λv=>
  (idx b b1).bind λw=>
  (vB (w64 (3-w)) d.View d.Box).bind λx=>
  (bif !decide (v.2.2=0) then(some true) else(some (!decide (x.2.2=0)))).bind λy=>
  bif y then(some false)
  else((pY d.Side v.1).bind λz=>
  (mN z).bind λa0=>
  (aTb ([112,111,105,110,116,32]:Str) a0).bind λa1=>
  (app 16 b3 ([a1])).bind λa2=>
  (pY d.Side x.1).bind λa3=>
  (mN a3).bind λa4=>
  (aTb ([112,111,105,110,116,32]:Str) a4).bind λa5=>
  (app 16 b4 ([a5])).bind λa6=>
  (fN d.Mark d.Box).bind λa7=>
  bif !a7 then((app 8 b2 ([w64 (1-d.Side)])).bind λa8=>
  (dV a b c b0) (w64 (b1+1)) a8 a2 a6)
  else((app 8 b2 ([d.Side])).bind λa9=>
  (dV a b c b0) (w64 (b1+1)) a9 a2 a6))))))
  else(nB c b2 b3 b4)
def pX(a:cT)(b:List lK)(c:List Int):Option Bool:=
  (uU a ([]:List Str)).bind λd=>
  (bif !d then(some true) else(some (decide (6<(b.length:Int))))).bind λe=>
  (bif e then(some true) else(some (!decide ((c.length:Int)=(b.length:Int))))).bind λf=>
  bif f then((iD).bind λg=>
  some g)
  else(dV b c a BIG 0 ([]:List Int) ([([111,112,101,110,32,48,32,48,32,48]:Str)]) ([([111,112,101,110,32,48,32,48,32,48]:Str)]))
end Go.Am
