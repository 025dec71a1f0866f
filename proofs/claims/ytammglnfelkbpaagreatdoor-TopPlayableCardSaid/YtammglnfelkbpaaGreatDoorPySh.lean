/- Shallow functions, printed by program. -/
import Derived.Test.YtammglnfelkbpaaGreatDoorCdA
import Derived.Test.YtammglnfelkbpaaGreatDoorRfSh
import Derived.Test.YtammglnfelkbpaaGreatDoorAmX3
import Derived.Test.YtammglnfelkbpaaGreatDoorAmByt
namespace Go.Am
structure A5(α:Type) where
 x0:α
 x1:α
 x2:α
 x3:α
 x4:α
 deriving DecidableEq,Inhabited
def A5.at{α:Type}(a:A5 α)(p:Int):α:=if p=0 then a.x0 else if p=1 then a.x1 else if p=2 then a.x2 else if p=3 then a.x3 else a.x4
def A5.set{α:Type}(a:A5 α)(p:Int)(v:α):A5 α:=if p=0 then{a with x0:=v} else if p=1 then{a with x1:=v} else if p=2 then{a with x2:=v} else if p=3 then{a with x3:=v} else{a with x4:=v}
theorem A5.cellI{a:A5 Int}{p:Int}{u:Unit}(h:inb 5 p=some u){ds:List D}{j:Nat}(h0:ds[j+0]?=some (.lit (.int .i64 a.x0)))(h1:ds[j+1]?=some (.lit (.int .i64 a.x1)))(h2:ds[j+2]?=some (.lit (.int .i64 a.x2)))(h3:ds[j+3]?=some (.lit (.int .i64 a.x3)))(h4:ds[j+4]?=some (.lit (.int .i64 a.x4))):ds[j+p.toNat*1]?=some (.lit (.int .i64 (a.at p))):=by
 obtain⟨a1,a2⟩:=iU h
 have:p=0\/p=1\/p=2\/p=3\/p=4:=by omega
 rcases this with rfl|rfl|rfl|rfl|rfl
 ·exact h0
 ·exact h1
 ·exact h2
 ·exact h3
 ·exact h4
theorem A5.celzI{a:A5 Int}{p:Int}{u:Unit}(h:inb 5 p=some u){ds:List D}(h0:ds[0]?=some (.lit (.int .i64 a.x0)))(h1:ds[1]?=some (.lit (.int .i64 a.x1)))(h2:ds[2]?=some (.lit (.int .i64 a.x2)))(h3:ds[3]?=some (.lit (.int .i64 a.x3)))(h4:ds[4]?=some (.lit (.int .i64 a.x4))):ds[p.toNat*1]?=some (.lit (.int .i64 (a.at p))):=by
 obtain⟨a1,a2⟩:=iU h
 have:p=0\/p=1\/p=2\/p=3\/p=4:=by omega
 rcases this with rfl|rfl|rfl|rfl|rfl
 ·exact h0
 ·exact h1
 ·exact h2
 ·exact h3
 ·exact h4
theorem A5.updI{a:A5 Int}{p:Int}{v:Int}{u:Unit}(h:inb 5 p=some u){ds:List D}{j:Nat}(f:A5 Int->List D)(h0:dO ds (j+0) [.lit (.int .i64 v)]=f {a with x0:=v})(h1:dO ds (j+1) [.lit (.int .i64 v)]=f {a with x1:=v})(h2:dO ds (j+2) [.lit (.int .i64 v)]=f {a with x2:=v})(h3:dO ds (j+3) [.lit (.int .i64 v)]=f {a with x3:=v})(h4:dO ds (j+4) [.lit (.int .i64 v)]=f {a with x4:=v}):dO ds (j+p.toNat*1) [.lit (.int .i64 v)]=f (a.set p v):=by
 obtain⟨a1,a2⟩:=iU h
 have:p=0\/p=1\/p=2\/p=3\/p=4:=by omega
 rcases this with rfl|rfl|rfl|rfl|rfl
 ·exact h0
 ·exact h1
 ·exact h2
 ·exact h3
 ·exact h4
def nH:Option Bool:=
  (sH).bind λa=>
  (oO a ([([111,112,101,110,32,48,32,48,32,49]:Str),([112,111,105,110,116,32,48]:Str),([112,111,105,110,116,32,48]:Str)])).bind λb=>
  (xC).bind λc=>
  (aHh c).bind λd=>
  (sG).bind λe=>
  (aHp e).bind λf=>
  (sF).bind λg=>
  (aOi g.1 g.2).bind λh=>
  (bif decide (b.2.2=0) then(some (decide (d.2=0))) else(some false)).bind λi=>
  (bif i then(some (decide (f.2=0))) else(some false)).bind λj=>
  (bif j then(some (decide (h.2=0))) else(some false)).bind λk=>
  (bif k then(some (decide ((b.1.length:Int)=3))) else(some false)).bind λl=>
  (bif l then((idx b.1 2).bind λm=>
  some (decide (m=([55]:Str)))) else(some false)).bind λn=>
  (bif n then(some (decide ((b.2.1.Slips.length:Int)=1))) else(some false)).bind λo=>
  (bif o then(some (decide (d.1=(-1)))) else(some false)).bind λp=>
  (bif p then(some (decide (f.1=1501))) else(some false)).bind λq=>
  (bif q then(some (decide (h.1=1))) else(some false)).bind λr=>
  some r
def rW(a:List Str):Option Bool:=
  (idx a (w64 ((a.length:Int)-2))).bind λb=>
  (bif decide (b=([48]:Str)) then((idx a (w64 ((a.length:Int)-1))).bind λc=>
  some (decide (c=([48]:Str)))) else(some false)).bind λd=>
  (bif d then((nH).bind λe=>
  some e) else(some false)).bind λf=>
  some f
def iM(a:List aF)(b:List Str)(c:dJ):Nat->Int->Option Bool
 |0,_=>none
 | m+1,n=>
  bif decide (n<(a.length:Int)) then((idx b (w64 (2*n))).bind λd=>
  (bif !decide (d=([111,107]:Str)) then(some true) else((idx c.Slips n).bind λe=>
  some (decide (e.Player<0)))).bind λf=>
  (bif f then(some true) else((idx b (w64 ((w64 (2*n))+1))).bind λg=>
  (idx c.Slips n).bind λh=>
  (bV h.Player).bind λi=>
  some (!decide (g=i)))).bind λj=>
  (bif j then(some true) else((idx c.Slips n).bind λk=>
  some (!decide (k.Kind=3)))).bind λl=>
  bif l then(some false)
  else((iM a b c m) (w64 (n+1))))
  else(rW b)
def lB(a:List aF)(b:dK)(c:List Str):Option Bool:=
  (app 16 c ([([108,101,102,116]:Str),([106,111,98,115]:Str)])).bind λd=>
  (oO b d).bind λe=>
  (bif !decide (e.2.2=0) then(some true) else(some (!decide ((e.1.length:Int)=(d.length:Int))))).bind λf=>
  (bif f then(some true) else(some (!decide ((e.2.1.Slips.length:Int)=(a.length:Int))))).bind λg=>
  bif g then(some false)
  else(iM a e.1 e.2.1 BIG 0)
def eH(a:List Int)(b:List aG)(c:List aF)(d:dK):Nat->Int->(List Str)->Option Bool
 |0,_,_=>none
 | a6+1,a7,a8=>
  bif decide (a7<(c.length:Int)) then((idx c a7).bind λe=>
  (idx b e.Job).bind λf=>
  (bif decide (a7<(a.length:Int)) then((idx a a7).bind λg=>
  some (decide (g=1))) else(some false)).bind λh=>
  bif h then((bif decide (f.Round<0) then(some true) else(some (decide (f.Place<0)))).bind λi=>
  bif i then(some false)
  else((bV f.Round).bind λj=>
  (lZ ([111,112,101,110,32]:Str) j).bind λk=>
  (lZ k ([32]:Str)).bind λl=>
  (bV f.Place).bind λm=>
  (lZ l m).bind λn=>
  (lZ n ([32]:Str)).bind λo=>
  (bV 1).bind λp=>
  (lZ o p).bind λq=>
  (bV 1).bind λr=>
  (lZ ([114,101,116,105,114,101,32]:Str) r).bind λs=>
  (app 16 a8 ([q,s])).bind λt=>
  (eH a b c d a6) (w64 (a7+1)) t))
  else((bif decide (f.Round<0) then(some true) else(some (decide (f.Place<0)))).bind λu=>
  bif u then(some false)
  else((bV f.Round).bind λv=>
  (lZ ([111,112,101,110,32]:Str) v).bind λw=>
  (lZ w ([32]:Str)).bind λx=>
  (bV f.Place).bind λy=>
  (lZ x y).bind λz=>
  (lZ z ([32]:Str)).bind λa0=>
  (bV 0).bind λa1=>
  (lZ a0 a1).bind λa2=>
  (bV 0).bind λa3=>
  (lZ ([114,101,116,105,114,101,32]:Str) a3).bind λa4=>
  (app 16 a8 ([a2,a4])).bind λa5=>
  (eH a b c d a6) (w64 (a7+1)) a5)))
  else(lB c d a8)
def vE(a:dK)(b:List Int):Option Bool:=
  (yN a ([]:List Str)).bind λc=>
  (bif !c then(some true) else(some (decide (10<(b.length:Int))))).bind λd=>
  bif d then((nH).bind λe=>
  some e)
  else((oW a.Tree ([]:List aA) a.Stages).bind λf=>
  (bif !decide (f.2.2=0) then(some true) else(some (decide (3<(f.1.length:Int))))).bind λg=>
  (bif g then(some true) else(some (!decide ((f.2.1.length:Int)=(f.1.length:Int))))).bind λh=>
  bif h then(some false)
  else((oE (aH.mk a.Days a.Rest f.1)).bind λi=>
  bif !decide (i=0) then(some false)
  else((aKs (aH.mk a.Days a.Rest f.1)).bind λj=>
  bif !decide (j.2=0) then((bif decide (j.2=3) then((nH).bind λk=>
  some k) else(some false)).bind λl=>
  some l)
  else((oQ (aH.mk a.Days a.Rest f.1) j.1).bind λm=>
  bif !m then(some false)
  else(eH b f.2.1 j.1 a BIG 0 ([]:List Str))))))
end Go.Am
