/- Shallow functions of the referee, by hand. -/
import Derived.Test.YtejdennodgdfhaaGreatDoorRgSh
import Derived.Test.YtejdennodgdfhaaGreatDoorAmSortF0
namespace Go.Am
def qL(a:List cR):Option ((List cR)):=
  (app 16 ([]:List cR) a).bind λb=>
  some b
def rH(a:oN):Nat->Int->List (List cR)->Option aS
 |0,_,_=>none
 | k+1,i,l=>
  bif decide (i<(a.Days.length:Int)) then((idx a.Days i).bind λx=>
  (qL x).bind λr=>
  (app 24 l [r]).bind λb=>rH a k (w64 (i+1)) b)
  else some (aS.mk a (dQ.mk 0 [] [] (-1) (-1) 0 [] l) (aP.mk 0 0 0 0))
def aBg(a:oN):Option aS:=rH a BIG 0 []
def ask(f:aS->Option Str)(x:aS):Option (Str×aS):=(f x).map λs=>(s,x)
def uJ(a:List Int)(k:Nat):Int:=a.getD k 0
def bOh(k:Int)(x:aS)(p q:Int):Option (Str×aS):=jC x k p q
def bNw(g:eT->Option (List Int))(x:aS):Option (Str×aS):=ask (λx=>nE x g) x
structure aSk where
 word:Str
 k:Nat
 F:Value->D
 f:aS->List Int->Option (Str×aS)
def aMe:List aSk:=
  [⟨[109,97,105,110],0,λv=>.fc false 221 [.pt [.fc false 135 [.pt [.lit v],.pt [.fc false 147 []]]]],λx _=>bNw qI x⟩,
   ⟨[119,105,108,100,115],0,λv=>.fc false 221 [.pt [.fc false 135 [.pt [.lit v],.pt [.fc false 148 []]]]],λ_ _=>none⟩,
   ⟨[111,117,116],0,λv=>.fc false 221 [.pt [.fc false 135 [.pt [.lit v],.pt [.fc false 149 []]]]],λ_ _=>none⟩,
   ⟨[115,99,111,114,101],0,λv=>.fc false 221 [.pt [.fc true 150 [.lit v]]],λx _=>ask tN x⟩,
   ⟨[115,101,114,118,101,114],0,λv=>.fc false 221 [.pt [.fc true 151 [.lit v]]],λ_ _=>none⟩,
   ⟨[108,101,102,116],0,λv=>.fc false 221 [.pt [.fc true 152 [.lit v]]],λ_ _=>none⟩,
   ⟨[106,111,98,115],0,λv=>.fc false 221 [.pt [.fc true 153 [.lit v]]],λ_ _=>none⟩,
   ⟨[110,101,101,100],0,λv=>.fc false 221 [.pt [.fc true 154 [.lit v]]],λ_ _=>none⟩,
   ⟨[115,116,117,99,107],0,λv=>.fc false 221 [.pt [.fc true 155 [.lit v]]],λ_ _=>none⟩,
   ⟨[104,111,117,114],1,λv=>.fc false 223 [.pt [.fc true 156 [.lit v]]],λ_ _=>none⟩,
   ⟨[119,105,108,100],1,λv=>.fc false 223 [.pt [.fc false 139 [.pt [.lit v],.pt [.lit (.int .i64 3)]]]],λ_ _=>none⟩,
   ⟨[113,117,105,116],1,λv=>.fc false 223 [.pt [.fc false 139 [.pt [.lit v],.pt [.lit (.int .i64 4)]]]],λ_ _=>none⟩,
   ⟨[115,105,103,110],1,λv=>.fc false 223 [.pt [.fc false 139 [.pt [.lit v],.pt [.lit (.int .i64 5)]]]],λ_ _=>none⟩,
   ⟨[115,116,97,110,100],1,λv=>.fc false 223 [.pt [.fc true 157 [.lit v]]],λ_ _=>none⟩,
   ⟨[112,111,105,110,116],1,λv=>.fc false 223 [.pt [.fc true 158 [.lit v]]],λx a=>mD x (uJ a 0)⟩,
   ⟨[114,101,116,105,114,101],1,λv=>.fc false 223 [.pt [.fc false 145 [.pt [.lit v],.pt [.lit (.int .i64 3)]]]],λ_ _=>none⟩,
   ⟨[100,101,102,97,117,108,116],1,λv=>.fc false 223 [.pt [.fc false 145 [.pt [.lit v],.pt [.lit (.int .i64 4)]]]],λ_ _=>none⟩,
   ⟨[101,110,116,101,114],2,λv=>.fc false 225 [.pt [.fc false 143 [.pt [.lit v],.pt [.lit (.int .i64 1)]]]],λx a=>bOh 1 x (uJ a 0) (uJ a 1)⟩,
   ⟨[103,117,97,114,100],2,λv=>.fc false 225 [.pt [.fc false 143 [.pt [.lit v],.pt [.lit (.int .i64 2)]]]],λ_ _=>none⟩,
   ⟨[119,105,110,110,101,114],2,λv=>.fc false 225 [.pt [.fc true 159 [.lit v]]],λ_ _=>none⟩,
   ⟨[109,97,121],2,λv=>.fc false 225 [.pt [.fc true 160 [.lit v]]],λ_ _=>none⟩,
   ⟨[111,112,101,110],3,λv=>.fc false 235 [.pt [.fc true 162 [.lit v]]],λx a=>mY x (uJ a 0) (uJ a 1) (uJ a 2)⟩,
   ⟨[119,97,108,107],3,λv=>.fc false 235 [.pt [.fc true 163 [.lit v]]],λ_ _=>none⟩,
   ⟨[108,117,99,107,121],3,λv=>.fc false 235 [.pt [.fc true 164 [.lit v]]],λ_ _=>none⟩,
   ⟨[99,108,111,115,101],4,λv=>.fc false 165 [.pt [.lit v]],λ_ _=>none⟩]
def aEj(w:Str):List aSk->Option aSk
 |[]=>none
 |l::t=>bif decide (w=l.word) then some l else aEj w t
def yF(x:aS)(a:Str):Option (Str×aS):=
 (aBh a).bind λp=>bif !p.2.2 then some ([63],x) else match aEj p.1 aMe with
  |none=>some ([63],x)
  |some l=>bif decide (p.2.1.length=l.k) then l.f x p.2.1 else some ([63],x)
def aBi:dQ:=dQ.mk 0 [] [] 0 0 0 [] []
def qH(a:List Str):Nat->Int->aS->List Str->Option (List Str×aS)
 |0,_,_,_=>none
 | k+1,i,d,l=>
  bif decide (i<(a.length:Int)) then((idx a i).bind λx=>
  (yF d x).bind λr=>
  (app 16 l [r.1]).bind λb=>qH a k (w64 (i+1)) r.2 b)
  else some (l,d)
def aFr(a:oN)(b:List Str):Option (List Str×dQ×Int):=
  (aBf a).bind λe=>
  bif !decide (e=0) then some ([],aBi,e)
  else bif decide (80<(b.length:Int)) then some ([],aBi,2)
  else((aBg a).bind λd=>(qH b BIG 0 d []).bind λp=>some (p.1,p.2.Register,0))
def gU(a:Str):Nat->Nat->Option Bool
 |0,_=>none
 | k+1,p=>match a[p]? with
  |none=>some (decide (a.length<=30))
  |some c=>bif decide (c.toNat<32)||decide (126<c.toNat) then some false else gU a k (p+1)
def lK(a:Str):Option Bool:=gU a BIG 0
def gH(l:List Str):Nat->Int->Str->Option (Str×Int)
 |0,_,_=>none
 | k+1,i,c=>bif decide (i<(l.length:Int)) then((idx l i).bind λa=>
   (lK a).bind λb=>bif !b then some ([],121)
   else((nS a i).bind λq=>bif decide (c.length+q.length<=140737488355328) then gH l k (w64 (i+1)) (c++q) else none))
  else some (c,0)
def mT(l:List Str):Option (Str×Int):=bif decide (80<l.length) then some ([],2) else gH l BIG 0 []
end Go.Am
