/- Shallow functions of the referee, by hand. -/
import Derived.Test.YtdebnakalmnnpaaGreatDoorRgSh
import Derived.Test.YtdebnakalmnnpaaGreatDoorAmByt
namespace Go.Am
def qC(a:List bO):Option ((List bO)):=
  (app 16 ([]:List bO) a).bind λb=>
  some b
def lY(a:cT):Nat->Int->List (List bO)->Option aK
 |0,_,_=>none
 | k+1,i,l=>
  bif decide (i<(a.Days.length:Int)) then((idx a.Days i).bind λx=>
  (qC x).bind λr=>
  (app 24 l [r]).bind λb=>lY a k (w64 (i+1)) b)
  else some (aK.mk a (bL.mk 0 [] [] (-1) (-1) 0 [] l) (aE.mk 0 0 0 0))
def wW(a:cT):Option aK:=lY a BIG 0 []
def ask(f:aK->Option Str)(x:aK):Option (Str×aK):=(f x).map λs=>(s,x)
def aLa(a:List Int)(k:Nat):Int:=a.getD k 0
structure bAs where
 word:Str
 k:Nat
 F:Value->D
 f:aK->List Int->Option (Str×aK)
def aYc:List bAs:=
  [⟨[109,97,105,110],0,λv=>.fc false 175 [.pt [.fc false 106 [.pt [.lit v],.pt [.fc false 118 []]]]],λ_ _=>none⟩,
   ⟨[119,105,108,100,115],0,λv=>.fc false 175 [.pt [.fc false 106 [.pt [.lit v],.pt [.fc false 119 []]]]],λ_ _=>none⟩,
   ⟨[111,117,116],0,λv=>.fc false 175 [.pt [.fc false 106 [.pt [.lit v],.pt [.fc false 120 []]]]],λ_ _=>none⟩,
   ⟨[115,99,111,114,101],0,λv=>.fc false 175 [.pt [.fc true 121 [.lit v]]],λ_ _=>none⟩,
   ⟨[115,101,114,118,101,114],0,λv=>.fc false 175 [.pt [.fc true 122 [.lit v]]],λ_ _=>none⟩,
   ⟨[108,101,102,116],0,λv=>.fc false 175 [.pt [.fc true 123 [.lit v]]],λ_ _=>none⟩,
   ⟨[106,111,98,115],0,λv=>.fc false 175 [.pt [.fc true 124 [.lit v]]],λ_ _=>none⟩,
   ⟨[110,101,101,100],0,λv=>.fc false 175 [.pt [.fc true 125 [.lit v]]],λ_ _=>none⟩,
   ⟨[115,116,117,99,107],0,λv=>.fc false 175 [.pt [.fc true 126 [.lit v]]],λ_ _=>none⟩,
   ⟨[104,111,117,114],1,λv=>.fc false 178 [.pt [.fc true 127 [.lit v]]],λ_ _=>none⟩,
   ⟨[119,105,108,100],1,λv=>.fc false 178 [.pt [.fc false 110 [.pt [.lit v],.pt [.lit (.int .i64 3)]]]],λ_ _=>none⟩,
   ⟨[113,117,105,116],1,λv=>.fc false 178 [.pt [.fc false 110 [.pt [.lit v],.pt [.lit (.int .i64 4)]]]],λ_ _=>none⟩,
   ⟨[115,105,103,110],1,λv=>.fc false 178 [.pt [.fc false 110 [.pt [.lit v],.pt [.lit (.int .i64 5)]]]],λ_ _=>none⟩,
   ⟨[115,116,97,110,100],1,λv=>.fc false 178 [.pt [.fc true 128 [.lit v]]],λ_ _=>none⟩,
   ⟨[112,111,105,110,116],1,λv=>.fc false 178 [.pt [.fc true 129 [.lit v]]],λx a=>iS x (aLa a 0)⟩,
   ⟨[114,101,116,105,114,101],1,λv=>.fc false 178 [.pt [.fc false 116 [.pt [.lit v],.pt [.lit (.int .i64 3)]]]],λ_ _=>none⟩,
   ⟨[100,101,102,97,117,108,116],1,λv=>.fc false 178 [.pt [.fc false 116 [.pt [.lit v],.pt [.lit (.int .i64 4)]]]],λ_ _=>none⟩,
   ⟨[101,110,116,101,114],2,λv=>.fc false 180 [.pt [.fc false 114 [.pt [.lit v],.pt [.lit (.int .i64 1)]]]],λ_ _=>none⟩,
   ⟨[103,117,97,114,100],2,λv=>.fc false 180 [.pt [.fc false 114 [.pt [.lit v],.pt [.lit (.int .i64 2)]]]],λ_ _=>none⟩,
   ⟨[119,105,110,110,101,114],2,λv=>.fc false 180 [.pt [.fc true 130 [.lit v]]],λ_ _=>none⟩,
   ⟨[109,97,121],2,λv=>.fc false 180 [.pt [.fc true 131 [.lit v]]],λ_ _=>none⟩,
   ⟨[111,112,101,110],3,λv=>.fc false 194 [.pt [.fc true 133 [.lit v]]],λx a=>jS x (aLa a 0) (aLa a 1) (aLa a 2)⟩,
   ⟨[119,97,108,107],3,λv=>.fc false 194 [.pt [.fc true 134 [.lit v]]],λ_ _=>none⟩,
   ⟨[108,117,99,107,121],3,λv=>.fc false 194 [.pt [.fc true 135 [.lit v]]],λ_ _=>none⟩,
   ⟨[99,108,111,115,101],4,λv=>.fc false 136 [.pt [.lit v]],λ_ _=>none⟩]
def aOb(w:Str):List bAs->Option bAs
 |[]=>none
 |l::t=>bif decide (w=l.word) then some l else aOb w t
def jT(x:aK)(a:Str):Option (Str×aK):=
 (sU a).bind λp=>bif !p.2.2 then some ([63],x) else match aOb p.1 aYc with
  |none=>some ([63],x)
  |some l=>bif decide (p.2.1.length=l.k) then l.f x p.2.1 else some ([63],x)
def aFa:bL:=bL.mk 0 [] [] 0 0 0 [] []
def jP(a:List Str):Nat->Int->aK->List Str->Option (List Str×aK)
 |0,_,_,_=>none
 | k+1,i,d,l=>
  bif decide (i<(a.length:Int)) then((idx a i).bind λx=>
  (jT d x).bind λr=>
  (app 16 l [r.1]).bind λb=>jP a k (w64 (i+1)) r.2 b)
  else some (l,d)
def pE(a:cT)(b:List Str):Option (List Str×bL×Int):=
  (wV a).bind λe=>
  bif !decide (e=0) then some ([],aFa,e)
  else bif decide (80<(b.length:Int)) then some ([],aFa,2)
  else((wW a).bind λd=>(jP b BIG 0 d []).bind λp=>some (p.1,p.2.Register,0))
end Go.Am
