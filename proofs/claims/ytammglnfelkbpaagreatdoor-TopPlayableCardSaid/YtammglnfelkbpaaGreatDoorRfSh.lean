/- Shallow functions of the referee, by hand. -/
import Derived.Test.YtammglnfelkbpaaGreatDoorRgSh
import Derived.Test.YtammglnfelkbpaaGreatDoorAmByt
namespace Go.Am
def pN(a:List bO):Option ((List bO)):=
  (app 16 ([]:List bO) a).bind λb=>
  some b
def lX(a:dK):Nat->Int->List (List bO)->Option aJ
 |0,_,_=>none
 | k+1,i,l=>
  bif decide (i<(a.Days.length:Int)) then((idx a.Days i).bind λx=>
  (pN x).bind λr=>
  (app 24 l [r]).bind λb=>lX a k (w64 (i+1)) b)
  else some (aJ.mk a (dJ.mk 0 [] [] (-1) (-1) 0 [] l) (aG.mk 0 0 0 0))
def vX(a:dK):Option aJ:=lX a BIG 0 []
def ask(f:aJ->Option Str)(x:aJ):Option (Str×aJ):=(f x).map λs=>(s,x)
def aGk(a:List Int)(k:Nat):Int:=a.getD k 0
def bVp(k:Int)(x:aJ)(p:Int):Option (Str×aJ):=fW x p k
structure bBf where
 word:Str
 k:Nat
 F:Value->D
 f:aJ->List Int->Option (Str×aJ)
def aYk:List bBf:=
  [⟨[109,97,105,110],0,λv=>.fc false 178 [.pt [.fc false 105 [.pt [.lit v],.pt [.fc false 117 []]]]],λ_ _=>none⟩,
   ⟨[119,105,108,100,115],0,λv=>.fc false 178 [.pt [.fc false 105 [.pt [.lit v],.pt [.fc false 118 []]]]],λ_ _=>none⟩,
   ⟨[111,117,116],0,λv=>.fc false 178 [.pt [.fc false 105 [.pt [.lit v],.pt [.fc false 119 []]]]],λ_ _=>none⟩,
   ⟨[115,99,111,114,101],0,λv=>.fc false 178 [.pt [.fc true 120 [.lit v]]],λ_ _=>none⟩,
   ⟨[115,101,114,118,101,114],0,λv=>.fc false 178 [.pt [.fc true 121 [.lit v]]],λ_ _=>none⟩,
   ⟨[108,101,102,116],0,λv=>.fc false 178 [.pt [.fc true 122 [.lit v]]],λx _=>ask nI x⟩,
   ⟨[106,111,98,115],0,λv=>.fc false 178 [.pt [.fc true 123 [.lit v]]],λx _=>ask qC x⟩,
   ⟨[110,101,101,100],0,λv=>.fc false 178 [.pt [.fc true 124 [.lit v]]],λ_ _=>none⟩,
   ⟨[115,116,117,99,107],0,λv=>.fc false 178 [.pt [.fc true 125 [.lit v]]],λ_ _=>none⟩,
   ⟨[104,111,117,114],1,λv=>.fc false 181 [.pt [.fc true 126 [.lit v]]],λ_ _=>none⟩,
   ⟨[119,105,108,100],1,λv=>.fc false 181 [.pt [.fc false 109 [.pt [.lit v],.pt [.lit (.int .i64 3)]]]],λ_ _=>none⟩,
   ⟨[113,117,105,116],1,λv=>.fc false 181 [.pt [.fc false 109 [.pt [.lit v],.pt [.lit (.int .i64 4)]]]],λ_ _=>none⟩,
   ⟨[115,105,103,110],1,λv=>.fc false 181 [.pt [.fc false 109 [.pt [.lit v],.pt [.lit (.int .i64 5)]]]],λ_ _=>none⟩,
   ⟨[115,116,97,110,100],1,λv=>.fc false 181 [.pt [.fc true 127 [.lit v]]],λ_ _=>none⟩,
   ⟨[112,111,105,110,116],1,λv=>.fc false 181 [.pt [.fc true 128 [.lit v]]],λx a=>oY x (aGk a 0)⟩,
   ⟨[114,101,116,105,114,101],1,λv=>.fc false 181 [.pt [.fc false 115 [.pt [.lit v],.pt [.lit (.int .i64 3)]]]],λx a=>bVp 3 x (aGk a 0)⟩,
   ⟨[100,101,102,97,117,108,116],1,λv=>.fc false 181 [.pt [.fc false 115 [.pt [.lit v],.pt [.lit (.int .i64 4)]]]],λ_ _=>none⟩,
   ⟨[101,110,116,101,114],2,λv=>.fc false 183 [.pt [.fc false 113 [.pt [.lit v],.pt [.lit (.int .i64 1)]]]],λ_ _=>none⟩,
   ⟨[103,117,97,114,100],2,λv=>.fc false 183 [.pt [.fc false 113 [.pt [.lit v],.pt [.lit (.int .i64 2)]]]],λ_ _=>none⟩,
   ⟨[119,105,110,110,101,114],2,λv=>.fc false 183 [.pt [.fc true 129 [.lit v]]],λ_ _=>none⟩,
   ⟨[109,97,121],2,λv=>.fc false 183 [.pt [.fc true 130 [.lit v]]],λ_ _=>none⟩,
   ⟨[111,112,101,110],3,λv=>.fc false 196 [.pt [.fc true 132 [.lit v]]],λx a=>lG x (aGk a 0) (aGk a 1) (aGk a 2)⟩,
   ⟨[119,97,108,107],3,λv=>.fc false 196 [.pt [.fc true 133 [.lit v]]],λ_ _=>none⟩,
   ⟨[108,117,99,107,121],3,λv=>.fc false 196 [.pt [.fc true 134 [.lit v]]],λ_ _=>none⟩,
   ⟨[99,108,111,115,101],4,λv=>.fc false 135 [.pt [.lit v]],λ_ _=>none⟩]
def aOk(w:Str):List bBf->Option bBf
 |[]=>none
 |l::t=>bif decide (w=l.word) then some l else aOk w t
def cX(x:aJ)(a:Str):Option (Str×aJ):=
 (sC a).bind λp=>bif !p.2.2 then some ([63],x) else match aOk p.1 aYk with
  |none=>some ([63],x)
  |some l=>bif decide (p.2.1.length=l.k) then l.f x p.2.1 else some ([63],x)
def aEq:dJ:=dJ.mk 0 [] [] 0 0 0 [] []
def gI(a:List Str):Nat->Int->aJ->List Str->Option (List Str×aJ)
 |0,_,_,_=>none
 | k+1,i,d,l=>
  bif decide (i<(a.length:Int)) then((idx a i).bind λx=>
  (cX d x).bind λr=>
  (app 16 l [r.1]).bind λb=>gI a k (w64 (i+1)) r.2 b)
  else some (l,d)
def oO(a:dK)(b:List Str):Option (List Str×dJ×Int):=
  (sB a).bind λe=>
  bif !decide (e=0) then some ([],aEq,e)
  else bif decide (80<(b.length:Int)) then some ([],aEq,2)
  else((vX a).bind λd=>(gI b BIG 0 d []).bind λp=>some (p.1,p.2.Register,0))
end Go.Am
