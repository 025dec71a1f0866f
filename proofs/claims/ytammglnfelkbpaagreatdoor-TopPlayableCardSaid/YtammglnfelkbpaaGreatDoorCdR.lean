/- Cards: a crowd after a mark. -/
import Derived.Test.YtammglnfelkbpaaGreatDoorCdP
namespace Go.Am
open Go.Proofs
set_option maxRecDepth 100000
set_option maxHeartbeats 40000000
attribute [local instance] aCj
def bCl(sd:Int)(s:bA):Option (List bA):=
 (bif decide (sd= -1)||decide (sd=0) then(gU s 0).bind λt=>some [t] else some []).bind λa=>
 (bif decide (sd= -1)||decide (sd=1) then(gU s 1).bind λt=>some [t] else some []).bind λb=>some (a++b)
def aPc(sd:Int):List bA->Option (List bA)
 |[]=>some []
 |s::K=>(bCl sd s).bind λa=>(aPc sd K).bind λb=>some (a++b)
def aTl(x:dL):List bA->Option (List bA)
 |[]=>some []
 |s::K=>(lO x s).bind λb=>(aTl x K).bind λl=>some (bif b then s::l else l)
def aTo(A B:Int):Nat->Int->List bA->List bA->Option (List bA)
 |0,_,_,_=>none
 |k+1,n,K,out=>bif decide (n<w64 (B+1)) then(aPc (-1) K).bind λK2=>aTo A B k (w64 (n+1)) K2 (bif decide (A<=n) then out++K else out) else some out
def aTx(x:dL)(K:List bA):Option (List bA):=
 bif decide (x.Kind=1) then aPc x.Side K else bif decide (x.Kind=2) then aTo x.Pair.A x.Pair.B 100 0 K [] else aTl x K
theorem bFo{sd:Int}{s:bA}{l:List bA}(h:bCl sd s=some l):(∀i,tF sd i->∃t,gU s i=some t)/\∀t,t∈l↔∃i,tF sd i/\gU s i=some t:=by
 unfold bCl at h;obtain⟨a,ha,h⟩:=bind_some h;obtain⟨b,hb,h⟩:=bind_some h;cases h;have h0:(tF sd 0->∃t,gU s 0=some t/\a=[t])/\(¬tF sd 0->a=[]):=by
  by_cases hq:sd= -1\/sd=0
  ·rw[show(decide (sd= -1)||decide (sd=0))=true by simpa using hq] at ha;obtain⟨t,ht,ha⟩:=bind_some ha;cases ha;exact⟨λ_=>⟨t,ht,rfl⟩,λhn=>absurd ⟨.inl rfl,hq⟩ hn⟩
  ·rw[show(decide (sd= -1)||decide (sd=0))=false by simpa using hq] at ha;cases ha;exact⟨λh=>absurd h.2 hq,λ_=>rfl⟩
 have h1:(tF sd 1->∃t,gU s 1=some t/\b=[t])/\(¬tF sd 1->b=[]):=by
  by_cases hq:sd= -1\/sd=1
  ·rw[show(decide (sd= -1)||decide (sd=1))=true by simpa using hq] at hb;obtain⟨t,ht,hb⟩:=bind_some hb;cases hb;exact⟨λ_=>⟨t,ht,rfl⟩,λhn=>absurd ⟨.inr rfl,hq⟩ hn⟩
  ·rw[show(decide (sd= -1)||decide (sd=1))=false by simpa using hq] at hb;cases hb;exact⟨λh=>absurd h.2 hq,λ_=>rfl⟩
 refine⟨λi hi=>?_,λt=>⟨λht=>?_,?_⟩⟩
 ·rcases hi.1 with rfl|rfl
  ·obtain⟨t,ht,_⟩:=h0.1 hi;exact⟨t,ht⟩
  ·obtain⟨t,ht,_⟩:=h1.1 hi;exact⟨t,ht⟩
 ·rcases i6.1 ht with h|h
  ·by_cases hq:tF sd 0
   ·obtain⟨t',ht',rfl⟩:=h0.1 hq;rw[l7.1 h];exact⟨0,hq,ht'⟩
   ·rw[h0.2 hq] at h;simp at h
  ·by_cases hq:tF sd 1
   ·obtain⟨t',ht',rfl⟩:=h1.1 hq;rw[l7.1 h];exact⟨1,hq,ht'⟩
   ·rw[h1.2 hq] at h;simp at h
 ·rintro⟨i,hi,ht⟩
  rcases hi.1 with rfl|rfl
  ·obtain⟨t',ht',rfl⟩:=h0.1 hi;rw[ht] at ht';cases ht';simp
  ·obtain⟨t',ht',rfl⟩:=h1.1 hi;rw[ht] at ht';cases ht';simp
theorem aZy{sd:Int}:∀{K l:List bA},aPc sd K=some l->(∀s∈K,∀i,tF sd i->∃t,gU s i=some t)/\∀t,t∈l↔∃s∈K,∃i,tF sd i/\gU s i=some t
 |[],l,h=>by cases h;simp
 | s::K,l,h=>by
  simp only[aPc] at h;obtain⟨a,ha,h⟩:=bind_some h;obtain⟨b,hb,h⟩:=bind_some h;cases h;obtain⟨h1,h2⟩:=bFo ha;obtain⟨h3,h4⟩:=aZy hb;refine⟨λs' hs=>?_,λt=>?_⟩
  ·rcases l4.1 hs with rfl|hs
   ·exact h1
   ·exact h3 s' hs
  ·rw[i6,h2,h4]
   simp
theorem aRk{x:dL}:∀{K l:List bA},aTl x K=some l->(∀s∈K,∃b,lO x s=some b)/\∀t,t∈l↔t∈K/\lO x t=some true
 |[],l,h=>by cases h;simp
 | s ::K,l,h=>by
  simp only[aTl] at h;obtain⟨a,ha,h⟩:=bind_some h;obtain⟨b,hb,h⟩:=bind_some h;cases h;obtain⟨h3,h4⟩:=aRk hb;refine⟨λs' hs=>?_,λt=>?_⟩
  ·rcases l4.1 hs with rfl|hs
   ·exact⟨a,ha⟩
   ·exact h3 s' hs
  ·cases a with
   | true=>
    simp only[i7,l4,h4]
    constructor
    ·rintro(rfl|h)
     ·exact⟨.inl rfl,ha⟩
     ·exact⟨.inr h.1,h.2⟩
    ·rintro⟨rfl|h,h'⟩
     ·exact .inl rfl
     ·exact .inr ⟨h,h'⟩
   | false=>
    simp only[g6,l4,h4]
    constructor
    ·exactλh=>⟨.inr h.1,h.2⟩
    ·rintro⟨rfl|h,h'⟩
     ·rw[ha] at h';cases h'
     ·exact⟨h,h'⟩
structure CrowdN(L:List NodeR)(K:List bA)(y:List (bA×Value)×List NodeR):Prop where
 sub:SubN L y.2
 ok:OkN y.1 y.2
 sm:∀t,t∈eC y.1↔t∈K
 nd:(eC y.1).Nodup
theorem xO{e:bA×Value}{l:List (bA×Value)}(h:e∈l):e.1∈eC l:=l5.2 ⟨e,h,rfl⟩
theorem aWr{t:bA}{l:List (bA×Value)}(h:t∈eC l):∃e∈l,e.1=t:=by
 obtain⟨e,he,rfl⟩:=l5.1 h;exact⟨e,he,rfl⟩
theorem bLs{c:List (bA×Value)}{L:List NodeR}{K K':List bA}(l:List dL)(sd:Int)(hc:OkN c L)(hs:∀t,t∈eC c↔t∈K)(h:aPc sd K=some K'):
  aX Tryz.prog 147 [.agg (rdC l),.d (.mp false (dR c)),.d (.lit (.int .i64 sd))] [nsN L] (λr' o'=>∃(m:Nat) (y:List (bA×Value)×List NodeR),CrowdN L K' y/\r'=.d (.lit (.map (some m)))/\o'=[mx m false (dR y.1),nsN y.2]):=by
 obtain⟨h1,h2⟩:=aZy h;refine aXq (bLt c L l sd hc λe he i hi=>h1 _ ((hs _).1 (xO he)) i hi) ?_;rintro r' o w A _ ⟨m,y,⟨hB,hD⟩,h3⟩;refine⟨m,y,⟨hB.sub,hB.ok,λt=>?_,hB.nd⟩,h3⟩;rw[h2]
 constructor
 ·intro ht;obtain⟨e,he,i,hi,hn⟩:=hB.sound t ht;exact⟨_,(hs _).1 (xO he),i,hi,hn⟩
 ·rintro⟨s,hs',i,hi,hn⟩;obtain⟨e,he,rfl⟩:=aWr ((hs s).2 hs');exact hD e he i t hi hn
theorem aIt(L:List NodeR)(K:List bA):∃y,CrowdN L K y:=by
 have key:∀K:List bA,∃N:List NodeR,∃l:List (bA×Value),(∀e∈l,∃x∈N,x.s=e.1/\e.2=x.ptr)/\(∀t,t∈eC l↔t∈K)/\(eC l).Nodup:=by
  intro K
  induction K with
  |nil=>exact⟨[],[],by simp,by simp,by simp⟩
  | cons s K ih=>
   obtain⟨N,l,h1,h2,h3⟩:=ih
   by_cases hm:s∈K
   ·refine⟨N,l,h1,λt=>?_,h3⟩;rw[h2,l4];exact⟨.inr,λh=>h.elim (λe=>e▸hm) id⟩
   ·refine⟨⟨0,0,s,.pointer none,0,0,0⟩::N,(s,.pointer (some ⟨0,0,none⟩))::l,λe he=>?_,λt=>?_,?_⟩
    ·rcases l4.1 he with rfl|he
     ·exact⟨_,aD6,rfl,rfl⟩
     ·obtain⟨x,hx,h⟩:=h1 e he;exact⟨x,j5 _ hx,h⟩
    ·simp only[eC,j3,l4];exact or_congr Iff.rfl (h2 t)
    ·simp only[eC,j3];exact w6.2 ⟨λh=>hm ((h2 s).1 h),h3⟩
 obtain⟨N,l,h1,h2,h3⟩:=key K;exact⟨(l,L++N),λx hx=>⟨x,i6.2 (.inl hx),rfl,rfl⟩,λe he=>by obtain⟨x,hx,h⟩:=h1 e he;exact⟨x,i6.2 (.inr hx),h⟩,h2,h3⟩
theorem bVr{α:Type}{l:List α}{bs seen:List Nat}(h:dG l bs []=l):(dG l bs seen).Sublist l:=by
 have h2:(dG l bs seen).Sublist (dG l bs []):=by
  unfold dG;refine List.Sublist.map _ ?_;have:(l.zip bs).filter (λq=>!([]:List Nat).contains q.2)=l.zip bs:=by rw[List.filter_eq_self];intro q _;simp
  rw[this];exact List.filter_sublist
 rw[h] at h2;exact h2
theorem aYq{e p:bA×Value}:∀{l:List (bA×Value)} {i:Nat},(eC l).Nodup->l[i]?=some p->e∈l.eraseIdx i->e.1≠p.1
 |[],_,_,h,_=>by simp at h
 | x::l,0,hn,hi,he=>by
  simp at hi;subst hi
  simp only[eC,j3,w6] at hn;intro h;exact hn.1 (h▸xO (by simpa using he))
 | x::l,i+1,hn,hi,he=>by
  simp only[eC,j3,w6] at hn;simp only[List.eraseIdx_cons_succ] at he
  rcases l4.1 he with rfl|he
  ·intro h;exact hn.1 (h▸xO (i8 (by simpa using hi)))
  ·exact aYq hn.2 (by simpa using hi) he
structure SieveN(x:dL)(c:List (bA×Value))(L:List NodeR)(left:List (bA×Value))(y:List (bA×Value)×List NodeR):Prop where
 sub:SubN L y.2
 ok:OkN y.1 y.2
 nd:(eC y.1).Nodup
 sound:∀t∈eC y.1,(t∈eC c/\lO x t=some true)/\∀e∈left,e.1≠t
 done:∀e∈c,e∈left\/(lO x e.1=some true->e.1∈eC y.1)
theorem SieveN.skip{x:dL}{c:List (bA×Value)}{L:List NodeR}{left:List (bA×Value)}{y}{i:Nat}{p:bA×Value}(h:SieveN x c L left y)(hi:left[i]?=some p)(hb:lO x p.1=some false):SieveN x c L (left.eraseIdx i) y:=by
 refine⟨h.sub,h.ok,h.nd,λt ht=>⟨(h.sound t ht).1,λe he=>(h.sound t ht).2 e (aE3 he)⟩,λe he=>?_⟩
 rcases h.done e he with h'|h'
 ·by_cases hep:e=p
  ·subst hep;exact .inr λhh=>by rw[hb] at hh;cases hh
  ·exact .inl (aCl hi h' hep)
 ·exact .inr h'
theorem SieveN.take{x:dL}{c:List (bA×Value)}{L:List NodeR}{left:List (bA×Value)}{l1:List (bA×Value)}{L1:List NodeR}{z}{n:NodeR}{i:Nat}{p:bA×Value}(h:SieveN x c L left (l1,L1))(hn:(eC left).Nodup)(hi:left[i]?=some p)(hc:p∈c)(hb:lO x p.1=some true)(hnp:n.s=p.1)(hz:PutN l1 L1 n z):SieveN x c L (left.eraseIdx i) z:=by
 obtain⟨k1,k2,k3,k4⟩:=hz.keys;refine⟨h.sub.trans hz.1,hz.2.1,k4 h.nd,λt ht=>?_,λe he=>?_⟩
 ·rcases k3 t ht with h'|rfl
  ·exact⟨(h.sound t h').1,λe he=>(h.sound t h').2 e (aE3 he)⟩
  ·rw[hnp];exact⟨⟨xO hc,hb⟩,λe he=>aYq hn hi he⟩
 ·rcases h.done e he with h'|h'
  ·by_cases hep:e=p
   ·subst hep;exact .inr λ_=>hnp▸k2
   ·exact .inl (aCl hi h' hep)
  ·exact .inr λhh=>k1 _ (h' hh)
theorem SieveN.new{x:dL}{c:List (bA×Value)}{L:List NodeR}{left:List (bA×Value)}{l1:List (bA×Value)}{L1:List NodeR}{i:Nat}{p:bA×Value}(h:SieveN x c L left (l1,L1))(hi:left[i]?=some p):cR p.1 l1=false:=by
 cases hm:cR p.1 l1 with
 |false=>rfl
 |true=>exact absurd rfl ((h.sound _ (aKp.1 hm)).2 p (i8 hi))
theorem SieveN.end{x:dL}{c:List (bA×Value)}{L:List NodeR}{K K':List bA}{y}(h:SieveN x c L [] y)(hs:∀t,t∈eC c↔t∈K)(hf:∀t,t∈K'↔t∈K/\lO x t=some true):CrowdN L K' y:=by
 refine⟨h.sub,h.ok,λt=>?_,h.nd⟩;rw[hf]
 constructor
 ·intro ht;exact⟨(hs t).1 (h.sound t ht).1.1,(h.sound t ht).1.2⟩
 ·rintro⟨h1,h2⟩;obtain⟨e,he,rfl⟩:=aWr ((hs t).2 h1);exact(h.done e he).elim (λh=>by simp at h) λh=>h h2
theorem CrowdN.more{L L':List NodeR}{K:List bA}{l:List (bA×Value)}{L1:List NodeR}(h:CrowdN L K (l,L1))(k:SubN L1 L'):CrowdN L K (l,L'):=⟨h.sub.trans k,h.ok.sub k,h.sm,h.nd⟩
structure CopyN(c:List (bA×Value))(out:List bA)(L L1:List NodeR)(left:List (bA×Value))(y:List (bA×Value)×List NodeR):Prop where
 sub:SubN L y.2
 sub1:SubN L1 y.2
 ok:OkN y.1 y.2
 nd:(eC y.1).Nodup
 sound:∀t∈eC y.1,t∈out\/t∈eC c
 old:∀t∈out,t∈eC y.1
 done:∀e∈c,e∈left\/e.1∈eC y.1
theorem CopyN.take{c:List (bA×Value)}{out:List bA}{L L1:List NodeR}{left:List (bA×Value)}{l2:List (bA×Value)}{L2:List NodeR}{z}{n:NodeR}{i:Nat}{p:bA×Value}(h:CopyN c out L L1 left (l2,L2))(hi:left[i]?=some p)(hc:p∈c)(hnp:n.s=p.1)(hz:PutN l2 (n::L2) n z):CopyN c out L L1 (left.eraseIdx i) z:=by
 obtain⟨k1,k2,k3,k4⟩:=hz.keys;have hsub:SubN L2 z.2:=SubN.trans (λx hx=>⟨x,j5 _ hx,rfl,rfl⟩) hz.1;refine⟨h.sub.trans hsub,h.sub1.trans hsub,hz.2.1,k4 h.nd,λt ht=>?_,λt ht=>k1 t (h.old t ht),λe he=>?_⟩
 ·rcases k3 t ht with h'|rfl
  ·exact h.sound t h'
  ·rw[hnp];exact .inr (xO hc)
 ·rcases h.done e he with h'|h'
  ·by_cases hep:e=p
   ·subst hep;exact .inr (hnp▸k2)
   ·exact .inl (aCl hi h' hep)
  ·exact .inr (k1 _ h')
theorem CopyN.end{c:List (bA×Value)}{out K:List bA}{L L1:List NodeR}{y}(h:CopyN c out L L1 [] y)(hs:∀t,t∈eC c↔t∈K):CrowdN L (out++K) y:=by
 refine⟨h.sub,h.ok,λt=>?_,h.nd⟩;rw[i6]
 constructor
 ·intro ht;exact(h.sound t ht).imp id λh=>(hs t).1 h
 ·rintro(h1|h1)
  ·exact h.old t h1
  ·obtain⟨e,he,rfl⟩:=aWr ((hs t).2 h1);exact(h.done e he).elim (λh=>by simp at h) id
end Go.Am
