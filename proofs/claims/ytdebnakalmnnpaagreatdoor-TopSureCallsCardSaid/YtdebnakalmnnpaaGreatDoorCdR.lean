/- Cards: a crowd after a mark. -/
import Derived.Test.YtdebnakalmnnpaaGreatDoorCdP
namespace Go.Am
open Go.Proofs
set_option maxRecDepth 100000
set_option maxHeartbeats 40000000
attribute [local instance] aDb
def bBw(sd:Int)(s:aW):Option (List aW):=
 (bif decide (sd= -1)||decide (sd=0) then(gU s 0).bind λt=>some [t] else some []).bind λa=>
 (bif decide (sd= -1)||decide (sd=1) then(gU s 1).bind λt=>some [t] else some []).bind λb=>some (a++b)
def aOt(sd:Int):List aW->Option (List aW)
 |[]=>some []
 |s::K=>(bBw sd s).bind λa=>(aOt sd K).bind λb=>some (a++b)
def aTs(x:dB):List aW->Option (List aW)
 |[]=>some []
 |s::K=>(lL x s).bind λb=>(aTs x K).bind λl=>some (bif b then s::l else l)
def aTv(A B:Int):Nat->Int->List aW->List aW->Option (List aW)
 |0,_,_,_=>none
 |k+1,n,K,out=>bif decide (n<w64 (B+1)) then(aOt (-1) K).bind λK2=>aTv A B k (w64 (n+1)) K2 (bif decide (A<=n) then out++K else out) else some out
def aUb(x:dB)(K:List aW):Option (List aW):=
 bif decide (x.Kind=1) then aOt x.Side K else bif decide (x.Kind=2) then aTv x.Pair.A x.Pair.B 100 0 K [] else aTs x K
theorem bFa{sd:Int}{s:aW}{l:List aW}(h:bBw sd s=some l):(∀i,uA sd i->∃t,gU s i=some t)/\∀t,t∈l↔∃i,uA sd i/\gU s i=some t:=by
 unfold bBw at h;obtain⟨a,ha,h⟩:=bind_some h;obtain⟨b,hb,h⟩:=bind_some h;cases h;have h0:(uA sd 0->∃t,gU s 0=some t/\a=[t])/\(¬uA sd 0->a=[]):=by
  by_cases hq:sd= -1\/sd=0
  ·rw[show(decide (sd= -1)||decide (sd=0))=true by simpa using hq] at ha;obtain⟨t,ht,ha⟩:=bind_some ha;cases ha;exact⟨λ_=>⟨t,ht,rfl⟩,λhn=>absurd ⟨.inl rfl,hq⟩ hn⟩
  ·rw[show(decide (sd= -1)||decide (sd=0))=false by simpa using hq] at ha;cases ha;exact⟨λh=>absurd h.2 hq,λ_=>rfl⟩
 have h1:(uA sd 1->∃t,gU s 1=some t/\b=[t])/\(¬uA sd 1->b=[]):=by
  by_cases hq:sd= -1\/sd=1
  ·rw[show(decide (sd= -1)||decide (sd=1))=true by simpa using hq] at hb;obtain⟨t,ht,hb⟩:=bind_some hb;cases hb;exact⟨λ_=>⟨t,ht,rfl⟩,λhn=>absurd ⟨.inr rfl,hq⟩ hn⟩
  ·rw[show(decide (sd= -1)||decide (sd=1))=false by simpa using hq] at hb;cases hb;exact⟨λh=>absurd h.2 hq,λ_=>rfl⟩
 refine⟨λi hi=>?_,λt=>⟨λht=>?_,?_⟩⟩
 ·rcases hi.1 with rfl|rfl
  ·obtain⟨t,ht,_⟩:=h0.1 hi;exact⟨t,ht⟩
  ·obtain⟨t,ht,_⟩:=h1.1 hi;exact⟨t,ht⟩
 ·rcases List.mem_append.1 ht with h|h
  ·by_cases hq:uA sd 0
   ·obtain⟨t',ht',rfl⟩:=h0.1 hq;rw[List.mem_singleton.1 h];exact⟨0,hq,ht'⟩
   ·rw[h0.2 hq] at h;simp at h
  ·by_cases hq:uA sd 1
   ·obtain⟨t',ht',rfl⟩:=h1.1 hq;rw[List.mem_singleton.1 h];exact⟨1,hq,ht'⟩
   ·rw[h1.2 hq] at h;simp at h
 ·rintro⟨i,hi,ht⟩
  rcases hi.1 with rfl|rfl
  ·obtain⟨t',ht',rfl⟩:=h0.1 hi;rw[ht] at ht';cases ht';simp
  ·obtain⟨t',ht',rfl⟩:=h1.1 hi;rw[ht] at ht';cases ht';simp
theorem aZo{sd:Int}:∀{K l:List aW},aOt sd K=some l->(∀s∈K,∀i,uA sd i->∃t,gU s i=some t)/\∀t,t∈l↔∃s∈K,∃i,uA sd i/\gU s i=some t
 |[],l,h=>by cases h;simp
 | s::K,l,h=>by
  simp only[aOt] at h;obtain⟨a,ha,h⟩:=bind_some h;obtain⟨b,hb,h⟩:=bind_some h;cases h;obtain⟨h1,h2⟩:=bFa ha;obtain⟨h3,h4⟩:=aZo hb;refine⟨λs' hs=>?_,λt=>?_⟩
  ·rcases List.mem_cons.1 hs with rfl|hs
   ·exact h1
   ·exact h3 s' hs
  ·rw[List.mem_append,h2,h4]
   simp
theorem aRo{x:dB}:∀{K l:List aW},aTs x K=some l->(∀s∈K,∃b,lL x s=some b)/\∀t,t∈l↔t∈K/\lL x t=some true
 |[],l,h=>by cases h;simp
 | s ::K,l,h=>by
  simp only[aTs] at h;obtain⟨a,ha,h⟩:=bind_some h;obtain⟨b,hb,h⟩:=bind_some h;cases h;obtain⟨h3,h4⟩:=aRo hb;refine⟨λs' hs=>?_,λt=>?_⟩
  ·rcases List.mem_cons.1 hs with rfl|hs
   ·exact⟨a,ha⟩
   ·exact h3 s' hs
  ·cases a with
   | true=>
    simp only[cond_true,List.mem_cons,h4]
    constructor
    ·rintro(rfl|h)
     ·exact⟨.inl rfl,ha⟩
     ·exact⟨.inr h.1,h.2⟩
    ·rintro⟨rfl|h,h'⟩
     ·exact .inl rfl
     ·exact .inr ⟨h,h'⟩
   | false=>
    simp only[cond_false,List.mem_cons,h4]
    constructor
    ·exactλh=>⟨.inr h.1,h.2⟩
    ·rintro⟨rfl|h,h'⟩
     ·rw[ha] at h';cases h'
     ·exact⟨h,h'⟩
structure CrowdN(L:List NodeR)(K:List aW)(y:List (aW×Value)×List NodeR):Prop where
 sub:SubN L y.2
 ok:OkN y.1 y.2
 sm:∀t,t∈dY y.1↔t∈K
 nd:(dY y.1).Nodup
theorem yU{e:aW×Value}{l:List (aW×Value)}(h:e∈l):e.1∈dY l:=List.mem_map.2 ⟨e,h,rfl⟩
theorem aWl{t:aW}{l:List (aW×Value)}(h:t∈dY l):∃e∈l,e.1=t:=by
 obtain⟨e,he,rfl⟩:=List.mem_map.1 h;exact⟨e,he,rfl⟩
theorem bKv{c:List (aW×Value)}{L:List NodeR}{K K':List aW}(l:List dB)(sd:Int)(hc:OkN c L)(hs:∀t,t∈dY c↔t∈K)(h:aOt sd K=some K'):
  bC Tryz.prog 148 [.agg (rdC l),.d (.mp false (dK c)),.d (.lit (.int .i64 sd))] [nsN L] (λr' o'=>∃(m:Nat) (y:List (aW×Value)×List NodeR),CrowdN L K' y/\r'=.d (.lit (.map (some m)))/\o'=[mx m false (dK y.1),nsN y.2]):=by
 obtain⟨h1,h2⟩:=aZo h;refine aXi (bKw c L l sd hc λe he i hi=>h1 _ ((hs _).1 (yU he)) i hi) ?_;rintro r' o w A _ ⟨m,y,⟨hB,hD⟩,h3⟩;refine⟨m,y,⟨hB.sub,hB.ok,λt=>?_,hB.nd⟩,h3⟩;rw[h2]
 constructor
 ·intro ht;obtain⟨e,he,i,hi,hn⟩:=hB.sound t ht;exact⟨_,(hs _).1 (yU he),i,hi,hn⟩
 ·rintro⟨s,hs',i,hi,hn⟩;obtain⟨e,he,rfl⟩:=aWl ((hs s).2 hs');exact hD e he i t hi hn
theorem aIs(L:List NodeR)(K:List aW):∃y,CrowdN L K y:=by
 have key:∀K:List aW,∃N:List NodeR,∃l:List (aW×Value),(∀e∈l,∃x∈N,x.s=e.1/\e.2=x.ptr)/\(∀t,t∈dY l↔t∈K)/\(dY l).Nodup:=by
  intro K
  induction K with
  |nil=>exact⟨[],[],by simp,by simp,by simp⟩
  | cons s K ih=>
   obtain⟨N,l,h1,h2,h3⟩:=ih
   by_cases hm:s∈K
   ·refine⟨N,l,h1,λt=>?_,h3⟩;rw[h2,List.mem_cons];exact⟨.inr,λh=>h.elim (λe=>e▸hm) id⟩
   ·refine⟨⟨0,0,s,.pointer none,0,0,0⟩::N,(s,.pointer (some ⟨0,0,none⟩))::l,λe he=>?_,λt=>?_,?_⟩
    ·rcases List.mem_cons.1 he with rfl|he
     ·exact⟨_,List.mem_cons_self,rfl,rfl⟩
     ·obtain⟨x,hx,h⟩:=h1 e he;exact⟨x,List.mem_cons_of_mem _ hx,h⟩
    ·simp only[dY,List.map_cons,List.mem_cons];exact or_congr Iff.rfl (h2 t)
    ·simp only[dY,List.map_cons];exact List.nodup_cons.2 ⟨λh=>hm ((h2 s).1 h),h3⟩
 obtain⟨N,l,h1,h2,h3⟩:=key K;exact⟨(l,L++N),λx hx=>⟨x,List.mem_append.2 (.inl hx),rfl,rfl⟩,λe he=>by obtain⟨x,hx,h⟩:=h1 e he;exact⟨x,List.mem_append.2 (.inr hx),h⟩,h2,h3⟩
theorem bSz{α:Type}{l:List α}{bs seen:List Nat}(h:cQ l bs []=l):(cQ l bs seen).Sublist l:=by
 have h2:(cQ l bs seen).Sublist (cQ l bs []):=by
  unfold cQ;refine List.Sublist.map _ ?_;have:(l.zip bs).filter (λq=>!([]:List Nat).contains q.2)=l.zip bs:=by rw[List.filter_eq_self];intro q _;simp
  rw[this];exact List.filter_sublist
 rw[h] at h2;exact h2
theorem aYl{e p:aW×Value}:∀{l:List (aW×Value)} {i:Nat},(dY l).Nodup->l[i]?=some p->e∈l.eraseIdx i->e.1≠p.1
 |[],_,_,h,_=>by simp at h
 | x::l,0,hn,hi,he=>by
  simp at hi;subst hi
  simp only[dY,List.map_cons,List.nodup_cons] at hn;intro h;exact hn.1 (h▸yU (by simpa using he))
 | x::l,i+1,hn,hi,he=>by
  simp only[dY,List.map_cons,List.nodup_cons] at hn;simp only[List.eraseIdx_cons_succ] at he
  rcases List.mem_cons.1 he with rfl|he
  ·intro h;exact hn.1 (h▸yU (List.mem_of_getElem? (by simpa using hi)))
  ·exact aYl hn.2 (by simpa using hi) he
structure SieveN(x:dB)(c:List (aW×Value))(L:List NodeR)(left:List (aW×Value))(y:List (aW×Value)×List NodeR):Prop where
 sub:SubN L y.2
 ok:OkN y.1 y.2
 nd:(dY y.1).Nodup
 sound:∀t∈dY y.1,(t∈dY c/\lL x t=some true)/\∀e∈left,e.1≠t
 done:∀e∈c,e∈left\/(lL x e.1=some true->e.1∈dY y.1)
theorem SieveN.skip{x:dB}{c:List (aW×Value)}{L:List NodeR}{left:List (aW×Value)}{y}{i:Nat}{p:aW×Value}(h:SieveN x c L left y)(hi:left[i]?=some p)(hb:lL x p.1=some false):SieveN x c L (left.eraseIdx i) y:=by
 refine⟨h.sub,h.ok,h.nd,λt ht=>⟨(h.sound t ht).1,λe he=>(h.sound t ht).2 e (List.mem_of_mem_eraseIdx he)⟩,λe he=>?_⟩
 rcases h.done e he with h'|h'
 ·by_cases hep:e=p
  ·subst hep;exact .inr λhh=>by rw[hb] at hh;cases hh
  ·exact .inl (aDd hi h' hep)
 ·exact .inr h'
theorem SieveN.take{x:dB}{c:List (aW×Value)}{L:List NodeR}{left:List (aW×Value)}{l1:List (aW×Value)}{L1:List NodeR}{z}{n:NodeR}{i:Nat}{p:aW×Value}(h:SieveN x c L left (l1,L1))(hn:(dY left).Nodup)(hi:left[i]?=some p)(hc:p∈c)(hb:lL x p.1=some true)(hnp:n.s=p.1)(hz:PutN l1 L1 n z):SieveN x c L (left.eraseIdx i) z:=by
 obtain⟨k1,k2,k3,k4⟩:=hz.keys;refine⟨h.sub.trans hz.1,hz.2.1,k4 h.nd,λt ht=>?_,λe he=>?_⟩
 ·rcases k3 t ht with h'|rfl
  ·exact⟨(h.sound t h').1,λe he=>(h.sound t h').2 e (List.mem_of_mem_eraseIdx he)⟩
  ·rw[hnp];exact⟨⟨yU hc,hb⟩,λe he=>aYl hn hi he⟩
 ·rcases h.done e he with h'|h'
  ·by_cases hep:e=p
   ·subst hep;exact .inr λ_=>hnp▸k2
   ·exact .inl (aDd hi h' hep)
  ·exact .inr λhh=>k1 _ (h' hh)
theorem SieveN.new{x:dB}{c:List (aW×Value)}{L:List NodeR}{left:List (aW×Value)}{l1:List (aW×Value)}{L1:List NodeR}{i:Nat}{p:aW×Value}(h:SieveN x c L left (l1,L1))(hi:left[i]?=some p):cI p.1 l1=false:=by
 cases hm:cI p.1 l1 with
 |false=>rfl
 |true=>exact absurd rfl ((h.sound _ (aKe.1 hm)).2 p (List.mem_of_getElem? hi))
theorem SieveN.end{x:dB}{c:List (aW×Value)}{L:List NodeR}{K K':List aW}{y}(h:SieveN x c L [] y)(hs:∀t,t∈dY c↔t∈K)(hf:∀t,t∈K'↔t∈K/\lL x t=some true):CrowdN L K' y:=by
 refine⟨h.sub,h.ok,λt=>?_,h.nd⟩;rw[hf]
 constructor
 ·intro ht;exact⟨(hs t).1 (h.sound t ht).1.1,(h.sound t ht).1.2⟩
 ·rintro⟨h1,h2⟩;obtain⟨e,he,rfl⟩:=aWl ((hs t).2 h1);exact(h.done e he).elim (λh=>by simp at h) λh=>h h2
theorem CrowdN.more{L L':List NodeR}{K:List aW}{l:List (aW×Value)}{L1:List NodeR}(h:CrowdN L K (l,L1))(k:SubN L1 L'):CrowdN L K (l,L'):=⟨h.sub.trans k,h.ok.sub k,h.sm,h.nd⟩
structure CopyN(c:List (aW×Value))(out:List aW)(L L1:List NodeR)(left:List (aW×Value))(y:List (aW×Value)×List NodeR):Prop where
 sub:SubN L y.2
 sub1:SubN L1 y.2
 ok:OkN y.1 y.2
 nd:(dY y.1).Nodup
 sound:∀t∈dY y.1,t∈out\/t∈dY c
 old:∀t∈out,t∈dY y.1
 done:∀e∈c,e∈left\/e.1∈dY y.1
theorem CopyN.take{c:List (aW×Value)}{out:List aW}{L L1:List NodeR}{left:List (aW×Value)}{l2:List (aW×Value)}{L2:List NodeR}{z}{n:NodeR}{i:Nat}{p:aW×Value}(h:CopyN c out L L1 left (l2,L2))(hi:left[i]?=some p)(hc:p∈c)(hnp:n.s=p.1)(hz:PutN l2 (n::L2) n z):CopyN c out L L1 (left.eraseIdx i) z:=by
 obtain⟨k1,k2,k3,k4⟩:=hz.keys;have hsub:SubN L2 z.2:=SubN.trans (λx hx=>⟨x,List.mem_cons_of_mem _ hx,rfl,rfl⟩) hz.1;refine⟨h.sub.trans hsub,h.sub1.trans hsub,hz.2.1,k4 h.nd,λt ht=>?_,λt ht=>k1 t (h.old t ht),λe he=>?_⟩
 ·rcases k3 t ht with h'|rfl
  ·exact h.sound t h'
  ·rw[hnp];exact .inr (yU hc)
 ·rcases h.done e he with h'|h'
  ·by_cases hep:e=p
   ·subst hep;exact .inr (hnp▸k2)
   ·exact .inl (aDd hi h' hep)
  ·exact .inr (k1 _ h')
theorem CopyN.end{c:List (aW×Value)}{out K:List aW}{L L1:List NodeR}{y}(h:CopyN c out L L1 [] y)(hs:∀t,t∈dY c↔t∈K):CrowdN L (out++K) y:=by
 refine⟨h.sub,h.ok,λt=>?_,h.nd⟩;rw[List.mem_append]
 constructor
 ·intro ht;exact(h.sound t ht).imp id λh=>(hs t).1 h
 ·rintro(h1|h1)
  ·exact h.old t h1
  ·obtain⟨e,he,rfl⟩:=aWl ((hs t).2 h1);exact(h.done e he).elim (λh=>by simp at h) id
end Go.Am
