/- Cards: one more point of a crowd. -/
import Derived.Test.YtammglnfelkbpaaGreatDoorCdN
import Derived.Test.YtammglnfelkbpaaGreatDoorAmX19
namespace Go.Am
open Go.Proofs
set_option maxRecDepth 100000
set_option maxHeartbeats 40000000
attribute [local instance] aCj
theorem aCl{α:Type}{p e:α}:∀{l:List α} {i:Nat},l[i]?=some p->e∈l->e≠p->e∈l.eraseIdx i
 |[],_,_,h,_=>by simp at h
 | x::l,0,hi,h,hne=>by
  simp at hi;subst hi
  rcases l4.1 h with rfl|h
  ·exact absurd rfl hne
  ·simpa using h
 | x::l,i+1,hi,h,hne=>by
  simp only[List.eraseIdx_cons_succ]
  rcases l4.1 h with rfl|h
  ·exact aD6
  ·exact j5 _ (aCl (by simpa using hi) h hne)
abbrev eC(l:List (bA×Value)):List bA:=l.map (·.1)
def tF(sd s:Int):Prop:=(s=0\/s=1)/\(sd= -1\/sd=s)
structure PlayB(c:List (bA×Value))(sd:Int)(L:List NodeR)(y:List (bA×Value)×List NodeR):Prop where
 sub:SubN L y.2
 ok:OkN y.1 y.2
 sound:∀t∈eC y.1,∃e∈c,∃s,tF sd s/\gU e.1 s=some t
 nd:(eC y.1).Nodup
def Done(sd:Int)(e:bA×Value)(l:List (bA×Value)):Prop:=∀s t,tF sd s->gU e.1 s=some t->t∈eC l
theorem bNu{z:NodeR}:∀{L:List NodeR},z∈L->z.b<=(L.map NodeR.b).sum
 | x::L,h=>by
  rcases l4.1 h with rfl|h
  ·simp
  ·have:=bNu h;simp;omega
theorem bQt(t:bA)(L:List NodeR):∃y:NodeR,y.s=t/\∀z∈L,y.ptr≠z.ptr:=by
 refine⟨⟨(L.map NodeR.b).sum+1,0,t,.pointer none,0,0,0⟩,rfl,λz hz he=>?_⟩;have:=bNu hz;simp only[NodeR.ptr,Value.pointer.injEq,m7,Addr.mk.injEq] at he
 omega
theorem aTw{l:List (bA×Value)}{L:List NodeR}{x:NodeR}(hx:x∈L)(hl:OkN l L):∃y,PutN l L x y:=by
 cases hm:cR x.s l with
 |true=>exact⟨(l,L),SubN.refl _,hl,by rw[hm];rfl,λe he=>.inl he⟩
 | false=>
  refine⟨(l++[(x.s,x.ptr)],L),SubN.refl _,λe he=>?_,by rw[hm];simp,λe he=>?_⟩
  ·rcases i6.1 he with he|he
   ·exact hl e he
   ·rw[l7.1 he];exact⟨x,hx,rfl,rfl⟩
  ·rcases i6.1 he with he|he
   ·exact .inl he
   ·rw[l7.1 he];exact .inr rfl
theorem PutN.keys{l:List (bA×Value)}{L:List NodeR}{x:NodeR}{y}(h:PutN l L x y):(∀t∈eC l,t∈eC y.1)/\x.s∈eC y.1/\(∀t∈eC y.1,t∈eC l\/t=x.s)/\((eC l).Nodup->(eC y.1).Nodup):=by
 have h3:=h.2.2.1;simp only[eC];rw[h3];cases hm:cR x.s l with
 |true=>exact⟨λt ht=>ht,aKp.1 hm,λt ht=>.inl ht,λh=>h⟩
 | false=>
  have hnm:x.s∉l.map (·.1):=λh=>by rw[aKp.2 h] at hm;cases hm
  refine⟨λt ht=>i6.2 (.inl ht),i6.2 (.inr (by simp)),λt ht=>?_,λhnd=>?_⟩
  ·rcases i6.1 ht with h|h
   ·exact .inl h
   ·exact .inr (l7.1 h)
  ·refine aF0.2 ⟨hnd,by simp,λa ha b hb=>?_⟩;rw[l7.1 hb];intro e;subst e;exact hnm ha
theorem PlayB.put{c:List (bA×Value)}{sd:Int}{L:List NodeR}{l2:List (bA×Value)}{L2:List NodeR}{y:NodeR}{z}(h:PlayB c sd L (l2,L2))(hz:PutN l2 (y::L2) y z)(hs:∃e∈c,∃s,tF sd s/\gU e.1 s=some y.s):PlayB c sd L z:=by
 obtain⟨k1,k2,k3,k4⟩:=hz.keys;refine⟨h.sub.trans (SubN.trans (λx hx=>⟨x,j5 _ hx,rfl,rfl⟩) hz.1),hz.2.1,λt ht=>?_,k4 h.nd⟩
 rcases k3 t ht with h'|rfl
 ·exact h.sound t h'
 ·exact hs
theorem Done.mono{sd:Int}{e:bA×Value}{l l':List (bA×Value)}(h:Done sd e l)(k:∀t∈eC l,t∈eC l'):Done sd e l':=λs t hs ht=>k t (h s t hs ht)
theorem bLt(c:List (bA×Value))(L:List NodeR)(l:List dL)(sd:Int)(hc:OkN c L)(hd:∀e∈c,∀s,tF sd s->∃t,gU e.1 s=some t):
    aX Tryz.prog 147 [.agg (rdC l),.d (.mp false (dR c)),.d (.lit (.int .i64 sd))] [nsN L]
      (λr' o'=>∃(m:Nat) (y:List (bA×Value)×List NodeR),(PlayB c sd L y/\∀e∈c,Done sd e y.1)/\r'=.d (.lit (.map (some m)))/\o'=[mx m false (dR y.1),nsN y.2]):=by
 refine fng xT {nd:=[14,15,32,37]} false [] [.agg (rdC l),.d (.mp false (dR c)),.d (.lit (.int .i64 sd))] [(90000,.raw (nsN L))] [.tmp 6] Tryz.func147 Tryz.results147 Tryz.ntmps147 ?_;refine omm false ?_;refine bJh (kv:=kvS) (enc:=λv=>[.lit v]) (agg:=false) (av:=λv=>.d (.lit v)) (l:=c) 90001 90002 (λ_=>rfl) Tryz.underlying113 ?_;intro q rr bs ck hleft;refine aEz [2,3,7,14] [3,90001] (λ(y:(List (bA×Value)×List NodeR)×List Nat)=>([],[(12,.map false (dR y.1.1)),(90000,.raw (nsN y.1.2)),(90002,.raw (.iter q rr ck y.2 ck))]))
   (λk y=>(dG c bs y.2).length<k/\PlayB c sd L y.1/\∀e∈c,e∈dG c bs y.2\/Done sd e y.1.1) (k0:=c.length+1) (([],L),[]) ⟨by rw[hleft];omega,⟨SubN.refl _,λe he=>by simp at he,λt ht=>by simp at ht,by simp⟩,λe he=>.inl (by rw[hleft];exact he)⟩ (lev []) ?_ (λa h=>by omega)
 rintro k ⟨⟨l1,L1⟩,seen⟩ ⟨hk,hB,hD⟩;refine bJf (kv:=kvS) (av:=λv=>.d (.lit v)) (l:=c) 90001 90002 ?_ ?_
 · intro h0
   refine ob2 (λh=>by cases h) λ_=>?_;exact⟨rfl,[12,90000],λb o s=>⟨b 12,(l1,L1),⟨hB,λe he=>(hD e he).elim (λh=>by rw[h0] at h;simp at h) id⟩,rfl,by kernel_rfl⟩⟩
 rintro j b ⟨p1,p2⟩ hp;refine ob2 (λ_=>?_) λh=>by cases h
 refine bJb (kv:=kvS) (av:=λv=>.d (.lit v)) (l:=c) (ka:=.agg (pR p1)) 90001 90002 hp (λ_ _=>.agg (aBe rfl)) ?_;have hpc:(p1,p2)∈c:=i8 hp.2.1;obtain⟨i,hi1,hi2⟩:=aCg hp.1 hp.2.1 hp.2.2.1 hp.2.2.2;have hlen:(dG c bs (seen++[b])).length<k:=by
   rw[hi2,aG1];have:=(g7.1 hi1).1;have hk':(dG c bs seen).length<k+1:=hk;have h3:i<(dG c bs seen).length:=this;rw[if_pos this];show(dG c bs seen).length-1<k
   omega
 have hD':∀e∈c,(e∈dG c bs (seen++[b])\/Done sd e l1)\/e=(p1,p2):=λe he=>by
   rcases hD e he with h|h
   · rw[hi2]
     by_cases hep:e=(p1,p2)
     · exact .inr hep
     · exact .inl (.inl (aCl hi1 h hep))
   · exact .inl (.inr h)
 refine aEz [2,3,7,9,14] [3,90001,90002] (λ(z:Int×(List (bA×Value)×List NodeR))=>([(19,.d (.lit (.int .i64 z.1)))],[(12,.map false (dR z.2.1)),(90000,.raw (nsN z.2.2))]))
   (λk z=>((z.1=0\/z.1=1\/z.1=2)/\(2-z.1)<k)/\PlayB c sd L z.2/\(∀t∈eC l1,t∈eC z.2.1)/\∀s t,tF sd s->s<z.1->gU p1 s=some t->t∈eC z.2.1) (k0:=3) (0,(l1,L1)) ⟨⟨.inl rfl,by omega⟩,hB,λt ht=>ht,λs t hs h=>by rcases hs.1 with rfl|rfl<;>omega⟩ (lev []) ?_ (λa h=>by omega)
 rintro k2 ⟨j2,l2,L2⟩ ⟨⟨hj,hk2⟩,hB2,hk12,hdn⟩;simp only at hj hk2 hB2 hk12 hdn;refine ob2 (λhlt=>?_) λhge=>?_
 · have hlt:j2<2:=aE0 hlt
   have hj01:j2=0\/j2=1:=by omega
   have hw:w64 (j2+1)=j2+1:=by rcases hj01 with rfl|rfl<;>rfl
   have hX:(bif !decide (sd= -1) then some (!decide (sd=j2)) else some false).bind some=some (!decide (sd= -1)&&!decide (sd=j2)):=by cases decide (sd= -1)<;>rfl
   refine jg hX (λx hx=>?_) λb3 h3=>?_
   · refine br hx (λhx=>?_) λhx=>?_
     · exact jt hx
     · exact jt hx
   cases h3;refine ob2 (λhno=>?_) λhyes=>?_
   · refine⟨(w64 (j2+1),l2,L2),⟨⟨by rw[hw];omega,by rw[hw];omega⟩,hB2,hk12,λs t hs hlt' ht=>?_⟩,lev []⟩
     rw[hw] at hlt'
     rcases Int.lt_or_eq_of_le (show s<=j2 by omega) with h|rfl
     · exact hdn s t hs h ht
     · simp only[f4,l6,n9] at hno
       rcases hs.2 with h|h
       · exact absurd h hno.1
       · exact absurd h hno.2
   · have hask:tF sd j2:=⟨hj01,by
       by_cases h1:sd= -1
       · exact .inl h1
       · by_cases h2:sd=j2
         · exact .inr h2
         · simp[h1,h2] at hyes⟩
     obtain⟨t,ht⟩:=hd _ hpc _ hask;obtain⟨x0,hx0,hxs,hxp⟩:=hc _ hpc;obtain⟨x,hx,hx1,hx2⟩:=hB2.sub x0 hx0;have hcall:aX Tryz.prog 203 [.agg (rdC l),.d (.lit p2),.d (.lit (.int .i64 j2))] [nsN L2] (λr' o'=>∃y:NodeR,(y.s=t/\∀z∈L2,y.ptr≠z.ptr)/\r'=.d (.lit y.ptr)/\o'=[nsN (y::L2)]):=by
       have h:=bLq L2 x hx l j2 (r:=t) (by rw[hx2,hxs];exact ht);rw[hx1,<-hxp] at h;exact h
     refine cgn (α:=NodeR) (Rx:=λy=>y.s=t/\∀z∈L2,y.ptr≠z.ptr) [(90000,.raw (nsN L2))] [] (λy=>.d (.lit y.ptr)) (λy=>[some (.raw (nsN (y::L2)))]) (λ_=>[]) (args':=λ_=>[.agg (rdC l),.d (.lit p2),.d (.lit (.int .i64 j2))]) (objs':=λ_=>[nsN L2]) Tryz.call203
       (λρ=>⟨_,hcall,by rintro r' o' ⟨y,hy,rfl,rfl⟩;exact⟨y,hy,[],rfl,rfl⟩⟩) (λy hy=>?_) (bQt t L2)
     refine cOu Tryz.underlying243 ?_;refine ob2 (λ_=>?_) λh=>by cases h
     have hok:OkN l2 (y::L2):=hB2.ok.sub λz hz=>⟨z,j5 _ hz,rfl,rfl⟩;refine cgn (α:=List (bA×Value)×List NodeR) (Rx:=PutN l2 (y::L2) y) [(12,.map false (dR l2)),(90000,.raw (nsN (y::L2)))] [] (λ_=>.tup []) (λz=>[some (.map false (dR z.1)),some (.raw (nsN z.2))]) (λ_=>[]) (args':=λρ=>[.d (.lit (.map (some (ρ.bb 12)))),.d (.lit y.ptr)]) (objs':=λρ=>[mx (ρ.bb 12) false (dR l2),nsN (y::L2)]) Tryz.call146
       (λρ=>⟨_,aNs l2 (y::L2) y (ρ.bb 12) (by simp) hok (λe he=>.inl ?_),by rintro r' o' ⟨z,hz,rfl,rfl⟩;exact⟨z,hz,[],rfl,rfl⟩⟩) (λz hz=>?_) (aTw (by simp) hok)
     · obtain⟨z,hz,_,h2⟩:=hB2.ok e he
       rw[h2];exact(hy.2 z hz).symm
     obtain⟨k1,k2',k3,k4⟩:=hz.keys;refine⟨(w64 (j2+1),z),⟨⟨by rw[hw];omega,by rw[hw];omega⟩,hB2.put hz ⟨_,hpc,j2,hask,by rw[ht,hy.1]⟩,λt ht=>k1 t (hk12 t ht),λs t' hs hlt' ht'=>?_⟩,lev []⟩;rw[hw] at hlt'
     rcases Int.lt_or_eq_of_le (show s<=j2 by omega) with h|rfl
     · exact k1 _ (hdn s t' hs h ht')
     · have ht'':gU p1 s=some t:=ht
       rw[ht''] at ht';cases ht';rw[<-hy.1];exact k2'
 · have hge:¬j2<2:=of_decide_eq_false hge
   have hdone:Done sd (p1,p2) l2:=λs t hs ht=>hdn s t hs (by rcases hs.1 with rfl|rfl<;>omega) ht;refine⟨((l2,L2),seen++[b]),⟨hlen,hB2,λe he=>?_⟩,lev []⟩
   rcases hD' e he with(h|h)|rfl
   · exact .inl h
   · exact .inr (h.mono hk12)
   · exact .inr hdone
end Go.Am
