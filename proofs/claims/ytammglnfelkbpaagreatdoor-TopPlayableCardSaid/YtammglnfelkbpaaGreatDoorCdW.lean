/- Cards: a mark is read. -/
import Derived.Test.YtammglnfelkbpaaGreatDoorCdR
namespace Go.Am
open Go.Proofs
set_option maxRecDepth 100000
set_option maxHeartbeats 40000000
attribute [local instance] aCj
theorem cFf:gJ Tryz.prog 248 20:=⟨Tryz.isAgg248,Tryz.sizeOf248⟩
theorem aIr{c:List (bA×Value)}{L:List NodeR}{K K':List bA}(l:List dL)(sd:Int)(hc:OkN c L)(hs:∀t,t∈eC c↔t∈K)(h:aPc sd K=some K'):
  aX Tryz.prog 147 [.agg (rdC l),.d (.mp false (dR c)),.d (.lit (.int .i64 sd))] [nsN L] (λr' o'=>∃(m:Nat) (y:List (bA×Value)×List NodeR),CrowdN L K' y/\r'=.d (.lit (.map (some m)))/\o'=[nsN y.2,mx m false (dR y.1)]):=
 vZ (bLs l sd hc hs h) (by rintro r o ⟨m,y,h1,h2,rfl⟩;exact⟨_,Same.perm (List.Perm.swap _ _ _),m,y,h1,h2,rfl⟩)
theorem bLu (c:List (bA×Value))(L:List NodeR)(l:List dL)(x:dL)(K K':List bA)(hc:OkN c L)(hs:∀t,t∈eC c↔t∈K)(hnd:(eC c).Nodup)(h:aTx x K=some K'):
    aX Tryz.prog 73 [.agg (rdC l),.d (.mp false (dR c)),.agg (lQ x)] [nsN L] (λr' o'=>∃(m:Nat) (y:List (bA×Value)×List NodeR),CrowdN L K' y/\r'=.d (.lit (.map (some m)))/\o'=[mx m false (dR y.1),nsN y.2]):=by
 unfold aTx at h;refine fng xT {nd:=[36,52,53,61,64,18,19,26,29],lr:=[(21,[64])]} false [] [.agg (rdC l),.d (.mp false (dR c)),.agg (lQ x)] [(90000,.raw (nsN L))] [.tmp 6] Tryz.func73 Tryz.results73 Tryz.ntmps73 ?_;refine omm false ?_;refine br h (λh=>?_) λh=>?_
 · refine cgn (α:=Nat×(List (bA×Value)×List NodeR)) (Rx:=λz=>CrowdN L K' z.2) [(90000,.raw (nsN L))] [36] (λ_=>.d (.hv 1 36 0)) (λz=>[some (.raw (nsN z.2.2))]) (λz=>[(36,.map false (dR z.2.1))]) (args':=λ_=>[.agg (rdC l),.d (.mp false (dR c)),.d (.lit (.int .i64 x.Side))]) (objs':=λ_=>[nsN L]) Tryz.call147
     (λρ=>⟨_,aIr l x.Side hc hs h,by rintro r' o' ⟨m,y,hy,rfl,rfl⟩;exact⟨(m,y),hy,[.b m 0],rfl,rfl⟩⟩) (λz hz=>?_) ⟨(0,_),(aIt L K').choose_spec⟩
   exact⟨rfl,[36,90000],λb o s=>⟨b 36,z.2,hz,rfl,by kernel_rfl⟩⟩
 · refine br h (λh=>?_) λh=>?_
   · refine aEz [3,5,7,42] [3,5] (λ(z:Int×List (bA×Value)×(List (bA×Value)×List NodeR))=>([(43,.d (.lit (.int .i64 z.1))),(1,.d (.mp false (dR z.2.1)))],[(14,.map false (dR z.2.2.1)),(90000,.raw (nsN z.2.2.2))]))
       (λk z=>∃K out,aTo x.Pair.A x.Pair.B k z.1 K out=some K'/\OkN z.2.1 z.2.2.2/\(∀t,t∈eC z.2.1↔t∈K)/\(eC z.2.1).Nodup/\CrowdN L out z.2.2) (k0:=100) (0,c,[],L) ⟨K,[],h,hc,hs,hnd,SubN.refl _,λe he=>by simp at he,λt=>by simp,by simp⟩ (lev []) ?_ (λa h=>by obtain⟨_,_,h,_⟩:=h;cases h)
     rintro k ⟨n,c1,l1,L1⟩ ⟨K1,out,hm,hok1,hs1,hnd1,hC⟩;have hok1:OkN c1 L1:=hok1;have hs1:∀t,t∈eC c1↔t∈K1:=hs1;have hC:CrowdN L out (l1,L1):=hC;simp only[aTo] at hm;refine br hm (λhm=>?_) λhm=>?_
     · obtain ⟨K2,hK2,hm⟩:=bind_some hm
       refine ob2 (λha=>?_) λha=>?_
       · have ha:decide (x.Pair.A<=n)=true:=ha
         rw [ha] at hm;refine bJh (kv:=kvS) (enc:=λv=>[.lit v]) (agg:=false) (av:=λv=>.d (.lit v)) (l:=c1) 90001 90002 (λ_=>rfl) Tryz.underlying113 ?_;intro q rr bs ck hleft;refine aEz [1,3,5,7,42,43,52] [3,5,90001] (λ(y:(List (bA×Value)×List NodeR)×List Nat)=>([],[(14,.map false (dR y.1.1)),(90000,.raw (nsN y.1.2)),(90002,.raw (.iter q rr ck y.2 ck))]))
           (λk y=>(dG c1 bs y.2).length<k/\CopyN c1 out L L1 (dG c1 bs y.2) y.1) (k0:=c1.length+1) ((l1,L1),[]) ⟨by rw[hleft];omega,hC.sub,SubN.refl _,hC.ok,hC.nd,λt ht=>.inl ((hC.sm t).1 ht),λt ht=>(hC.sm t).2 ht,λe he=>.inl (by rw[hleft];exact he)⟩ (lev []) ?_ (λa h=>by omega)
         rintro k3 ⟨⟨l2,L2⟩,seen⟩ ⟨hk,hI⟩;have hk:(dG c1 bs seen).length<k3+1:=hk;have hI:CopyN c1 out L L1 (dG c1 bs seen) (l2,L2):=hI;refine bJf (kv:=kvS) (av:=λv=>.d (.lit v)) (l:=c1) 90001 90002 ?_ ?_
         · intro h0
           have h0:dG c1 bs seen=[]:=h0;refine ob2 (λh=>by cases h) λ_=>?_;have hok2:OkN c1 L2:=hok1.sub hI.sub1;have hC2:CrowdN L (out++K1) (l2,L2):=CopyN.end (h0▸hI) hs1;refine cgn (α:=Nat×(List (bA×Value)×List NodeR)) (Rx:=λz=>CrowdN L2 K2 z.2) [(90000,.raw (nsN L2))] [64] (λ_=>.d (.hv 1 64 0)) (λz=>[some (.raw (nsN z.2.2))]) (λz=>[(64,.map false (dR z.2.1))]) (args':=λ_=>[.agg (rdC l),.d (.mp false (dR c1)),.d (.lit (.int .i64 (-1)))]) (objs':=λ_=>[nsN L2]) Tryz.call147
             (λρ=>⟨_,aIr l (-1) hok2 hs1 hK2,by rintro r' o' ⟨m,y,hy,rfl,rfl⟩;exact⟨(m,y),hy,[.b m 0],rfl,rfl⟩⟩) (λz hz=>?_) ⟨(0,_),(aIt L2 K2).choose_spec⟩
           refine⟨(w64 (n+1),z.2.1,l2,z.2.2),⟨K2,_,hm,hz.ok,hz.sm,hz.nd,hC2.more hz.sub⟩,lev []⟩
         rintro j b ⟨p1,p2⟩ hp;refine ob2 (λ_=>?_) λh=>by cases h
         refine bJb (kv:=kvS) (av:=λv=>.d (.lit v)) (l:=c1) (ka:=.agg (pR p1)) 90001 90002 hp (λ_ _=>.agg (aBe rfl)) ?_;have hpc:(p1,p2)∈c1:=i8 hp.2.1;obtain⟨i,hi1,hi2⟩:=aCg hp.1 hp.2.1 hp.2.2.1 hp.2.2.2;have hi1:(dG c1 bs seen)[i]?=some (p1,p2):=hi1;have hi2:dG c1 bs (seen++[b])=(dG c1 bs seen).eraseIdx i:=hi2;have hlen:(dG c1 bs (seen++[b])).length<k3:=by
           have:=(g7.1 hi1).1;rw[hi2,aG1,if_pos this]
           omega
         obtain⟨x0,hx0,hxs,hxp⟩:=hok1 _ hpc;obtain⟨nd,hn,hn1,hn2⟩:=hI.sub1 x0 hx0;have hns:nd.s=p1:=hn2.trans hxs;obtain rfl:p2=nd.ptr:=hxp.trans hn1.symm;refine cNl ?_;refine cOp (h:=90000) (p:=nd.cell) (es:=iW nd.s nd.v nd.i nd.lo nd.hi) (L:=L2.map NodeR.cell) (l5.2 ⟨nd,hn,rfl⟩) cFf rfl ?_;refine cgn (α:=(List (bA×Value)×List NodeR)×(Nat×Nat)) (Rx:=λz=>PutN l2 ((⟨z.2.1,z.2.2,nd.s,nd.v,nd.i,nd.lo,nd.hi⟩:NodeR)::L2) ⟨z.2.1,z.2.2,nd.s,nd.v,nd.i,nd.lo,nd.hi⟩ z.1) [(14,.map false (dR l2)),(90000,.raw (nsN L2)),(11,.box (iW nd.s nd.v nd.i nd.lo nd.hi))] [] (λ_=>.tup []) (λz=>[some (.map false (dR z.1.1)),some (.raw (nsN z.1.2)),none]) (λ_=>[])
           (args':=λρ=>[.d (.lit (.map (some (ρ.bb 14)))),.bp (ρ.bb 11) (ρ.oo 11) 0]) (objs':=λρ=>[mx (ρ.bb 14) false (dR l2),nsN L2,.box (ρ.bb 11) (ρ.oo 11) (iW nd.s nd.v nd.i nd.lo nd.hi)]) Tryz.call146
           (λρ=>⟨_,aYh l2 L2 ⟨ρ.bb 11,ρ.oo 11,nd.s,nd.v,nd.i,nd.lo,nd.hi⟩ (ρ.bb 14) hI.ok,by rintro r' o' ⟨z,hz,rfl,rfl⟩;exact⟨(z,(ρ.bb 11,ρ.oo 11)),hz,[],rfl,rfl⟩⟩) (λz hz=>?_)
           (by obtain⟨y,hy⟩:=aTw (l:=l2) (L:=(⟨0,0,nd.s,nd.v,nd.i,nd.lo,nd.hi⟩:NodeR)::L2) (x:=⟨0,0,nd.s,nd.v,nd.i,nd.lo,nd.hi⟩) (by simp) (hI.ok.sub λz hz=>⟨z,j5 _ hz,rfl,rfl⟩);exact⟨(y,(0,0)),hy⟩)
         refine⟨(z.1,seen++[b]),⟨hlen,?_⟩,lev []⟩;show CopyN c1 out L L1 (dG c1 bs (seen++[b])) z.1;rw[hi2];exact hI.take (n:=⟨z.2.1,z.2.2,nd.s,nd.v,nd.i,nd.lo,nd.hi⟩) hi1 hpc hns hz
       · have ha:decide (x.Pair.A<=n)=false:=ha
         rw [ha] at hm;have hok2:=hok1;have hC2:=hC;refine cgn (α:=Nat×(List (bA×Value)×List NodeR)) (Rx:=λz=>CrowdN L1 K2 z.2) [(90000,.raw (nsN L1))] [64] (λ_=>.d (.hv 1 64 0)) (λz=>[some (.raw (nsN z.2.2))]) (λz=>[(64,.map false (dR z.2.1))]) (args':=λ_=>[.agg (rdC l),.d (.mp false (dR c1)),.d (.lit (.int .i64 (-1)))]) (objs':=λ_=>[nsN L1]) Tryz.call147
           (λρ=>⟨_,aIr l (-1) hok2 hs1 hK2,by rintro r' o' ⟨m,y,hy,rfl,rfl⟩;exact⟨(m,y),hy,[.b m 0],rfl,rfl⟩⟩) (λz hz=>?_) ⟨(0,_),(aIt L1 K2).choose_spec⟩
         refine⟨(w64 (n+1),z.2.1,l1,z.2.2),⟨K2,_,hm,hz.ok,hz.sm,hz.nd,hC2.more hz.sub⟩,lev []⟩
     · cases hm
       exact⟨rfl,[14,90000],λb o s=>⟨b 14,(l1,L1),hC,rfl,by kernel_rfl⟩⟩
   · obtain⟨hf1,hf2⟩:=aRk h
     refine bJh (kv:=kvS) (enc:=λv=>[.lit v]) (agg:=false) (av:=λv=>.d (.lit v)) (l:=c) 90001 90002 (λ_=>rfl) Tryz.underlying113 ?_;intro q rr bs ck hleft;refine aEz [3,5,7,18] [3,5,90001] (λ(y:(List (bA×Value)×List NodeR)×List Nat)=>([],[(14,.map false (dR y.1.1)),(90000,.raw (nsN y.1.2)),(90002,.raw (.iter q rr ck y.2 ck))]))
       (λk y=>(dG c bs y.2).length<k/\SieveN x c L (dG c bs y.2) y.1) (k0:=c.length+1) (([],L),[]) ⟨by rw[hleft];omega,SubN.refl _,λe he=>by simp at he,by simp,λt ht=>by simp at ht,λe he=>.inl (by rw[hleft];exact he)⟩ (lev []) ?_ (λa h=>by omega)
     rintro k ⟨⟨l1,L1⟩,seen⟩ ⟨hk,hI⟩;have hk:(dG c bs seen).length<k+1:=hk;have hI:SieveN x c L (dG c bs seen) (l1,L1):=hI;refine bJf (kv:=kvS) (av:=λv=>.d (.lit v)) (l:=c) 90001 90002 ?_ ?_
     · intro h0
       have h0:dG c bs seen=[]:=h0;refine ob2 (λh=>by cases h) λ_=>?_;exact⟨rfl,[14,90000],λb o s=>⟨b 14,(l1,L1),SieveN.end (h0▸hI) hs hf2,rfl,by kernel_rfl⟩⟩
     rintro j b ⟨p1,p2⟩ hp;refine ob2 (λ_=>?_) λh=>by cases h
     refine bJb (kv:=kvS) (av:=λv=>.d (.lit v)) (l:=c) (ka:=.agg (pR p1)) 90001 90002 hp (λ_ _=>.agg (aBe rfl)) ?_;have hpc:(p1,p2)∈c:=i8 hp.2.1;obtain⟨i,hi1,hi2⟩:=aCg hp.1 hp.2.1 hp.2.2.1 hp.2.2.2;have hi1:(dG c bs seen)[i]?=some (p1,p2):=hi1;have hi2:dG c bs (seen++[b])=(dG c bs seen).eraseIdx i:=hi2;have hlen:(dG c bs (seen++[b])).length<k:=by
       have:=(g7.1 hi1).1;rw[hi2,aG1,if_pos this]
       omega
     obtain⟨bv,hbv⟩:=hf1 _ ((hs _).1 (xO hpc));have hbv:lO x p1=some bv:=hbv;obtain⟨x0,hx0,hxs,hxp⟩:=hc _ hpc;obtain⟨n,hn,hn1,hn2⟩:=hI.sub x0 hx0;have hns:n.s=p1:=hn2.trans hxs;have hnp:p2=n.ptr:=hxp.trans hn1.symm;refine cgn (α:=Unit) (Rx:=λ_=>True) [(90000,.raw (nsN L1))] [] (λ_=>.b bv) (λ_=>[some (.raw (nsN L1))]) (λ_=>[]) (args':=λ_=>[.agg (rdC l),.agg (lQ x),.d (.lit p2)]) (objs':=λ_=>[nsN L1]) Tryz.call148
       (λρ=>⟨_,by rw[hnp];exact bHd L1 n hn l x (by rw[hns];exact hbv),by rintro r' o' ⟨rfl,rfl⟩;exact⟨(),trivial,[],rfl,rfl⟩⟩) (λ_ _=>?_) ⟨(),trivial⟩
     refine ob2 (λhb=>?_) λhb=>?_
     · have hb:bv=true:=hb
       subst hb;refine cgn (α:=List (bA×Value)×List NodeR) (Rx:=PutN l1 L1 n) [(14,.map false (dR l1)),(90000,.raw (nsN L1))] [] (λ_=>.tup []) (λz=>[some (.map false (dR z.1)),some (.raw (nsN z.2))]) (λ_=>[]) (args':=λρ=>[.d (.lit (.map (some (ρ.bb 14)))),.d (.lit p2)]) (objs':=λρ=>[mx (ρ.bb 14) false (dR l1),nsN L1]) Tryz.call146
         (λρ=>⟨_,by rw[hnp];exact aNs l1 L1 n (ρ.bb 14) hn hI.ok (λe he=>.inr (by rw[hns];exact hI.new hi1)),by rintro r' o' ⟨z,hz,rfl,rfl⟩;exact⟨z,hz,[],rfl,rfl⟩⟩) (λz hz=>?_) (aTw hn hI.ok)
       refine⟨(z,seen++[b]),⟨hlen,?_⟩,lev []⟩;show SieveN x c L (dG c bs (seen++[b])) z;rw[hi2];exact hI.take (List.Nodup.sublist ((bVr hleft).map _) hnd) hi1 hpc hbv hns hz
     · have hb:bv=false:=hb
       subst hb;refine⟨((l1,L1),seen++[b]),⟨hlen,?_⟩,lev []⟩;show SieveN x c L (dG c bs (seen++[b])) (l1,L1);rw[hi2];exact hI.skip hi1 hbv
end Go.Am
