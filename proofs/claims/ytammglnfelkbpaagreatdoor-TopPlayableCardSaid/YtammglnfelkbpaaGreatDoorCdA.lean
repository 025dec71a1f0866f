/- Cards: the example's first mark without a match. -/
import Derived.Test.YtammglnfelkbpaaGreatDoorCdW
import Derived.Test.YtammglnfelkbpaaGreatDoorAmPlain
namespace Go.Am
open Go.Proofs
set_option maxRecDepth 100000
set_option maxHeartbeats 40000000
attribute [local instance] aCj
def tN:bA:=⟨0,0,0,0⟩
theorem bHb(l:List dL):aX Tryz.prog 72 [.agg (rdC l)] [nsN []] (λr' o'=>∃(m:Nat) (y:List (bA×Value)×List NodeR),CrowdN [] [tN] y/\r'=.d (.lit (.map (some m)))/\o'=[nsN y.2,mx m false (dR y.1)]):=by
 refine fng xT {nd:=[25]} false [] [.agg (rdC l)] [(90000,.raw (nsN []))] [.tmp 2] Tryz.func72 Tryz.results72 Tryz.ntmps72 ?_;refine omm false ?_;refine aEz [1,3] [1] (λ(z:Int×(List (bA×Value)×List NodeR))=>([(6,.d (.lit (.int .i64 z.1)))],[(5,.map false (dR z.2.1)),(90000,.raw (nsN z.2.2))]))
   (λk z=>(z.1=0/\z.2=([],[])/\3<=k)\/(z.1=1/\CrowdN [] [tN] z.2/\2<=k)\/(z.1=2/\CrowdN [] [tN] z.2/\1<=k)) (k0:=3) (0,[],[]) (.inl ⟨rfl,rfl,by omega⟩) (lev []) ?_ (λa h=>by omega)
 rintro k ⟨n,l1,L1⟩ hF;simp only at hF;refine ob2 (λhlt=>?_) λhge=>?_
 · have hlt:n<2:=aE0 hlt
   refine jg (X:=some (decide ((0:Int)=n))) (g:=some) (r:=decide ((0:Int)=n)) rfl (λx hx=>?_) λb3 h3=>?_
   · refine ob2 (λh=>by cases h) λ_=>?_
     exact jt hx
   cases h3;refine ob2 (λh0=>?_) λh0=>?_
   · obtain rfl:0=n:=aE0 h0
     obtain⟨_,he,hk⟩:(0:Int)=0/\(l1,L1)=([],[])/\3<=k+1:=by
       rcases hF with h|h|h
       · exact h
       · exact absurd h.1 (by decide)
       · exact absurd h.1 (by decide)
     cases he;refine cgn (α:=(List (bA×Value)×List NodeR)×(Nat×Nat)) (Rx:=λz=>PutN [] [(⟨z.2.1,z.2.2,tN,.pointer none,0,0,0⟩:NodeR)] ⟨z.2.1,z.2.2,tN,.pointer none,0,0,0⟩ z.1) [(5,.map false (dR [])),(90000,.raw (nsN [])),(24,.box (iW tN (.pointer none) 0 0 0))] [] (λ_=>.tup []) (λz=>[some (.map false (dR z.1.1)),some (.raw (nsN z.1.2)),none]) (λ_=>[])
       (args':=λρ=>[.d (.lit (.map (some (ρ.bb 5)))),.bp (ρ.bb 24) (ρ.oo 24) 0]) (objs':=λρ=>[mx (ρ.bb 5) false (dR []),nsN [],.box (ρ.bb 24) (ρ.oo 24) (iW tN (.pointer none) 0 0 0)]) Tryz.call146
       (λρ=>⟨_,aYh [] [] ⟨ρ.bb 24,ρ.oo 24,tN,.pointer none,0,0,0⟩ (ρ.bb 5) (λe he=>by simp at he),by rintro r' o' ⟨z,hz,rfl,rfl⟩;exact⟨(z,(ρ.bb 24,ρ.oo 24)),hz,[],rfl,rfl⟩⟩) (λz hz=>?_)
       (by obtain⟨y,hy⟩:=aTw (l:=[]) (L:=[(⟨0,0,tN,.pointer none,0,0,0⟩:NodeR)]) (x:=⟨0,0,tN,.pointer none,0,0,0⟩) (by simp) (λe he=>by simp at he);exact⟨(y,(0,0)),hy⟩)
     refine⟨(w64 (0+1),z.1),.inr (.inl ⟨rfl,?_,by omega⟩),lev []⟩;obtain⟨k1,k2,k3,k4⟩:=hz.keys;refine⟨λx hx=>by simp at hx,hz.2.1,λt=>⟨λht=>?_,λht=>?_⟩,k4 (by simp)⟩
     · rcases k3 t ht with h|rfl
       · simp at h
       · simp
     · rw[l7.1 ht];exact k2
   · have h0:¬0=n:=of_decide_eq_false h0
     have h1:n=1/\CrowdN [] [tN] (l1,L1)/\2<=k+1:=by
       rcases hF with h|h|h
       · exact absurd h.1.symm h0
       · exact h
       · omega
     obtain⟨rfl,hC,hk⟩:=h1;exact⟨(w64 (1+1),l1,L1),.inr (.inr ⟨rfl,hC,by omega⟩),lev []⟩
 · have hge:¬n<2:=of_decide_eq_false hge
   have h1:CrowdN [] [tN] (l1,L1):=by
     rcases hF with h|h|h
     · omega
     · omega
     · exact h.2.1
   exact⟨rfl,[90000,5],λb o s=>⟨b 5,(l1,L1),h1,rfl,by kernel_rfl⟩⟩
def bZs:dC:={Sets:=2,Games:=2,NoAd:=false,Tie:=2,To:=3,LastTie:=0,LastTo:=4,First:=2,Then:=2,Doubles:=false}
def qT:List dL:=[⟨1,0,⟨0,0⟩⟩,⟨2,0,⟨2,4⟩⟩,⟨3,0,⟨3,1⟩⟩,⟨2,0,⟨1,1⟩⟩,⟨4,0,⟨1,0⟩⟩]
def aRj:yH:=⟨bZs,0,qT⟩
def bCa:Nat->Option (List bA)
 |0=>some [tN]
 |n+1=>(bCa n).bind λK=>(qT[n]?).bind λx=>aTx x K
def aIv(n:Nat):Bool:=match bCa n,qT[n]? with
 |some K,some x=>(match aTx x K with|some []=>false|some _=>true|none=>false)
 |_,_=>false
theorem bQs:(aIv 0&&aIv 1&&aIv 2&&aIv 3&&aIv 4)=true:=by kernel_rfl
theorem bZt{n:Nat}(hn:n<5):∃K x K',bCa n=some K/\qT[n]?=some x/\aTx x K=some K'/\K'≠[]/\bCa (n+1)=some K':=by
 have h:aIv n=true:=by
  have:=bQs;simp only[f4] at this
  match n,hn with
  |0,_=>exact this.1.1.1.1
  |1,_=>exact this.1.1.1.2
  |2,_=>exact this.1.1.2
  |3,_=>exact this.1.2
  |4,_=>exact this.2
 unfold aIv at h;split at h
 ·rename_i K x hK hx
  cases hr:aTx x K with
  |none=>rw[hr] at h;cases h
  | some K'=>
   refine⟨K,x,K',hK,hx,hr,?_,?_⟩
   ·intro e;subst e;rw[hr] at h;cases h
   ·show(bCa n).bind _=_;rw[hK];show(qT[n]?).bind _=_;rw[hx];exact hr
 ·cases h
theorem bQb:aX Tryz.prog 38 [.agg (rdC qT)] [] (λr' o'=>∃l:List (bA×Value),True/\r'=.tup [.d (.mp false (dR l)),.i (-1),.i 0]/\o'=[]):=by
 refine wA (O2:=[nsN []]) (aBg [] []) ?_;refine fng xT {nd:=[17,29],lr:=[(6,[17]),(12,[29])]} false [] [.agg (rdC qT)] [(90000,.raw (nsN []))] [.tmp 2,.tmp 3,.tmp 4] Tryz.func38 Tryz.results38 Tryz.ntmps38 ?_;refine cl (sh:=some (0:Int)) (g:=some) (enc:=λv=>.d (.lit (.int .i64 v))) Tryz.call71 (λ_ h=>(bGz aRj).h _ (by cases h;kernel_rfl)) rfl λr1 h1=>?_;cases h1;refine ob2 (λh=>by cases h) λ_=>?_;refine cgn (α:=Nat×(List (bA×Value)×List NodeR)) (Rx:=λz=>CrowdN [] [tN] z.2) [(90000,.raw (nsN []))] [17] (λ_=>.d (.hv 1 17 0)) (λz=>[some (.raw (nsN z.2.2))]) (λz=>[(17,.map false (dR z.2.1))]) (args':=λ_=>[.agg (rdC qT)]) (objs':=λ_=>[nsN []]) Tryz.call72
   (λρ=>⟨_,bHb qT,by rintro r' o' ⟨m,y,hy,rfl,rfl⟩;exact⟨(m,y),hy,[.b m 0],rfl,rfl⟩⟩) (λz hz=>?_) ⟨(0,_),(aIt [] [tN]).choose_spec⟩
 refine ol ?_;refine aEz [6,19,20] [6] (λ(z:Int×(List (bA×Value)×List NodeR))=>([(21,.d (.lit (.int .i64 z.1))),(2,.d (.mp false (dR z.2.1)))],[(90000,.raw (nsN z.2.2))]))
   (λk z=>∃n:Nat,z.1=n/\n<=5/\5-n<k/\∃K,bCa n=some K/\CrowdN [] K z.2) (k0:=6) (0,z.2) ⟨0,rfl,by omega,by omega,[tN],rfl,hz⟩ (lev []) ?_ (λa h=>by obtain⟨n,_,_,h,_⟩:=h;omega)
 rintro k ⟨i,l1,L1⟩ ⟨n,hn,hn5,hk,K,hK,hC⟩;have hn:i=(n:Int):=hn;subst hn;refine ob2 (λhlt=>?_) λhge=>?_
 · have hlt:(n:Int)<5:=aE0 hlt
   obtain⟨K1,x,K',e1,hx,hr,hne,e2⟩:=bZt (n:=n) (by omega);rw[hK] at e1;cases e1;have hi:(idx qT (n:Int)).bind some=some x:=by
     have:idx qT (n:Int)=some x:=by simp[idx,hx]
     rw[this];rfl
   refine oi hi λx' h'=>?_;cases h';refine cgn (α:=Nat×(List (bA×Value)×List NodeR)) (Rx:=λz=>CrowdN L1 K' z.2) [(90000,.raw (nsN L1))] [29] (λ_=>.d (.hv 1 29 0)) (λz=>[some (.raw (nsN z.2.2))]) (λz=>[(29,.map false (dR z.2.1))]) (args':=λ_=>[.agg (rdC qT),.d (.mp false (dR l1)),.agg (lQ x)]) (objs':=λ_=>[nsN L1]) Tryz.call73
     (λρ=>⟨_,vZ (bLu l1 L1 qT x K K' hC.ok hC.sm hC.nd hr) (Q':=λr' o'=>∃(m:Nat) (y:List (bA×Value)×List NodeR),CrowdN L1 K' y/\r'=.d (.lit (.map (some m)))/\o'=[nsN y.2,mx m false (dR y.1)]) (by rintro r o ⟨m,y,h1,h2,rfl⟩;exact⟨_,Same.perm (List.Perm.swap _ _ _),m,y,h1,h2,rfl⟩),by rintro r' o' ⟨m,y,hy,rfl,rfl⟩;exact⟨(m,y),hy,[.b m 0],rfl,rfl⟩⟩) (λz hz=>?_) ⟨(0,_),(aIt L1 K').choose_spec⟩
   refine olm (l:=z.2.1) (kv:=kvS) (enc:=λv=>[.lit v]) (agg:=false) Tryz.underlying113 ?_;refine ob2 (λh0=>?_) λ_=>?_
   · have h0:((z.2.1.length:Nat):Int)=0:=aE0 h0
     have h0:z.2.1=[]:=aD5.1 (by omega);obtain⟨s,hs⟩:=List.exists_mem_of_ne_nil _ hne;have:=(hz.sm s).2 hs;rw[h0] at this
     simp at this
   refine⟨(w64 ((n:Int)+1),z.2),⟨n+1,?_,by omega,by omega,K',e2,SubN.trans hC.sub hz.sub,hz.ok,hz.sm,hz.nd⟩,lev []⟩;show w64 ((n:Int)+1)=((n+1:Nat):Int);rw[cV (by omega) (by omega)];omega
 · exact⟨rfl,[],rfl,λb o s=>⟨l1,trivial,rfl,by kernel_rfl⟩⟩
def aHh(c:yH):Option (Int×Int):=bif decide (c=aRj) then some (-1,0) else none
theorem bHa(c:yH){r:Int×Int}(h:aHh c=some r):Fn Tryz.prog 15 [.agg (aNx c)] (.tup [.d (.lit (.int .i64 r.1)),.d (.lit (.int .i64 r.2))]):=by
 unfold aHh at h
 by_cases hc:c=aRj
 · subst hc
   rw[n7 rfl] at h;cases h;refine fnx xT {nd:=[9]} [.tmp 2,.tmp 3] Tryz.func15 Tryz.results15 Tryz.ntmps15 ?_;refine cgq (enc:=λl:List (bA×Value)=>.tup [.d (.mp false (dR l)),.i (-1),.i 0]) Tryz.call38 bQb ?_ (λ_ _=>rfl);intro l _;exact⟨rfl,_,_,rfl,rfl,rfl,rfl,rfl⟩
 · rw[j6 hc] at h;cases h
end Go.Am
