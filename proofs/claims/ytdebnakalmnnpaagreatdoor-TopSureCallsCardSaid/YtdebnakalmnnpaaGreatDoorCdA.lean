/- Cards: the example's first mark without a match. -/
import Derived.Test.YtdebnakalmnnpaaGreatDoorCdW
import Derived.Test.YtdebnakalmnnpaaGreatDoorAmPlain
namespace Go.Am
open Go.Proofs
set_option maxRecDepth 100000
set_option maxHeartbeats 40000000
attribute [local instance] aDb
def uL:aW:=⟨0,0,0,0⟩
theorem bGo(l:List dB):bC Tryz.prog 73 [.agg (rdC l)] [nsN []] (λr' o'=>∃(m:Nat) (y:List (aW×Value)×List NodeR),CrowdN [] [uL] y/\r'=.d (.lit (.map (some m)))/\o'=[nsN y.2,mx m false (dK y.1)]):=by
 refine fng xT {nd:=[25]} false [] [.agg (rdC l)] [(90000,.raw (nsN []))] [.tmp 2] Tryz.func73 Tryz.results73 Tryz.ntmps73 ?_;refine omm false ?_;refine aWz [1,3] [1] (λ(z:Int×(List (aW×Value)×List NodeR))=>([(6,.d (.lit (.int .i64 z.1)))],[(5,.map false (dK z.2.1)),(90000,.raw (nsN z.2.2))]))
   (λk z=>(z.1=0/\z.2=([],[])/\3<=k)\/(z.1=1/\CrowdN [] [uL] z.2/\2<=k)\/(z.1=2/\CrowdN [] [uL] z.2/\1<=k)) (k0:=3) (0,[],[]) (.inl ⟨rfl,rfl,by omega⟩) (lev []) ?_ (λa h=>by omega)
 rintro k ⟨n,l1,L1⟩ hF;simp only at hF;refine ob2 (λhlt=>?_) λhge=>?_
 · have hlt:n<2:=of_decide_eq_true hlt
   refine jg (X:=some (decide ((0:Int)=n))) (g:=some) (r:=decide ((0:Int)=n)) rfl (λx hx=>?_) λb3 h3=>?_
   · refine ob2 (λh=>by cases h) λ_=>?_
     exact jt hx
   cases h3;refine ob2 (λh0=>?_) λh0=>?_
   · obtain rfl:0=n:=of_decide_eq_true h0
     obtain⟨_,he,hk⟩:(0:Int)=0/\(l1,L1)=([],[])/\3<=k+1:=by
       rcases hF with h|h|h
       · exact h
       · exact absurd h.1 (by decide)
       · exact absurd h.1 (by decide)
     cases he;refine cgn (α:=(List (aW×Value)×List NodeR)×(Nat×Nat)) (Rx:=λz=>PutN [] [(⟨z.2.1,z.2.2,uL,.pointer none,0,0,0⟩:NodeR)] ⟨z.2.1,z.2.2,uL,.pointer none,0,0,0⟩ z.1) [(5,.map false (dK [])),(90000,.raw (nsN [])),(24,.box (jH uL (.pointer none) 0 0 0))] [] (λ_=>.tup []) (λz=>[some (.map false (dK z.1.1)),some (.raw (nsN z.1.2)),none]) (λ_=>[])
       (args':=λρ=>[.d (.lit (.map (some (ρ.bb 5)))),.bp (ρ.bb 24) (ρ.oo 24) 0]) (objs':=λρ=>[mx (ρ.bb 5) false (dK []),nsN [],.box (ρ.bb 24) (ρ.oo 24) (jH uL (.pointer none) 0 0 0)]) Tryz.call147
       (λρ=>⟨_,aXz [] [] ⟨ρ.bb 24,ρ.oo 24,uL,.pointer none,0,0,0⟩ (ρ.bb 5) (λe he=>by simp at he),by rintro r' o' ⟨z,hz,rfl,rfl⟩;exact⟨(z,(ρ.bb 24,ρ.oo 24)),hz,[],rfl,rfl⟩⟩) (λz hz=>?_)
       (by obtain⟨y,hy⟩:=aUa (l:=[]) (L:=[(⟨0,0,uL,.pointer none,0,0,0⟩:NodeR)]) (x:=⟨0,0,uL,.pointer none,0,0,0⟩) (by simp) (λe he=>by simp at he);exact⟨(y,(0,0)),hy⟩)
     refine⟨(w64 (0+1),z.1),.inr (.inl ⟨rfl,?_,by omega⟩),lev []⟩;obtain⟨k1,k2,k3,k4⟩:=hz.keys;refine⟨λx hx=>by simp at hx,hz.2.1,λt=>⟨λht=>?_,λht=>?_⟩,k4 (by simp)⟩
     · rcases k3 t ht with h|rfl
       · simp at h
       · simp
     · rw[List.mem_singleton.1 ht];exact k2
   · have h0:¬0=n:=of_decide_eq_false h0
     have h1:n=1/\CrowdN [] [uL] (l1,L1)/\2<=k+1:=by
       rcases hF with h|h|h
       · exact absurd h.1.symm h0
       · exact h
       · omega
     obtain⟨rfl,hC,hk⟩:=h1;exact⟨(w64 (1+1),l1,L1),.inr (.inr ⟨rfl,hC,by omega⟩),lev []⟩
 · have hge:¬n<2:=of_decide_eq_false hge
   have h1:CrowdN [] [uL] (l1,L1):=by
     rcases hF with h|h|h
     · omega
     · omega
     · exact h.2.1
   exact⟨rfl,[90000,5],λb o s=>⟨b 5,(l1,L1),h1,rfl,by kernel_rfl⟩⟩
def bVx:bU:={Sets:=2,Games:=2,NoAd:=false,Tie:=2,To:=3,LastTie:=0,LastTo:=4,First:=2,Then:=2,Doubles:=false}
def rJ:List dB:=[⟨1,0,⟨0,0⟩⟩,⟨2,0,⟨2,4⟩⟩,⟨3,0,⟨3,1⟩⟩,⟨2,0,⟨1,1⟩⟩,⟨4,0,⟨1,0⟩⟩]
def aRn:zO:=⟨bVx,0,rJ⟩
def bBk:Nat->Option (List aW)
 |0=>some [uL]
 |n+1=>(bBk n).bind λK=>(rJ[n]?).bind λx=>aUb x K
def aIu(n:Nat):Bool:=match bBk n,rJ[n]? with
 |some K,some x=>(match aUb x K with|some []=>false|some _=>true|none=>false)
 |_,_=>false
theorem bOy:(aIu 0&&aIu 1&&aIu 2&&aIu 3&&aIu 4)=true:=by kernel_rfl
theorem bVy{n:Nat}(hn:n<5):∃K x K',bBk n=some K/\rJ[n]?=some x/\aUb x K=some K'/\K'≠[]/\bBk (n+1)=some K':=by
 have h:aIu n=true:=by
  have:=bOy;simp only[Bool.and_eq_true] at this
  match n,hn with
  |0,_=>exact this.1.1.1.1
  |1,_=>exact this.1.1.1.2
  |2,_=>exact this.1.1.2
  |3,_=>exact this.1.2
  |4,_=>exact this.2
 unfold aIu at h;split at h
 ·rename_i K x hK hx
  cases hr:aUb x K with
  |none=>rw[hr] at h;cases h
  | some K'=>
   refine⟨K,x,K',hK,hx,hr,?_,?_⟩
   ·intro e;subst e;rw[hr] at h;cases h
   ·show(bBk n).bind _=_;rw[hK];show(rJ[n]?).bind _=_;rw[hx];exact hr
 ·cases h
theorem bOu:bC Tryz.prog 40 [.agg (rdC rJ)] [] (λr' o'=>∃l:List (aW×Value),True/\r'=.tup [.d (.mp false (dK l)),.i (-1),.i 0]/\o'=[]):=by
 refine xC (O2:=[nsN []]) (aCg [] []) ?_;refine fng xT {nd:=[17,29],lr:=[(6,[17]),(12,[29])]} false [] [.agg (rdC rJ)] [(90000,.raw (nsN []))] [.tmp 2,.tmp 3,.tmp 4] Tryz.func40 Tryz.results40 Tryz.ntmps40 ?_;refine cl (sh:=some (0:Int)) (g:=some) (enc:=λv=>.d (.lit (.int .i64 v))) Tryz.call72 (λ_ h=>bGm aRn (by cases h;kernel_rfl)) rfl λr1 h1=>?_;cases h1;refine ob2 (λh=>by cases h) λ_=>?_;refine cgn (α:=Nat×(List (aW×Value)×List NodeR)) (Rx:=λz=>CrowdN [] [uL] z.2) [(90000,.raw (nsN []))] [17] (λ_=>.d (.hv 1 17 0)) (λz=>[some (.raw (nsN z.2.2))]) (λz=>[(17,.map false (dK z.2.1))]) (args':=λ_=>[.agg (rdC rJ)]) (objs':=λ_=>[nsN []]) Tryz.call73
   (λρ=>⟨_,bGo rJ,by rintro r' o' ⟨m,y,hy,rfl,rfl⟩;exact⟨(m,y),hy,[.b m 0],rfl,rfl⟩⟩) (λz hz=>?_) ⟨(0,_),(aIs [] [uL]).choose_spec⟩
 refine ol ?_;refine aWz [6,19,20] [6] (λ(z:Int×(List (aW×Value)×List NodeR))=>([(21,.d (.lit (.int .i64 z.1))),(2,.d (.mp false (dK z.2.1)))],[(90000,.raw (nsN z.2.2))]))
   (λk z=>∃n:Nat,z.1=n/\n<=5/\5-n<k/\∃K,bBk n=some K/\CrowdN [] K z.2) (k0:=6) (0,z.2) ⟨0,rfl,by omega,by omega,[uL],rfl,hz⟩ (lev []) ?_ (λa h=>by obtain⟨n,_,_,h,_⟩:=h;omega)
 rintro k ⟨i,l1,L1⟩ ⟨n,hn,hn5,hk,K,hK,hC⟩;have hn:i=(n:Int):=hn;subst hn;refine ob2 (λhlt=>?_) λhge=>?_
 · have hlt:(n:Int)<5:=of_decide_eq_true hlt
   obtain⟨K1,x,K',e1,hx,hr,hne,e2⟩:=bVy (n:=n) (by omega);rw[hK] at e1;cases e1;have hi:(idx rJ (n:Int)).bind some=some x:=by
     have:idx rJ (n:Int)=some x:=by simp[idx,hx]
     rw[this];rfl
   refine oi hi λx' h'=>?_;cases h';refine cgn (α:=Nat×(List (aW×Value)×List NodeR)) (Rx:=λz=>CrowdN L1 K' z.2) [(90000,.raw (nsN L1))] [29] (λ_=>.d (.hv 1 29 0)) (λz=>[some (.raw (nsN z.2.2))]) (λz=>[(29,.map false (dK z.2.1))]) (args':=λ_=>[.agg (rdC rJ),.d (.mp false (dK l1)),.agg (lN x)]) (objs':=λ_=>[nsN L1]) Tryz.call74
     (λρ=>⟨_,xB (bKx l1 L1 rJ x K K' hC.ok hC.sm hC.nd hr) (Q':=λr' o'=>∃(m:Nat) (y:List (aW×Value)×List NodeR),CrowdN L1 K' y/\r'=.d (.lit (.map (some m)))/\o'=[nsN y.2,mx m false (dK y.1)]) (by rintro r o ⟨m,y,h1,h2,rfl⟩;exact⟨_,Same.perm (List.Perm.swap _ _ _),m,y,h1,h2,rfl⟩),by rintro r' o' ⟨m,y,hy,rfl,rfl⟩;exact⟨(m,y),hy,[.b m 0],rfl,rfl⟩⟩) (λz hz=>?_) ⟨(0,_),(aIs L1 K').choose_spec⟩
   refine olm (l:=z.2.1) (kv:=kvS) (enc:=λv=>[.lit v]) (agg:=false) Tryz.underlying118 ?_;refine ob2 (λh0=>?_) λ_=>?_
   · have h0:((z.2.1.length:Nat):Int)=0:=of_decide_eq_true h0
     have h0:z.2.1=[]:=List.length_eq_zero_iff.1 (by omega);obtain⟨s,hs⟩:=List.exists_mem_of_ne_nil _ hne;have:=(hz.sm s).2 hs;rw[h0] at this
     simp at this
   refine⟨(w64 ((n:Int)+1),z.2),⟨n+1,?_,by omega,by omega,K',e2,SubN.trans hC.sub hz.sub,hz.ok,hz.sm,hz.nd⟩,lev []⟩;show w64 ((n:Int)+1)=((n+1:Nat):Int);rw[cG (by omega) (by omega)];omega
 · exact⟨rfl,[],rfl,λb o s=>⟨l1,trivial,rfl,by kernel_rfl⟩⟩
def aHs(c:zO):Option (Int×Int):=bif decide (c=aRn) then some (-1,0) else none
theorem bGn(c:zO){r:Int×Int}(h:aHs c=some r):Fn Tryz.prog 21 [.agg (aNr c)] (.tup [.d (.lit (.int .i64 r.1)),.d (.lit (.int .i64 r.2))]):=by
 unfold aHs at h
 by_cases hc:c=aRn
 · subst hc
   rw[decide_eq_true rfl] at h;cases h;refine fnx xT {nd:=[9]} [.tmp 2,.tmp 3] Tryz.func21 Tryz.results21 Tryz.ntmps21 ?_;refine cgq (enc:=λl:List (aW×Value)=>.tup [.d (.mp false (dK l)),.i (-1),.i 0]) Tryz.call40 bOu ?_ (λ_ _=>rfl);intro l _;exact⟨rfl,_,_,rfl,rfl,rfl,rfl,rfl⟩
 · rw[decide_eq_false hc] at h;cases h
end Go.Am
