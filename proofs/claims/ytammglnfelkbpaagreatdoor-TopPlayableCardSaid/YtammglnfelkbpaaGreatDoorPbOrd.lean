/- The jobs of a draw, in an order of play. -/
import Derived.Test.YtammglnfelkbpaaGreatDoorPbStep
namespace Go.Am.Py
theorem cJl{l:List Nat}{n:Nat}(hs:l.Pairwise (·<·))(hn:∀x∈l,x<n):(List.range (l.map Int.ofNat).length).all (asc (l.map Int.ofNat) n)=true:=by
 rw[gP];intro i hi;rw[m8] at hi;have e:∀j,j<l.length->(l.map Int.ofNat).getD j 0=((l.getD j 0:Nat):Int):=λj hj=>by simp[List.getD,hj]
 unfold asc wi;have h1:=hn _ (j9 hi);simp only[f4,aC8,l9];rw[e i hi,bC hi];refine⟨by omega,?_⟩
 by_cases h0:i=0
 ·exact .inl h0
 ·refine .inr ?_;rw[e (i-1) (by omega),bC (by omega)];have:=u0.1 hs (i-1) i (by omega) hi (by omega)
  omega
theorem cAv{stages:List bR}(hst:stages.all jY=true){o:List aG}{b:aG}(h0:0<=b.Round)(h1:b.Round.toNat<stages.length)(n m:Nat):kE (aJb stages o b n) n m=true:=by
 have hs:jY stages[b.Round.toNat]=true:=k6.1 hst _ (j9 h1);unfold aJb kE;rw[bC h1];simp only[jY,Go.Am.wi,f4,l9] at hs;have ha:(List.range ((jT o b n).map Int.ofNat).length).all (asc ((jT o b n).map Int.ofNat) n)=true:=by
  refine cJl (List.pairwise_lt_range.filter _) λx hx=>?_;unfold jT at hx;exact u6.1 (z6.1 hx).1
 simp only[ha,wi,f4,l9];refine⟨⟨⟨⟨⟨⟨by omega,by omega⟩,by omega⟩,by omega,by omega⟩,by omega,by omega⟩,trivial⟩,?_⟩
 simp
theorem jobsF_get(stages:List bR){o:List aG}{i:Nat}(hi:i<o.length):(eW stages o)[i]'(by rw[kM];exact hi)=aJb stages o o[i] i:=by
 have e:(eW stages o)[i]'(by rw[kM];exact hi)=aJb stages o (o.getD i ⟨0,0,0,0⟩) i:=by simp[eW]
 rw[e,bC hi]
theorem jobs_valid{Days:List (List bO)}{Rest:Int}(hv:valid ⟨Days,Rest,[]⟩=true){stages:List bR}(hst:stages.all jY=true){o:List aG}(ho:∀b∈o,0<=b.Round/\b.Round.toNat<stages.length)(h6:o.length<=6):
  valid ⟨Days,Rest,eW stages o⟩=true:=by
 simp only[valid,f4,gP,l9] at hv|-;obtain⟨⟨⟨⟨h1,h2⟩,_⟩,h4⟩,_⟩:=hv;refine⟨⟨⟨⟨h1,h2⟩,by rw[kM];exact h6⟩,h4⟩,λi hi=>?_⟩;rw[kM] at hi;have e:(eW stages o).getD i default=aJb stages o o[i] i:=by rw[bC (by rw[kM];exact hi),jobsF_get stages hi]
 rw[e];obtain⟨h5,h6⟩:=ho _ (j9 hi);exact cAv hst h5 h6 i _
section
variable{p:aH}{order:List aF}(ho:Ord p order)(hlen:order.length=p.Jobs.length)
include ho hlen
theorem ord_all{k:Nat}(hk:k<p.Jobs.length):∃i,∃(hi:i<order.length),order[i].Job=(k:Int):=by
 refine aA3 λhno=>?_;have hnd:(order.map λs=>s.Job.toNat).Nodup:=by
  refine u0.2 λi j hi hj hij=>?_;rw[m8] at hi hj;rw[List.getElem_map,List.getElem_map];have h1:=ho.fresh j hj i hij;have h2:=(ho.seat i hi).job.1;have h3:=(ho.seat j hj).job.1
  omega
 have:=Go.Am.nodup_le (m:=List.range k++List.range' (k+1) (p.Jobs.length-k-1)) hnd λx hx=>by
  obtain⟨s,hs,rfl⟩:=l5.1 hx;obtain⟨i,hi,rfl⟩:=n6 hs;have h2:=(ho.seat i hi).job;have h3:order[i].Job≠(k:Int):=λe=>hno ⟨i,hi,e⟩;rw[i6,u6,List.mem_range'_1];obtain⟨h4,h5⟩:=h2
  omega
 simp only[m8,aA8,List.length_range,List.length_range'] at this
 omega
end
end Go.Am.Py
namespace Go.Am
section
variable{t:aD}{S:List Int}{must:List (List Int)}(ht:TreeOK t){Days:List (List bO)}{Rest:Int}{stages:List bR}{order:List aF}(ho:Py.isOrd ⟨Days,Rest,eW stages (cO t S must)⟩ order=true)
def dM(t:aD)(must:List (List Int))(s:aF):Nat×Nat:=(oN t must).getD s.Job.toNat (0,0)
def aCc(t:aD)(must:List (List Int))(order:List aF)(i:Nat):List (Nat×Nat):=(order.take i).map (dM t must)
theorem bQp{i:Nat}(hi:i<order.length):aCc t must order (i+1)=aCc t must order i++[dM t must order[i]]:=by
 unfold aCc;rw[p6 hi,v7]
 rfl
include ho
theorem aTv:order.length=(oN t must).length:=by
 rw[(Py.Ord_of ho).2];show(eW stages (cO t S must)).length=_;rw[kM,qO,m8]
theorem aMz{i:Nat}(hi:i<order.length):0<=order[i].Job/\order[i].Job.toNat<(oN t must).length:=by
 have:=((Py.Ord_of ho).1.seat i hi).job;refine⟨this.1,?_⟩;have h:=this.2;have e:(aH.mk Days Rest (eW stages (cO t S must))).Jobs.length=(oN t must).length:=by
  show(eW stages (cO t S must)).length=_;rw[kM,qO,m8]
 omega
theorem aJv{i:Nat}(hi:i<order.length):dM t must order[i]=(oN t must)[order[i].Job.toNat]'(aMz ho hi).2:=bC _ _
theorem aWl{i:Nat}(hi:i<order.length):dM t must order[i]∈oN t must:=by
 rw[aJv ho hi];exact j9 _
theorem bWa{i:Nat}(hi:i<order.length):dM t must order[i]∉aCc t must order i:=by
 intro hm;obtain⟨s,hs,he⟩:=l5.1 hm;obtain⟨j,hj,rfl⟩:=n6 hs;rw[List.length_take] at hj;rw[List.getElem_take] at he;rw[aJv ho (show j<order.length by omega),aJv ho hi] at he;have hnd:(oN t must).Nodup:=(aZa t).filter _;have:=(List.getElem_inj hnd).1 he;have h1:=(aMz ho (show j<order.length by omega)).1;have h2:=(aMz ho hi).1;exact(Py.Ord_of ho).1.fresh i hi j (by omega) (by omega)
theorem bVy:∀x∈oN t must,x∈aCc t must order order.length:=by
 intro x hx;obtain⟨k,hk,rfl⟩:=n6 hx;have hk':k<(aH.mk Days Rest (eW stages (cO t S must))).Jobs.length:=by
  show k<(eW stages (cO t S must)).length;rw[kM,qO,m8];exact hk
 obtain⟨i,hi,he⟩:=Py.ord_all (Py.Ord_of ho).1 (Py.Ord_of ho).2 hk';unfold aCc;rw[aC4];refine l5.2 ⟨order[i],j9 hi,?_⟩;unfold dM;rw[he,aD3,bC hk]
include ht
theorem bVz{i:Nat}(hi:i<order.length){s:Nat}(hs:s<2)(h0:0<(dM t must order[i]).1)(hx:((dM t must order[i]).1-1,2*(dM t must order[i]).2+s)∈oN t must):
  ((dM t must order[i]).1-1,2*(dM t must order[i]).2+s)∈aCc t must order i:=by
 have hO:=(Py.Ord_of ho).1;have hj:=aMz ho hi;have hm:=aWl ho hi;have hg:=aJv ho hi
 revert h0 hx hm hg
 generalize dM t must order[i]=x
 obtain⟨r,p⟩:=x;simp only;intro h0 hx hm hg;obtain⟨k',hk',hke⟩:=n6 hx;have hrow:=(bVi t).filter λx=>decide (mat must x.1 x.2= -2);have hlt:k'<order[i].Job.toNat:=by
  rcases Nat.lt_trichotomy k' order[i].Job.toNat with h|h|h
  ·exact h
  ·subst h;rw[hke] at hg;have:=aA5 Prod.fst hg;simp only at this
   omega
  ·have:=u0.1 hrow order[i].Job.toNat k' hj.2 hk' h;have e1:((iE t).filter λx=>decide (mat must x.1 x.2= -2))[order[i].Job.toNat]'hj.2=(r,p):=hg.symm;have e2:((iE t).filter λx=>decide (mat must x.1 x.2= -2))[k']'hk'=(r-1,2*p+s):=hke;rw[e1,e2] at this;simp only at this
   omega
 have hlo:(cO t S must).length=(oN t must).length:=by rw[qO,m8]
 have hjob:Py.jobAt ⟨Days,Rest,eW stages (cO t S must)⟩ order[i].Job=aJb stages (cO t S must) (iI S must (r,p)) order[i].Job.toNat:=by
  unfold Py.jobAt;show(eW stages (cO t S must)).getD _ _=_;rw[bC (by rw[kM];omega),Py.jobsF_get stages (by omega)]
  congr 1
  simp only[qO,List.getElem_map];rw[hg]
 have haft:(k':Int)∈(Py.jobAt ⟨Days,Rest,eW stages (cO t S must)⟩ order[i].Job).After:=by
  rw[hjob];show(k':Int)∈(jT _ _ _).map Int.ofNat;refine l5.2 ⟨k',?_,rfl⟩;unfold jT;rw[z6,u6];refine⟨hlt,?_⟩;have e:(cO t S must)[k']?=some (iI S must (r-1,2*p+s)):=by
   rw[qO,p8,g9 hk',hke]
   rfl
  obtain⟨⟨h1,h2⟩,_⟩:=aSc.1 hm;have h5:=ht.r5;have hp0:bM t r<=2^5:=by
   unfold bM;exact aE5 (by decide) (by omega)
  have h2':p<bM t r:=h2;have h1':r<t.Rounds.toNat:=h1;rw[e];show aNq _ _=true;unfold aNq iI;simp only[f4,l9];rw[cV (by omega) (by omega),Int.tdiv_eq_ediv_of_nonneg (by omega),cV (by omega) (by omega)]
  omega
 obtain⟨j,hji,hje⟩:=hO.after i hi _ haft;unfold aCc;refine l5.2 ⟨order[j],?_,?_⟩
 ·rw[y9];exact⟨j,by omega,rfl⟩
 ·unfold dM;rw[hje,aD3,bC hk',hke]
end
end Go.Am
