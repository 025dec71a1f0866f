/- The plain law TopScheduled. -/
import Derived.Test.YtiohgpipanopaaaGreatSdPlain3
namespace Go.Am
theorem bYj:(oW.bind λr5=>yO r5.1 r5.2)=some (3,0):=by kernel_rfl
theorem bYc:(oX.bind λr8=>aIs r8.1 r8.2)=some (true,-1,0):=by kernel_rfl
theorem bTd{α β γ δ:Type}(E:Option α)(L:α->Option γ)(G:Option β)(P:β->Option δ){x:γ}{y:δ}(hE:(E.bind L)=some x)(hG:(G.bind P)=some y)(K:γ->δ->Option Bool):
  (E.bind λr5=>(L r5).bind λr7=>G.bind λr8=>(P r8).bind λr10=>K r7 r10)=K x y:=by
 cases E with
 |none=>cases hE
 | some a=>
  simp only[Option.bind_some] at hE|-;rw[hE,Option.bind_some];cases G with
  |none=>cases hG
  | some b=>
   simp only[Option.bind_some] at hG|-;rw[hG,Option.bind_some]
theorem aYw:cS=some true:=by
 unfold cS sE;rw[Option.bind_some];show((oR exP).bind _)=_;rw[bQx,Option.bind_some,bTd oW _ oX _ bYj bYc]
 rfl
theorem aYv:(cS.bind λr=>some r)=some true:=by rw[aYw];rfl
theorem bKq(h:eP)(hh:aCy h):∃b,nX h=some b/\(b=true->Py.valid ⟨h.Days,h.Rest,[]⟩=true/\h.Stages.length<=10):=by
 obtain⟨⟨h1,h2⟩,_,_⟩:=hh;have hsm:Py.smallP ⟨h.Days,h.Rest,[]⟩:=⟨h1,λd hd=>(h2 d hd).1,by simp,λj hj=>by cases hj⟩;unfold nX;rw[dJ,Option.bind_some]
 by_cases h4:4<h.Days.length
 ·rw[decide_eq_true (show(4:Int)<(h.Days.length:Int) by omega),Bool.true_or,cond_true];exact⟨false,rfl,λh=>by cases h⟩
 rw[decide_eq_false (show¬(4:Int)<(h.Days.length:Int) by omega),Bool.false_or]
 by_cases h10:10<h.Stages.length
 ·rw[decide_eq_true (show(10:Int)<(h.Stages.length:Int) by omega),cond_true];exact⟨false,rfl,λh=>by cases h⟩
 rw [decide_eq_false (show¬(10:Int)<(h.Stages.length:Int) by omega),cond_false];have hK:∃b,oQ h=some b/\(b=true->Py.valid ⟨h.Days,h.Rest,[]⟩=true/\h.Stages.length<=10):=by
  unfold oQ;rw[Py.ref_Check_eq _ hsm,Option.bind_some];cases hv:Py.valid ⟨h.Days,h.Rest,[]⟩ with
  |false=>exact⟨false,rfl,λh=>by cases h⟩
  | true=>
   have hd:=(Py.VP_of hv).nd0;have hx:idx h.Days 0=some h.Days[0]:=aY (i:=0) hd;rw[cond_true,decide_eq_true (rfl:(0:Int)=0),cond_true,hx];exact⟨_,rfl,λ_=>⟨rfl,by omega⟩⟩
 refine iZ (S:=Unit) (λk i _=>gT h k i) h.Days.length (λo=>∃b,o=some b/\(b=true->Py.valid ⟨h.Days,h.Rest,[]⟩=true/\h.Stages.length<=10)) (λi _=>i<=h.Days.length) (λk i _ hi _ ih=>?_) (λk i _ h5 h6=>?_) BIG 0 () (bI (by omega)) (Nat.zero_le _)
 ·have hlt:decide ((i:Int)<(h.Days.length:Int))=true:=decide_eq_true (by omega);simp only[gT,hlt,cond_true,aY hi,Option.bind_some];cases decide ((4:Int)<(h.Days[i].length:Int)) with
  |true=>exact⟨false,rfl,λh=>by cases h⟩
  |false=>rw[cond_false,aZ (show i<9223372036854775807 by omega)];exact ih () (by omega)
 ·have hlt:decide ((i:Int)<(h.Days.length:Int))=false:=decide_eq_false (by omega);simp only[gT,hlt,cond_false];exact hK
def aXl(Ck:List bE->Option Int)(Be:List bE->Option (List aG×Int))(Is:List bE->List aG->Option Bool)(Ti:List bE->List aG->Option (List aX×List aX×Int))
  (F:List bE->List aG->List aX->List aX->List Int->Option Bool)(jobs:List bE):Prop:=
 Ck jobs=some 0/\(Be jobs=some ([],3)\/∃order,Be jobs=some (order,0)/\Is jobs order=some true/\(∃s:aG,idx order (w64 ((order.length:Int)-1))=some s/\s.Job=(jobs.length:Int)-1)/\
  ∃b c,Ti jobs order=some (b,c,0)/\b.length=jobs.length/\c.length=jobs.length/\F jobs order b c (List.replicate jobs.length 0)=some true)
theorem bMc(A B:Option (List bE×List aN×Int))(Sd:Option Bool)(hS:(Sd.bind λr=>some r)=some true){n R:Int}(hn:0<n/\n<=1000)(hR:0<R/\R<=10)(Ck:List bE->Option Int)(Be:List bE->Option (List aG×Int))(Is:List bE->List aG->Option Bool)
  (Ti:List bE->List aG->Option (List aX×List aX×Int))(F:List bE->List aG->List aX->List aX->List Int->Option Bool){jobs:List bE}{bouts:List aN}{e:Int}(hA:A=some (jobs,bouts,e))(hB:B=some (jobs,bouts,e))
  (h:e=82\/6<n-1/\e=2\/¬6<n-1/\e=0/\(jobs.length:Int)=n-1/\bouts.length=jobs.length/\(∃x:aN,idx bouts (w64 ((bouts.length:Int)-1))=some x/\x.Round=R-1)/\(jobs.length<=4->aXl Ck Be Is Ti F jobs)):
  (A.bind λr61=>
  B.bind λr62=>
  bif decide (r62.2.2=82) then((bif decide (r61.2.2=r62.2.2) then(Sd.bind λr63=>
  some r63) else(some false)).bind λb64=>
  some b64)
  else(bif decide (6<(w64 (n-1))) then((bif decide (r61.2.2=2) then(Sd.bind λr65=>
  some r65) else(some false)).bind λb66=>
  some b66)
  else((bif !decide (r61.2.2=0) then(some true) else(some (!decide ((r61.1.length:Int)=(w64 (n-1)))))).bind λb67=>
  (bif b67 then(some true) else(some (!decide ((r61.2.1.length:Int)=(r61.1.length:Int))))).bind λb68=>
  (bif b68 then(some true) else((idx r61.2.1 (w64 ((r61.2.1.length:Int)-1))).bind λx69=>
  some (!decide (x69.Round=(w64 (R-1)))))).bind λb70=>
  bif b70 then(some false)
  else(bif decide (4<(r61.1.length:Int)) then(Sd.bind λr71=>
  some r71)
  else((Ck r61.1).bind λr73=>
  bif !decide (r73=0) then(some false)
  else((Be r61.1).bind λr74=>
  bif decide (r74.2=3) then(Sd.bind λr75=>
  some r75)
  else((bif !decide (r74.2=0) then(some true) else((Is r61.1 r74.1).bind λr76=>
  some (!r76))).bind λb77=>
  (bif b77 then(some true) else((idx r74.1 (w64 ((r74.1.length:Int)-1))).bind λx78=>
  some (!decide (x78.Job=(w64 ((r61.1.length:Int)-1)))))).bind λb79=>
  bif b79 then(some false)
  else((Ti r61.1 r74.1).bind λr80=>
  (bif !decide (r80.2.2=0) then(some true) else(some (!decide ((r80.1.length:Int)=(r61.1.length:Int))))).bind λb81=>
  (bif b81 then(some true) else(some (!decide ((r80.2.1.length:Int)=(r61.1.length:Int))))).bind λb82=>
  bif b82 then(some false)
  else((mk 8 (r61.1.length:Int) 0).bind λx83=>
  F r61.1 r74.1 r80.1 r80.2.1 x83)))))))))=some true:=by
 subst hA;subst hB;rw[cD (n:=n-1) (by omega) (by omega),cD (n:=R-1) (by omega) (by omega)]
 rcases h with rfl|⟨h1,rfl⟩|⟨h1,rfl,h2,h3,⟨x,h4,h5⟩,h6⟩
 ·simp[hS]
 ·simp[hS,h1]
 ·rw[h3,h2] at h4;simp only[Option.bind_some,decide_true,Bool.not_true,cond_false,h1,decide_false,h2,h3,h4,h5,show decide ((0:Int)=82)=false from rfl]
  by_cases h7:4<n-1
  ·simp only[decide_eq_true h7,cond_true,hS]
  ·obtain⟨c1,c2⟩:=h6 (by omega);simp only[decide_eq_false h7,cond_false,c1,Option.bind_some,decide_true,Bool.not_true]
   rcases c2 with c2|⟨order,c2,c3,⟨s,c4,c5⟩,b,c,c6,c7,c8,c9⟩
   ·simp only[c2,Option.bind_some,decide_true,cond_true,hS]
   ·rw[c2,Option.bind_some];simp only[show decide ((0:Int)=3)=false from rfl,cond_false,decide_true,Bool.not_true,c3,Option.bind_some,c4];rw[cD (n:=(n-1)-1) (by omega) (by omega),decide_eq_true (show s.Job=n-1-1 by omega),Bool.not_true,cond_false,c6,Option.bind_some];simp only[decide_true,Bool.not_true,cond_false,Option.bind_some,c7,c8,h2];rw[<-h2,bOi (by omega),Option.bind_some,c9]
section
variable{p:aQ}(hp:lN p=true){l:List Int}(hl:aOd p l){h:eP}(hv:Py.valid ⟨h.Days,h.Rest,[]⟩=true)(hs:h.Stages.length<=10)
include hp hl hv hs
theorem bMb:∃jobs bouts e,uM (bZ p l) [] h.Stages=some (jobs,bouts,e)/\lL (bZ p l) [] h.Stages=some (jobs,bouts,e)/\
  (e=82\/6<(p.Persons.length:Int)-1/\e=2\/¬6<(p.Persons.length:Int)-1/\e=0/\(jobs.length:Int)=(p.Persons.length:Int)-1/\bouts.length=jobs.length/\(∃x:aN,idx bouts (w64 ((bouts.length:Int)-1))=some x/\x.Round=(bZ p l).Rounds-1)/\
  (jobs.length<=4->aXl (λj=>jJ ⟨h.Days,h.Rest,j⟩) (λj=>uL ⟨h.Days,h.Rest,j⟩) (λj o=>iW ⟨h.Days,h.Rest,j⟩ o) (λj o=>mY ⟨h.Days,h.Rest,j⟩ o) (λj o b c x=>cX j o b c h BIG 0 x) jobs)):=by
 have hT:=aHu hp hl;have hr:=aRf hp hl;have hR2:(bZ p l).Rounds=2\/(bZ p l).Rounds=3:=by omega
 have hg:Good (bZ p l) [] (l.map (plF p)):=aGu hT;obtain⟨must,hd,hM⟩:=xQ hg;have hM':MustIs (bZ p l) must (fB (bZ p l).Slots (Res [])):=hM;have hlen:(cI (bZ p l) (l.map (plF p)) must).length+1=p.Persons.length:=bEz hp hl hM';have ho:cI (bZ p l) (l.map (plF p)) must=cI (bZ p l) (bZ p l).Slots must:=rfl;have j1:=aYp hg hd hM h.Stages (by omega);have j2:=bBv hg hd hM h.Stages (by omega);unfold aVq at j1 j2
 by_cases hst:(h.Stages.length:Int)=(bZ p l).Rounds/\h.Stages.all mI=true
 case neg=>rw[if_neg hst] at j1 j2;exact⟨_,_,_,j1,j2,.inl rfl⟩
 rw[if_pos hst] at j1 j2
 by_cases h6:6<(cI (bZ p l) (l.map (plF p)) must).length
 ·rw[if_pos h6] at j1 j2;exact⟨_,_,_,j1,j2,.inr (.inl ⟨by omega,rfl⟩)⟩
 rw[if_neg h6] at j1 j2;refine⟨_,_,_,j1,j2,?_⟩;refine .inr (.inr ⟨by omega,rfl,by rw[pG];omega,(pG _ _).symm,?_,λh4=>?_⟩)
 ·obtain⟨l',e1,_⟩:=aPs hT hR2 hM';rw[<-ho] at e1;have hne:(cI (bZ p l) (l.map (plF p)) must).length=l'.length+1:=by rw[e1];simp
  show∃x,idx (cI (bZ p l) (l.map (plF p)) must) (w64 (((cI (bZ p l) (l.map (plF p)) must).length:Int)-1))=some x/\_;rw[cD (by omega) (by omega),show((cI (bZ p l) (l.map (plF p)) must).length:Int)-1=(l'.length:Int) by omega,aY (by omega)];refine⟨_,rfl,?_⟩;simp only[e1];rw[List.getElem_append_right (by simp)];simp only[List.length_map,Nat.sub_self,List.getElem_cons_zero,aAu]
  omega
 ·have hbr:∀b∈cI (bZ p l) (l.map (plF p)) must,0<=b.Round/\b.Round.toNat<h.Stages.length:=λb hb=>by
   obtain⟨r,q,hr',_,rfl⟩:=aMi (List.mem_filter.1 hb).1;have:=hst.1;simp only
   omega
  have hvj:=Py.jobs_valid hv hst.2 hbr (by omega);show aXl _ _ _ _ _ (iQ h.Stages (cI (bZ p l) (l.map (plF p)) must));have hjl:=pG h.Stages (cI (bZ p l) (l.map (plF p)) must);have hnext:∀j:Nat,j+1<(iQ h.Stages (cI (bZ p l) (l.map (plF p)) must)).length->∃k,k<(iQ h.Stages (cI (bZ p l) (l.map (plF p)) must)).length/\(j:Int)∈(Py.jobAt ⟨h.Days,h.Rest,iQ h.Stages (cI (bZ p l) (l.map (plF p)) must)⟩ k).After:=λj hj=>by
   rw[hjl] at hj;obtain⟨k,hk,hjk,hb⟩:=bOs hT hR2 hM' (i:=j) hj
   change k<(cI (bZ p l) (l.map (plF p)) must).length at hk
   refine⟨k,by rw[hjl];exact hk,?_⟩;unfold Py.jobAt;show(j:Int)∈((iQ h.Stages (cI (bZ p l) (l.map (plF p)) must)).getD k default).After;rw[aW (by rw[hjl];exact hk),bAm h.Stages hk];unfold aGw kM;refine List.mem_map.2 ⟨j,List.mem_filter.2 ⟨List.mem_range.2 hjk,?_⟩,rfl⟩;rw[List.getElem?_eq_getElem (show j<(cI (bZ p l) (l.map (plF p)) must).length by omega),Option.any_some];exact hb
  have hpos:0<(iQ h.Stages (cI (bZ p l) (l.map (plF p)) must)).length:=by
   obtain⟨l',e1,_⟩:=aPs hT hR2 hM';rw[hjl,ho,e1];simp
  have hnot:(iQ h.Stages (cI (bZ p l) (l.map (plF p)) must)).length<=6:=by omega
  generalize iQ h.Stages (cI (bZ p l) (l.map (plF p)) must)=jobs at hvj hnext hpos hnot
  have hvp:=Py.VP_of hvj;refine⟨(Py.ref_Check_eq _ hvp.small).trans (by rw[hvj];rfl),?_⟩;obtain⟨n,order,b,hb,hol,ht,hf⟩:=Py.best_spec hvp;have e1:sO ⟨h.Days,h.Rest,jobs⟩=some 0:=by rw[Py.play_Check_eq _ hvp.small,hvj];rfl
  cases b with
  | false=>
   obtain⟨rfl,rfl,_⟩:=hf rfl;exact .inl (by simp[uL,e1,hb])
  | true=>
   obtain⟨_,_,hF,_⟩:=ht rfl;obtain⟨hO,hOl⟩:=Py.Ord_of hF.ord;have hOl':order.length=jobs.length:=hOl;have hlast:=Py.ord_last hO hOl (by omega) hnext;have hT:=Py.play_Times_all _ hvp.small order (by omega);unfold Py.timesR at hT;rw[hvj,hF.ord,cond_true,cond_true] at hT;refine .inr ⟨order,(by simp[uL,e1,hb]),(Py.IsOrder_eq hvp order (by omega)).trans (by rw[hF.ord]),⟨_,?_,hlast⟩,_,_,hT,?_,?_,?_⟩
   ·rw[cD (by omega) (by omega),show(order.length:Int)-1=((order.length-1:Nat):Int) by omega,aY]
   ·simp[Py.spansOf]
   ·simp[Py.spansOf]
   ·show cX jobs order (Py.tB ⟨h.Days,h.Rest,jobs⟩ order) (Py.tE ⟨h.Days,h.Rest,jobs⟩ order) h BIG 0 (List.replicate jobs.length 0)=some true;exact(Py.sched_L0 (p:=⟨h.Days,h.Rest,jobs⟩) hvp hO hOl rfl (by simp)).trans aYv
end
theorem bPj(Fr:Option Bool)(C:Option Int)(Hs:Option Bool)(W:Option Bool)(hW:(W.bind λr=>some r)=some true)(Dr:Option (List Int×Int))(sz sd:Int)(Rd:Option Int)(Ck:aF->Option Int)(x y:Option cJ)(Me:aF->Int->Int->Option (Int×Int))(F:Int->List Int×Int->Option Bool){a b:Bool}{c:Int}(hF:Fr=some a)(hC:C=some c)(hH:Hs=some b)
  (h:c=0->b=true->Dr=some ([],3)\/∃S R,Dr=some (S,0)/\(S.length:Int)=sz/\Rd=some R/\0<R/\R<=10/\Ck ⟨R,S⟩=some 0/\(2<=sd->∃q r,x=some q/\y=some r/\Me ⟨R,S⟩ q.Player r.Player=some (R-1,0))/\F R (S,0)=some true):
  (Fr.bind λr3=>
  (bif r3 then(some true) else(C.bind λr4=>
  some (!decide (r4=0)))).bind λb5=>
  (bif b5 then(some true) else(Hs.bind λr6=>
  some (!r6))).bind λb7=>
  bif b7 then(W.bind λr8=>
  some r8)
  else(Dr.bind λr9=>
  bif decide (r9.2=3) then(W.bind λr10=>
  some r10)
  else((bif !decide (r9.2=0) then(some true) else(some (!decide ((r9.1.length:Int)=sz)))).bind λb11=>
  bif b11 then(some false)
  else(Rd.bind λr12=>
  (Ck (aF.mk r12 r9.1)).bind λr14=>
  bif !decide (r14=0) then(some false)
  else(bif decide (2<=sd) then(x.bind λx15=>
  y.bind λx16=>
  (Me (aF.mk r12 r9.1) x15.Player x16.Player).bind λr17=>
  (bif !decide (r17.2=0) then(some true) else(some (!decide (r17.1=(w64 (r12-1)))))).bind λb18=>
  bif b18 then(some false)
  else(F r12 r9)) else(F r12 r9))))))=some true:=by
 subst hF;subst hC;subst hH;cases a with
 |true=>simp[hW]
 | false=>
  by_cases hc:c=0
  ·cases b with
   |false=>simp[hc,hW]
   | true=>
    rcases h hc rfl with rfl|⟨S,R,rfl,h0,rfl,h1,h2,h3,h4,h5⟩
    ·simp[hc,hW]
    ·have hw:w64 (R-1)=R-1:=cD (by omega) (by omega)
     by_cases h6:2<=sd
     ·obtain⟨q,r,rfl,rfl,h7⟩:=h4 h6
      simp[hc,h0,h3,h5,h7,hw]
     ·simp[hc,h0,h3,h5,h6]
  ·simp[hc,hW]
theorem aEs(p:aQ)(h:eP)(_hp:bAs p)(hh:aCy h):pV p h=some true:=by
 obtain⟨a,ha,_⟩:=bUw p;obtain⟨b,hb,hb'⟩:=bKq h hh;have hsr:∀n,mR n=some (if n=4 then 2 else 3):=λn=>by
  unfold mR
  by_cases h:n=4
  ·rw[decide_eq_true h,if_pos h];rfl
  ·rw[decide_eq_false h,if_neg h];rfl
 unfold pV;refine bPj _ _ _ _ aYv _ _ _ _ (λt=>wR t []) _ _ (λt x y=>yP t [] x y) _ ha (aNq p) hb λhc hbt=>?_;have hp:lN p=true:=by
  cases h:lN p with
  |true=>rfl
  |false=>rw[h] at hc;cases hc
 obtain⟨hv,hs⟩:=hb' hbt
 rcases bUv hp with hD|⟨l,hl,hD⟩
 ·exact .inl hD
 have hL:=aLd hp hl;have hT:=aHu hp hL;have hg:Good (bZ p l) [] (l.map (plF p)):=aGu hT;obtain⟨must,hd,hM0⟩:=xQ hg;have hM:MustIs (bZ p l) must (fB (bZ p l).Slots (Res [])):=hM0;have hsz:=fT (shp hp);have hr:=aRf hp hL;have hlen:=bEz hp hL hM;have hll:=hL.len;have hnb:0<(p.Persons.length:Int)/\(p.Persons.length:Int)<=1000:=by omega
 have hRb:0<(bZ p l).Rounds/\(bZ p l).Rounds<=10:=by omega
 obtain⟨jobs,bouts,e,j1,j2,j3⟩:=bMb hp hL hv hs;refine .inr ⟨_,_,hD,by rw[List.length_map];exact hL.len,hsr _,by split<;>decide,by split<;>decide,uO hg,λhsd=>?_,?_⟩
 ·have h0:0<p.Persons.length:=by omega
  have h1:1<p.Persons.length:=by omega
  obtain⟨s,hs0,e0⟩:=aSa hL h0;obtain⟨q,hq,e1⟩:=aSa hL h1;have hx0:idx p.Persons 0=some p.Persons[0]:=aY (i:=0) h0;have hx1:idx p.Persons 1=some p.Persons[1]:=aY (i:=1) h1;refine⟨_,_,hx0,hx1,?_⟩;rw[<-nY h0,<-nY h1];have hm:=aZg hg hd hM0 (pp p 0).Player (pp p 1).Player;have hmt:fA (bZ p l) s q=fA (bZ p l) q s:=by
   rcases hr with⟨h,_,h2⟩|⟨h,_,h2⟩
   ·rw[aGb (t:=bZ p l) (t':=⟨2,[]⟩) h,aGb (t:=bZ p l) (t':=⟨2,[]⟩) h,bLb ⟨s,by omega⟩ ⟨q,by omega⟩,bLb ⟨q,by omega⟩ ⟨s,by omega⟩];simp only[eq_comm]
   ·rw[aGb (t:=bZ p l) (t':=⟨3,[]⟩) h,aGb (t:=bZ p l) (t':=⟨3,[]⟩) h,bLc ⟨s,by omega⟩ ⟨q,by omega⟩,bLc ⟨q,by omega⟩ ⟨s,by omega⟩];simp only[eq_comm]
  rw[bVu hp hL hM hs0 hq h0 h1 (by omega) e0 e1,hmt,(bZe hp hL hq hs0 h1 (by omega) e1 e0).2.1 rfl (by omega)] at hm;exact hm
 ·have key:=bMc (uM (bZ p l) [] h.Stages) (lL (bZ p l) [] h.Stages) cS aYv (n:=(p.Persons.length:Int)) (R:=(bZ p l).Rounds) hnb hRb (λj=>jJ ⟨h.Days,h.Rest,j⟩) (λj=>uL ⟨h.Days,h.Rest,j⟩) (λj o=>iW ⟨h.Days,h.Rest,j⟩ o) (λj o=>mY ⟨h.Days,h.Rest,j⟩ o) (λj o b c x=>cX j o b c h BIG 0 x) j1 j2 j3;exact key
end Go.Am
