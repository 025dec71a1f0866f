/- Several texts, one behind the other. -/
import Derived.Test.YtiohgpipanopaaaGreatDrPlain7
import Derived.Test.YtiohgpipanopaaaGreatBkLucky1
section
namespace Go.Am
theorem bAt:∀(n i:Nat) (d E:List Int) (U:List aB),i+n<=d.length->gP [] n i d E U=some (d,U)
 |0,_,_,_,_,_=>rfl
 | n+1,i,d,E,U,h=>by
  have hs:jS [] (i:Int) (([]:List aB).length+1) (d.getD i 0) E U=some (d.getD i 0,E,U):=rfl;unfold gP;rw[hs];have hset:d.set i (d.getD i 0)=d:=by rw[aW (show i<d.length by omega)];exact List.set_getElem_self _
  simp only[hset];exact bAt n (i+1) d E U (by omega)
theorem bLl(t:aF):mG t []=some t.Slots:=by
 have hL:dF []=[]:=rfl;unfold mG aIr;rw[hL,bAt _ _ _ _ _ (by omega)]
 rfl
theorem bKo{t:aF}(ht:rV t=true){l:List aB}(hl:l.length<=60)(hs:∀s∈l,gR t s=true)(hk:∀s∈l,s.Kind=5){d:List Int}(h:mG t l=some d):Good t l d:=by
 have hT:=oU ht;have hD:=aFm hT hs h;refine⟨ht,hl,hs,h,⟨λx hx y hy h5=>absurd (hk x hx) h5,λx hx=>absurd (hk x hx.1) hx.2,?_⟩⟩;intro m v w h1 h2
 rcases h1 with⟨i,hi,bi,hm,hv⟩|⟨x,hx,_⟩
 ·rcases h2 with⟨j,hj,bj,hm',hw⟩|⟨x,hx,_⟩
  ·have:=aZn hT hD hi hj bi bj (hm.symm.trans hm');subst this;rw[hv,hw]
  ·exact absurd (hk x hx.1) hx.2
 ·exact absurd (hk x hx.1) hx.2
theorem aGu{t:aF}(ht:rV t=true):Good t [] t.Slots:=bKo ht (by simp) (by simp) (by simp) (bLl t)
theorem bXb{p:aQ}(hp:lN p=true){S:List Int}(hS:(List.range S.length).all (bCe p S)=true)(hl:(S.length:Int)=p.Size){R:Int}(hR:R=if p.Size=4 then 2 else 3)(hb:∀j (_:2*j+1<S.length),¬(S.getD (2*j) 0= -1/\S.getD (2*j+1) 0= -1)):rV ⟨R,S⟩=true:=by
 simp only[lN,Bool.and_eq_true] at hp;obtain⟨hsz,_,_,h8,_⟩:=fT hp.1;have hs:=dL.1 hS;have hper:=dL.1 hp.2.1;have hsh:pN ⟨R,S⟩=true:=by
  simp only[pN,Bool.and_eq_true,gY,decide_eq_true_eq]
  rcases hsz with h|h
  ·rw[hR,if_pos h];have:S.length=4:=by omega
   rw[this];exact⟨⟨by decide,by decide⟩,by decide⟩
  ·rw[hR,if_neg (by omega)];have:S.length=8:=by omega
   rw[this];exact⟨⟨by decide,by decide⟩,by decide⟩
 have hev:S.length % 2=0:=by rcases hsz with h|h<;>omega
 unfold rV;rw[hsh,Bool.true_and];refine(aSm hev).2 ⟨λi hi=>?_,λj hj h=>?_,λi hi k hk he=>?_⟩
 ·have:=hs i hi;simp only[bCe,aW hi,Bool.or_eq_true,decide_eq_true_eq,Bool.and_eq_true] at this
  rcases this with h|⟨h,_⟩
  ·rw[h];omega
  ·obtain⟨q,hq⟩:=Option.isSome_iff_exists.1 h;obtain⟨h1,h2⟩:=aPo hq;have:=hper q h1;simp only[aJn,Bool.and_eq_true,gY] at this;rw[<-h2]
   omega
 ·have:=hb j hj;rw[aW (show 2*j<S.length by omega),aW hj] at this;exactλh2=>this ⟨h,h2⟩
 ·have:=hs i hi;simp only[bCe,aW hi,Bool.or_eq_true,decide_eq_true_eq,Bool.and_eq_true,Bool.not_eq_true',decide_eq_false_iff_not] at this
  rcases this with h|⟨_,h⟩
  ·exact h
  ·refine absurd ?_ h;rw[<-he];refine List.mem_of_getElem? (i:=k) ?_;rw[List.getElem?_take_of_lt hk,List.getElem?_eq_getElem (by omega)]
end Go.Am
end
section
namespace Go.Am
theorem bDr{bad:Nat->Bool}{n:Nat}(h:∀q,q<n->bad q=false):mT bad n=n:=by
 refine Nat.le_antisymm (bHa bad n) (Nat.le_of_not_lt λhlt=>?_);have:=aGq hlt;rw[h _ hlt] at this;cases this
section
variable{t:aF}(hT:rV t=true){must:List (List Int)}(hM:MustIs t must (fB t.Slots (Res [])))
include hT hM
omit hT hM in
theorem aPm{m:aA}{v:Int}:fB t.Slots (Res []) m v↔bDa t.Slots m v:=by
 constructor
 ·rintro(h|⟨x,hx,_⟩)
  ·exact h
  ·cases hx.1
 ·exact .inl
theorem bEq{a:Nat}(ha:a<t.Slots.length)(hn:t.Slots.getD a 0≠-1):mU t.Slots must a t=t.Rounds.toNat:=by
 have hD:=(aGu hT).dok;refine bDr λq hq=>(bQp (oU hT) hD hM ha hq).2 λv hv=>?_;obtain⟨i,hi,bi,hm,rfl⟩:=aPm.1 hv;have hq0:q=0:=by
  have:(q:Int)=0:=congrArg aA.round hm
  omega
 subst hq0;have hp:((a/2^(0+1):Nat):Int)=((sib i/2^(0+1):Nat):Int):=congrArg aA.place hm;have h2:a/2=sib i/2:=by simpa using Int.ofNat_inj.1 hp
 rcases aYc h2 with h|h
 ·rw[h]
 ·rw[bWq] at h;rw[h] at hn;exact absurd bi hn
end
section
variable{p:aQ}(hp:lN p=true){l:List Int}(hl:aOd p l)
include hp hl
omit hp in
theorem aKg{i:Nat}(hi:i<l.length):Num p (l.getD i 0):=by rw[aW hi];exact hl.num _ (List.getElem_mem hi)
theorem bKy:l.length<=8/\l.length % 2=0/\(p.Size=4/\l.length=4\/p.Size=8/\l.length=8):=by
 have h1:=(fT (shp hp)).1;have h2:=hl.len
 omega
omit hp hl in
theorem aKs{i:Nat}(hi:i<l.length):(l.map (plF p)).getD i 0=plF p (l.getD i 0):=by
 rw[aW (by simpa using hi),aW hi,List.getElem_map]
omit hl in
theorem aCz{n:Int}(hn:Num p n):plF p n= -1↔n= -1:=by
 unfold plF
 constructor
 ·intro h;split at h
  ·assumption
  ·rename_i hne
   obtain⟨h1,h2⟩:=hn.resolve_left hne;have:=aKj hp (i:=n.toNat) (by omega);unfold pn at h
   omega
 ·intro h;rw[if_pos h]
omit hl in
theorem bWe{m n:Int}(hm:Num p m)(hn:Num p n)(h:plF p m=plF p n):m=n:=by
 by_cases h1:m= -1
 ·rw[h1] at h|-;have:=(aCz hp hn).1 (h.symm.trans (by simp[plF]));exact this.symm
 ·by_cases h2:n= -1
  ·rw[h2] at h|-;exact(aCz hp hm).1 (h.trans (by simp[plF]))
  ·unfold plF at h;rw[if_neg h1,if_neg h2] at h;obtain⟨a1,a2⟩:=hm.resolve_left h1;obtain⟨b1,b2⟩:=hn.resolve_left h2;have:=bFf hp (i:=m.toNat) (j:=n.toNat) (by omega) (by omega) h
   omega
omit hp in
theorem aRw{j:Nat}(hj:2*j+1<l.length):¬(l.getD (2*j) 0= -1/\l.getD (2*j+1) 0= -1):=by
 rintro⟨h1,h2⟩;have:=hl.pair j hj;rw[h1,h2] at this
 simp[aDm,zH] at this
def bZ(p:aQ)(l:List Int):aF:=⟨if p.Size=4 then 2 else 3,l.map (plF p)⟩
theorem aHu:rV (bZ p l)=true:=by
 have h8:=bKy hp hl;refine bXb hp (S:=l.map (plF p)) (dL.2 λi hi=>?_) (by rw[List.length_map];exact hl.len) rfl (λj hj=>?_)
 ·rw [List.length_map] at hi;have hn:=aKg hl hi;unfold bCe;rw[aKs hi]
  by_cases hb:l.getD i 0= -1
  ·rw[(aCz hp hn).2 hb]
   simp
  ·obtain⟨h1,h2⟩:=hn.resolve_left hb;have hpl:plF p (l.getD i 0)=(pp p (l.getD i 0).toNat).Player:=by rw[plF,if_neg hb,pn]
   obtain⟨q,hq⟩:=bIs (p:=p) (x:=plF p (l.getD i 0)) ⟨(l.getD i 0).toNat,by omega,hpl.symm⟩;have hnot:plF p (l.getD i 0)∉(l.map (plF p)).take i:=by
    intro hm;obtain⟨k,hk,he⟩:=List.getElem_of_mem hm;rw[List.length_take,List.length_map] at hk;rw[List.getElem_take,List.getElem_map] at he;have:=hl.nd k i (by omega) hi (by rw[aW (show k<l.length by omega)];exact bWe hp (hl.num _ (List.getElem_mem _)) hn he);exact hb this
   have e1:(aMm p (plF p (l.getD i 0))).isSome=true:=by rw[hq];rfl
   rw[e1,decide_eq_false hnot];cases decide (plF p (l.getD i 0)= -1)<;>rfl
 ·rw[List.length_map] at hj;rw[aKs (by omega),aKs hj];rintro⟨h1,h2⟩;exact aRw hl hj ⟨(aCz hp (aKg hl (by omega))).1 h1,(aCz hp (aKg hl hj)).1 h2⟩
omit hp in
theorem aSa{a:Nat}(ha:a<p.Persons.length):∃s,s<l.length/\l.getD s 0=(a:Int):=by
 refine Classical.byContradiction λhno=>?_;have hno':∀x∈l,x≠(a:Int):=λx hx e=>by
  obtain⟨s,hs,rfl⟩:=List.getElem_of_mem hx;exact hno ⟨s,hs,by rw[aW hs];exact e⟩
 have hpw:l.Pairwise λx y=>y≠-1->x≠y:=List.pairwise_iff_getElem.2 λi j hi hj hij hy he=>by
  have:=hl.nd i j hij hj (by rw[aW hi,aW hj];exact he);rw[aW hj] at this;exact hy this
 have hnd:(l.filter λx=>!decide (x= -1)).Nodup:=(hpw.filter _).imp_of_mem λ{x y} _ hy h=>h (by simpa using(List.mem_filter.1 hy).2);have hsub:∀x∈l.filter (λx=>!decide (x= -1)),x∈(List.range a++List.range' (a+1) (p.Persons.length-a-1)).map Int.ofNat:=by
  intro x hx;rw[List.mem_filter] at hx;have hx2:x≠-1:=by simpa using hx.2
  obtain⟨h1,h2⟩:=(hl.num x hx.1).resolve_left hx2;have h3:=hno' x hx.1;refine List.mem_map.2 ⟨x.toNat,?_,by simp;omega⟩;rw[List.mem_append,List.mem_range,List.mem_range'_1]
  omega
 have h1:=mV hnd hsub;have h2:(l.filter λx=>!decide (x= -1)).length+l.count (-1)=l.length:=by
  rw[List.count,List.countP_eq_length_filter];have:l.filter (λx=>x==(-1:Int))=l.filter (λx=>!(!decide (x= -1))):=by
   congr 1
   funext x
   simp
   rfl
  rw [this];have key:∀m:List Int,(m.filter λx=>!decide (x= -1)).length+(m.filter λx=>!(!decide (x= -1))).length=m.length:=by
   intro m
   induction m with
   |nil=>rfl
   | cons y m ih=>
    rw[List.filter_cons,List.filter_cons];cases decide (y= -1) with
    | true=>
     show(m.filter λx=>!decide (x= -1)).length+(y::m.filter λx=>!(!decide (x= -1))).length=m.length+1;rw[List.length_cons];omega
    | false=>
     show(y::m.filter λx=>!decide (x= -1)).length+(m.filter λx=>!(!decide (x= -1))).length=m.length+1;rw[List.length_cons];omega
  exact key l
 have h3:=hl.byes;have h4:=hl.len;simp only[List.length_map,List.length_append,List.length_range,List.length_range'] at h1
 omega
end
end Go.Am
end
