/- Several texts, one behind the other. -/
import Derived.Test.YtiohgpipanopaaaGreatPlayDrawLaw
import Derived.Test.YtiohgpipanopaaaGreatTopDrawnLaw
import Derived.Test.YtiohgpipanopaaaGreatTlSh
import Derived.Test.YtiohgpipanopaaaGreatAmPlain
section
namespace Go.Am
def qX(S:List Int)(k:Nat):Bool:=decide (S.getD (2*k) 0= -1)||decide (S.getD (2*k+1) 0= -1)
def opX(S:List Int)(x:Nat×Nat):Bool:=!(decide (x.1=0)&&qX S x.2)
section
variable{t:aF}(hT:rV t=true){must:List (List Int)}(hM:MustIs t must (fB t.Slots (Res [])))
include hT hM
theorem bSo{r p:Nat}(hr:r<t.Rounds.toNat)(hp:p<bS t r):mat must r p= -2↔¬(r=0/\qX t.Slots p=true):=by
 have hlen:=(aGu hT).dok.len
 constructor
 ·rintro h ⟨rfl,hb⟩;have key:∃v,bDa t.Slots ⟨((0:Nat):Int),p⟩ v:=by
   have h2:2*p+1<t.Slots.length:=by
    have hTr:=oU hT;rw[hTr.len];unfold bS at hp;have e:2^t.Rounds.toNat=2*2^(t.Rounds.toNat-1-0):=by rw[<-Nat.pow_succ'];congr 1;omega
    simp only[Int.toNat_natCast] at hp
    omega
   simp only[qX,Bool.or_eq_true,decide_eq_true_eq] at hb
   rcases hb with hb|hb
   ·refine⟨_,2*p,by omega,hb,?_,rfl⟩;unfold cell;rw[show sib (2*p)=2*p+1 by unfold sib;rw[if_pos (by omega)]]
    congr 2;omega
   ·refine⟨_,2*p+1,h2,hb,?_,rfl⟩;unfold cell;rw[show sib (2*p+1)=2*p by unfold sib;rw[if_neg (by omega)];omega]
    congr 2;omega
  obtain⟨v,hv⟩:=key;have:=(hM.mem 0 p v hr hp).2 (aPm.2 hv)
  omega
 ·intro h;refine Classical.byContradiction λhne=>h ?_;obtain⟨i,hi,bi,hm,_⟩:=aPm.1 ((hM.mem r p _ hr hp).1 ⟨rfl,hne⟩);have h0:((r:Nat):Int)=((0:Nat):Int):=congrArg aA.round hm;have h1:((p:Nat):Int)=((sib i/2^(0+1):Nat):Int):=congrArg aA.place hm;have h2:p=i/2:=by rw[<-bFz];simpa using Int.ofNat_inj.1 h1
  refine⟨by omega,?_⟩;simp only[qX,Bool.or_eq_true,decide_eq_true_eq]
  rcases Nat.mod_two_eq_zero_or_one i with h3|h3
  ·exact .inl (by rw[show 2*p=i by omega];exact bi)
  ·exact .inr (by rw[show 2*p+1=i by omega];exact bi)
theorem aIq:cI t t.Slots must=((sZ t).filter (opX t.Slots)).map (aAu t.Slots must):=by
 rw[bOq]
 congr 1
 refine List.filter_congr λx hx=>?_;obtain⟨h1,h2⟩:=aGz.1 hx;have:=bSo hT hM h1 h2;unfold opX;rw[Bool.eq_iff_iff];simp only[decide_eq_true_eq,Bool.not_eq_true',Bool.and_eq_false_iff,decide_eq_false_iff_not];rw[this];cases qX t.Slots x.2<;>simp
end
theorem bEa{t:aF}(h:t.Rounds=2):sZ t=[(0,0),(0,1)]++[(1,0)]:=by unfold sZ bS;rw[h];decide
theorem bEb{t:aF}(h:t.Rounds=3):sZ t=[(0,0),(0,1),(0,2),(0,3),(1,0),(1,1)]++[(2,0)]:=by unfold sZ bS;rw[h];decide
theorem bAj{t:aF}(h:t.Rounds=2\/t.Rounds=3):∃l,sZ t=l++[(t.Rounds.toNat-1,0)]/\(∀x∈l,x.1+1<t.Rounds.toNat)/\(sZ t).Pairwise λx y=>x.1<=y.1:=by
 rcases h with h|h
 ·refine⟨_,by rw[bEa h,h];rfl,?_,?_⟩
  ·rw[h];decide
  ·rw[bEa h];decide
 ·refine⟨_,by rw[bEb h,h];rfl,?_,?_⟩
  ·rw[h];decide
  ·rw[bEb h];decide
section
variable{t:aF}(hT:rV t=true)(hR:t.Rounds=2\/t.Rounds=3){must:List (List Int)}(hM:MustIs t must (fB t.Slots (Res [])))
include hT hR hM
theorem aPs:∃l:List (Nat×Nat),cI t t.Slots must=l.map (aAu t.Slots must)++[aAu t.Slots must (t.Rounds.toNat-1,0)]/\(∀x∈l,x.1+1<t.Rounds.toNat/\x∈sZ t):=by
 obtain⟨l,hl,hx,_⟩:=bAj hR;refine⟨l.filter (opX t.Slots),?_,λx h=>⟨hx x (List.mem_filter.1 h).1,by rw[hl];exact List.mem_append.2 (.inl (List.mem_filter.1 h).1)⟩⟩;rw[aIq hT hM,hl,List.filter_append,List.map_append]
 congr 1
 have:opX t.Slots (t.Rounds.toNat-1,0)=true:=by
  unfold opX;have:decide (t.Rounds.toNat-1=0)=false:=decide_eq_false (by omega);simp only[this,Bool.false_and,Bool.not_false]
 rw[List.filter_cons,this]
 rfl
theorem bHg:(cI t t.Slots must).Pairwise λx y=>x.Round<=y.Round:=by
 obtain⟨l,hl,hx,hs⟩:=bAj hR;rw[aIq hT hM];refine List.Pairwise.map _ (λx y hxy=>?_) (hs.filter _);unfold aAu;simp only
 omega
theorem bOs{i:Nat}(hi:i+1<(cI t t.Slots must).length):∃k,∃hk:k<(cI t t.Slots must).length,i<k/\aLi ((cI t t.Slots must)[i]'(by omega)) (cI t t.Slots must)[k]=true:=by
 obtain⟨l,hl,hx⟩:=aPs hT hR hM;have hil:i<l.length:=by rw[hl] at hi;simp at hi;omega
 have e:(cI t t.Slots must)[i]'(by omega)=aAu t.Slots must l[i]:=by
  simp only[hl];rw[List.getElem_append_left (by simpa using hil),List.getElem_map]
 obtain⟨h1,h2⟩:=hx _ (List.getElem_mem hil);obtain⟨h3,h4⟩:=aGz.1 h2;have hmem:aAu t.Slots must (l[i].1+1,l[i].2/2)∈cI t t.Slots must:=by
  rw[aIq hT hM];refine List.mem_map.2 ⟨_,List.mem_filter.2 ⟨aGz.2 ⟨h1,?_⟩,?_⟩,rfl⟩
  ·unfold bS at h4|-;have e2:2^(t.Rounds.toNat-1-(l[i].1:Int).toNat)=2*2^(t.Rounds.toNat-1-((l[i].1+1:Nat):Int).toNat):=by rw[<-Nat.pow_succ'];congr 1;omega
   rw[e2] at h4;simp only
   omega
  ·unfold opX;have:decide (l[i].1+1=0)=false:=decide_eq_false (by omega);simp only[this,Bool.false_and,Bool.not_false]
 obtain⟨k,hk,hke⟩:=List.getElem_of_mem hmem;have hlt:(cI t t.Slots must)[i].Round<(cI t t.Slots must)[k].Round:=by rw[e,hke];unfold aAu;simp only;omega
 refine⟨k,hk,?_,?_⟩
 ·refine Classical.byContradiction λhn=>?_
  rcases Nat.lt_or_ge k i with h|h
  ·have:=List.pairwise_iff_getElem.1 (bHg hT hR hM) k i hk (by omega) h
   omega
  ·have:k=i:=by omega
   subst this
   omega
 ·have hp0:bS t l[i].1<=2^3:=by
   unfold bS;exact Nat.pow_le_pow_right (by decide) (by omega)
  rw[hke,e];unfold aLi aAu;simp only[Bool.and_eq_true,decide_eq_true_eq];rw[cD (by omega) (by omega),Int.tdiv_eq_ediv_of_nonneg (by omega),cD (by omega) (by omega)]
  omega
end
theorem aRq:∀(n:Nat) (S:List Int),S.length=2*n->(∀k,k<n->¬(S.getD (2*k) 0= -1/\S.getD (2*k+1) 0= -1))->S.count (-1)=((List.range n).filter λk=>qX S k).length
 | 0,S,h,_=>by
  have:S=[]:=List.length_eq_zero_iff.1 (by omega);subst this;rfl
 | n +1,S,h,hno=>by
  match S,h with
  | a::b::S',h=>
   have ih:=aRq n S' (by simp at h;omega) (λk hk=>by
    have:=hno (k+1) (by omega);rw[show 2*(k+1)=2*k+1+1 by omega] at this
    simpa using this)
   have h0:=hno 0 (by omega);rw[List.range_succ_eq_map,List.filter_cons,List.filter_map,List.count_cons,List.count_cons,ih];have e:((λk=>qX (a::b::S') k)∘Nat.succ)=λk=>qX S' k:=by
    funext k
    show qX (a::b::S') (k+1)=qX S' k;unfold qX;rw[show 2*(k+1)=2*k+1+1 by omega]
    simp
   rw[e];have e0:qX (a::b::S') 0=(decide (a= -1)||decide (b= -1)):=by simp[qX]
   rw[e0];simp only[Nat.mul_zero,List.getD_cons_zero,Nat.zero_add,List.getD_cons_succ] at h0
   by_cases ha:a= -1
   ·by_cases hb:b= -1
    ·exact absurd ⟨ha,hb⟩ h0
    ·simp[ha,hb]
   ·by_cases hb:b= -1
    ·simp[ha,hb]
    ·simp[ha,hb]
theorem aNn{α:Type}(f:α->Bool):∀l:List α,(l.filter f).length+(l.filter λx=>!f x).length=l.length
 |[]=>rfl
 | a::l=>by
  have:=aNn f l;rw[List.filter_cons,List.filter_cons];cases f a<;>simp<;>omega
theorem bNq{t:aF}(hR:t.Rounds=2\/t.Rounds=3)(S:List Int):((sZ t).filter (opX S)).length+((List.range (2^(t.Rounds.toNat-1))).filter λk=>qX S k).length+1=2^t.Rounds.toNat:=by
 rcases hR with h|h
 ·rw[bEa h,h];have e:(List.range (2^((2:Int).toNat-1)))=[0,1]:=by decide
  rw[e];simp only[opX,List.filter_append,List.filter_cons,List.filter_nil];cases qX S 0<;>cases qX S 1<;>rfl
 ·rw[bEb h,h];have e:(List.range (2^((3:Int).toNat-1)))=[0,1,2,3]:=by decide
  rw[e];simp only[opX,List.filter_append,List.filter_cons,List.filter_nil];cases qX S 0<;>cases qX S 1<;>cases qX S 2<;>cases qX S 3<;>rfl
section
variable{p:aQ}(hp:lN p=true){l:List Int}(hl:aOd p l)
include hp hl
omit hp in
theorem bVe:l.count (-1)+p.Persons.length=l.length:=by
 have h1:(l.count (-1):Int)<=p.Size-p.Persons.length:=hl.byes;have hlen:=hl.len;have hpw:l.Pairwise λx y=>y≠-1->x≠y:=List.pairwise_iff_getElem.2 λi j hi hj hij hy he=>by
  have:=hl.nd i j hij hj (by rw[aW hi,aW hj];exact he);rw[aW hj] at this;exact hy this
 have hnd:(l.filter λx=>!decide (x= -1)).Nodup:=(hpw.filter _).imp_of_mem λ{x y} _ hy h=>h (by simpa using(List.mem_filter.1 hy).2);have h2:=mV (m:=(List.range p.Persons.length).map Int.ofNat) hnd λx hx=>by
  rw[List.mem_filter] at hx;have hx2:x≠-1:=by simpa using hx.2
  obtain⟨h1,h2⟩:=(hl.num x hx.1).resolve_left hx2;exact List.mem_map.2 ⟨x.toNat,List.mem_range.2 (by omega),by simp;omega⟩
 have h3:=aNn (λx:Int=>decide (x= -1)) l;have h4:(l.filter λx=>decide (x= -1)).length=l.count (-1):=by
  rw[List.count,List.countP_eq_length_filter]
  rfl
 simp only[List.length_map,List.length_range] at h2
 omega
theorem bEz{must:List (List Int)}(hM:MustIs (bZ p l) must (fB (bZ p l).Slots (Res []))):(cI (bZ p l) (bZ p l).Slots must).length+1=p.Persons.length:=by
 have hT:=aHu hp hl;have hr:=aRf hp hl;have hR:(bZ p l).Rounds=2\/(bZ p l).Rounds=3:=by omega
 have hb:=bVe hl;have h1:=bNq hR (bZ p l).Slots;have hS:(bZ p l).Slots=l.map (plF p):=rfl;have hn:l.length=2*2^((bZ p l).Rounds.toNat-1):=by
  rcases hr with⟨h,_,h2⟩|⟨h,_,h2⟩
  ·rw[h,h2];decide
  ·rw[h,h2];decide
 have h2:=aRq (2^((bZ p l).Rounds.toNat-1)) l hn λk hk=>aRw hl (by omega);have h3:((List.range (2^((bZ p l).Rounds.toNat-1))).filter λk=>qX (bZ p l).Slots k)=((List.range (2^((bZ p l).Rounds.toNat-1))).filter λk=>qX l k):=by
  refine List.filter_congr λk hk=>?_;rw[List.mem_range] at hk;unfold qX;rw[hS,aKs (show 2*k<l.length by omega),aKs (show 2*k+1<l.length by omega)];have a1:=aCz hp (aKg hl (show 2*k<l.length by omega));have a2:=aCz hp (aKg hl (show 2*k+1<l.length by omega));rw[decide_eq_decide.2 a1,decide_eq_decide.2 a2]
 have h4:2^(bZ p l).Rounds.toNat=l.length:=by
  rcases hr with⟨h,_,h2⟩|⟨h,_,h2⟩
  ·rw[h,h2];decide
  ·rw[h,h2];decide
 rw[aIq hT hM,List.length_map];rw[h3,<-h2] at h1
 omega
end
end Go.Am
end
section
namespace Go.Am.Py
def wi(n lo hi:Int):Bool:=decide (lo<=n)&&decide (n<=hi)
theorem oM(n lo hi:Int):fS n lo hi=some (wi n lo hi):=by simp[fS,cW,wi]
theorem vQ(n lo hi:Int):cU n lo hi=some (wi n lo hi):=by simp[cU,cW,wi]
theorem aKm(s:aX)(lo hi:Int):tC s lo hi=some (decide (s.Low<=s.High)&&wi s.Low lo hi&&wi s.High lo hi):=by
 simp[tC,oM,cW]
theorem aBr(s:aX)(d:Int):pK s d=some (decide (s.Low<=s.High)&&wi s.Low 1 600&&wi s.High 1 600&&wi d 0 2):=by
 simp[pK,oM,aKm,cW]
theorem aWp(s:aX):gC s=some (decide (1<=s.Low)&&decide (s.Low<=s.High)&&decide (s.High<=600)):=by
 simp[gC,cW]
def asc(l:List Int)(b:Int)(i:Nat):Bool:=wi (l.getD i 0) 0 (b-1)&&(decide (i=0)||decide (l.getD (i-1) 0<l.getD i 0))
theorem aIt(l:List Int)(hl:l.length<=9223372036854775807)(b:Int)(hb:0<=b)(hb2:b<=9223372036854775807):uC l b=some ((List.range l.length).all (asc l b)):=by
 unfold uC;rw[eH (λk i=>mZ l b l l.length k i) l.length (asc l b) (some false) (some true) ?_ ?_ BIG (bI hl)]
 ·cases(List.range l.length).all (asc l b)<;>rfl
 ·intro k i hi;simp only[mZ,aY hi,Option.bind_some,oM,aZ (show i<9223372036854775807 by omega),cD (show-9223372036854775808<=b-1 by omega) (show b-1<=9223372036854775807 by omega),Int.ofNat_lt,hi,decide_true,cond_true];have e1:l.getD i 0=l[i]:=by simp[List.getD,hi]
  by_cases h0:i=0
  ·subst h0
   simp[asc,List.getD,hi]
   cases wi l[0] 0 (b-1)<;>simp
  ·have h1:i-1<l.length:=by omega
   have e2:l.getD (i-1) 0=l[i-1]:=by simp[List.getD,h1]
   have e3:(decide ((0:Int)<(i:Int)))=true:=by simp;omega
   simp only[rN (show 0<i by omega) (show i<=9223372036854775807 by omega),aY h1,e3,cond_true,Option.bind_some,dJ,asc,e1,e2,h0,decide_false,Bool.false_or];cases wi l[i] 0 (b-1)<;>simp
   by_cases h:l[i-1]<l[i]
   ·simp[h,show¬l[i]<=l[i-1] by omega]
   ·simp[h,show l[i]<=l[i-1] by omega]
 ·intro k
  simp[mZ,aBp]
theorem fD(l:List Int)(hl:l.length<=9223372036854775807)(v:Int):cN l v=some (decide (v∈l)):=by
 have key:fJ l v=some (match l.findIdx? (λx=>decide (v=x)) with|some i=>(i:Int)|none=> -1):=by
  unfold fJ;rw[dD (S:=Unit) (λk i _=>fH l v l.length k i) l.length (λi _=>some (match(l.drop i).findIdx? (λx=>decide (v=x)) with|some j=>((i+j:Nat):Int)|none=> -1)) (λ_ _=>True) ?_ ?_ BIG () (bI hl) trivial]
  ·simp
  ·intro k i _ hi _ ih;have:=ih () trivial;simp only[fH,aY hi,Option.bind_some,aZ (show i<9223372036854775807 by omega),Int.ofNat_lt,hi,decide_true,cond_true,this];rw[List.drop_eq_getElem_cons hi,List.findIdx?_cons]
   by_cases h:v=l[i]
   ·simp[h]
   ·simp only[h,decide_false,cond_false,Bool.false_eq_true,if_false];cases List.findIdx? (λx=>decide (v=x)) (List.drop (i+1) l) with
    |none=>rfl
    |some j=>simp;omega
  ·intro k _ _
   simp[fH,rT]
 unfold cN;rw[key];cases h:List.findIdx? (λx=>decide (v=x)) l with
 | none=>
  simp at h
  have:v∉l:=λhm=>h v hm rfl
  simp[this]
 | some j=>
  have:v∈l:=by
   obtain⟨h1,h2,_⟩:=List.findIdx?_eq_some_iff_getElem.1 h
   simp at h2
   rw[h2];exact List.getElem_mem h1
  simp[this]
theorem aKz(l:List aX)(hl:l.length<=9223372036854775807)(f:aX->Option Bool)(g:aX->Bool)(hf:∀x∈l,f x=some (g x)):iN l f=some (l.any g):=by
 have key:kH l f=some (match l.findIdx? g with|some i=>(i:Int)|none=> -1):=by
  unfold kH;rw[dD (S:=Unit) (λk i _=>eU l f l.length k i) l.length (λi _=>some (match(l.drop i).findIdx? g with|some j=>((i+j:Nat):Int)|none=> -1)) (λ_ _=>True) ?_ ?_ BIG () (bI hl) trivial]
  ·simp
  ·intro k i _ hi _ ih;have:=ih () trivial;simp only[eU,aY hi,Option.bind_some,aZ (show i<9223372036854775807 by omega),Int.ofNat_lt,hi,decide_true,cond_true,this,hf _ (List.getElem_mem hi)];rw[List.drop_eq_getElem_cons hi,List.findIdx?_cons];cases h:g l[i] with
   |true=>simp
   | false=>
    simp only[cond_false,Bool.false_eq_true,if_false];cases List.findIdx? g (List.drop (i+1) l) with
    |none=>rfl
    |some j=>simp;omega
  ·intro k _ _
   simp[eU,oP]
 unfold iN;rw[key];cases h:List.findIdx? g l with
 | none=>
  simp at h
  have:l.any g=false:=by simpa using h
  simp[this]
 | some j=>
  have:l.any g=true:=by
   obtain⟨h1,h2,_⟩:=List.findIdx?_eq_some_iff_getElem.1 h;simp only[List.any_eq_true];exact⟨_,List.getElem_mem h1,h2⟩
  simp[this]
def lB(j:bE)(number many:Nat):Bool:=
 decide (1<=j.Length.Low)&&decide (j.Length.Low<=j.Length.High)&&decide (j.Length.High<=600)&&wi j.Due 0 2&&wi j.Earliest 0 1440&&
  (List.range j.After.length).all (asc j.After number)&&((List.range j.With.length).all (asc j.With many)&&!decide ((number:Int)∈j.With))
def rM(s:aX):Bool:=decide (s.Low<=s.High)&&wi s.Low 0 1440&&wi s.High 0 1440
def qU(p:aI)(d:Nat):Bool:=wi ((p.Days.getD d []).length) 1 3&&decide ((p.Days.getD d []).length=(p.Days.getD 0 []).length)&&(p.Days.getD d []).all rM
def valid(p:aI):Bool:=
 wi p.Days.length 1 3&&wi p.Rest 0 600&&decide (p.Jobs.length<=6)&&(List.range p.Days.length).all (qU p)&&
  (List.range p.Jobs.length).all λi=>lB (p.Jobs.getD i default) i p.Jobs.length
def smallP(p:aI):Prop:=p.Days.length<=9223372036854775807/\(∀d∈p.Days,d.length<=9223372036854775807)/\p.Jobs.length<=9223372036854775807/\∀j∈p.Jobs,j.After.length<=9223372036854775807/\j.With.length<=9223372036854775807
theorem play_Check_eq(p:aI)(hs:smallP p):sO p=some (bif valid p then 0 else 80):=by
 obtain⟨h1,h2,h3,h4⟩:=hs;have jobs:vO p=some (bif (List.range p.Jobs.length).all (λi=>lB (p.Jobs.getD i default) i p.Jobs.length) then 0 else 80):=by
  unfold vO;rw[eH (λk i=>qD p.Jobs p.Jobs.length p k i) p.Jobs.length (λi=>lB (p.Jobs.getD i default) i p.Jobs.length) (some 80) (some 0) ?_ ?_ BIG (bI h3)]
  ·cases(List.range p.Jobs.length).all (λi=>lB (p.Jobs.getD i default) i p.Jobs.length)<;>rfl
  ·intro k i hi;obtain⟨ha,hw⟩:=h4 _ (List.getElem_mem hi);simp only[qD,aY hi,Option.bind_some,aZ (show i<9223372036854775807 by omega),Int.ofNat_lt,hi,decide_true,cond_true,aBr,oM,dJ,
    aIt _ ha (i:Int) (by omega) (by omega),aIt _ hw (p.Jobs.length:Int) (by omega) (by omega),fD _ hw]
   have e1:p.Jobs.getD i default=p.Jobs[i]:=by simp[List.getD,hi]
   rw[e1]
   generalize p.Jobs[i]=j
   have:lB j i p.Jobs.length=!(((((!(decide (j.Length.Low<=j.Length.High)&&wi j.Length.Low 1 600&&wi j.Length.High 1 600&&wi j.Due 0 2))||!wi j.Earliest 0 1440)||!(List.range j.After.length).all (asc j.After ↑i))||!(List.range j.With.length).all (asc j.With ↑p.Jobs.length))||decide ((i:Int)∈j.With)):=by
    unfold lB
    generalize(List.range j.After.length).all (asc j.After ↑i)=b1
    generalize(List.range j.With.length).all (asc j.With ↑p.Jobs.length)=b2
    generalize decide ((i:Int)∈j.With)=b3
    generalize wi j.Due 0 2=b4
    generalize wi j.Earliest 0 1440=b5
    have:(decide (1<=j.Length.Low)&&decide (j.Length.Low<=j.Length.High)&&decide (j.Length.High<=600))=(decide (j.Length.Low<=j.Length.High)&&wi j.Length.Low 1 600&&wi j.Length.High 1 600):=by
     rw[Bool.eq_iff_iff]
     simp[wi]
     omega
    rw[this]
    generalize(decide (j.Length.Low<=j.Length.High)&&wi j.Length.Low 1 600&&wi j.Length.High 1 600)=b6
    cases b1<;>cases b2<;>cases b3<;>cases b4<;>cases b5<;>cases b6<;>rfl
   rw[this]
   generalize(((((!(decide (j.Length.Low<=j.Length.High)&&wi j.Length.Low 1 600&&wi j.Length.High 1 600&&wi j.Due 0 2))||!wi j.Earliest 0 1440)||!(List.range j.After.length).all (asc j.After ↑i))||!(List.range j.With.length).all (asc j.With ↑p.Jobs.length))||decide ((i:Int)∈j.With))=b
   cases b<;>rfl
  ·intro k
   simp[qD,aEv]
 have days:wi p.Days.length 1 3=true->nK p.Days p.Days.length p BIG 0=some (bif (List.range p.Days.length).all (qU p)&&(List.range p.Jobs.length).all (λi=>lB (p.Jobs.getD i default) i p.Jobs.length) then 0 else 80):=by
  intro hd;have hd0:0<p.Days.length:=by simp[wi] at hd;omega
  rw[eH (λk i=>nK p.Days p.Days.length p k i) p.Days.length (qU p) (some 80) (vO p) ?_ ?_ BIG (bI h1)]
  ·rw[jobs];cases(List.range p.Days.length).all (qU p)<;>rfl
  ·intro k i hi;have hdl:=h2 _ (List.getElem_mem hi);simp only[nK,aY hi,Option.bind_some,aZ (show i<9223372036854775807 by omega),Int.ofNat_lt,hi,decide_true,cond_true,oM,dJ,show idx p.Days 0=some p.Days[0] from aY hd0,
    aKz _ hdl (λy=>yD y) (λs=>!rM s) (λs _=>by simp[yD,aKm,rM])]
   have e1:p.Days.getD i []=p.Days[i]:=by simp[List.getD,hi]
   have e2:p.Days.getD 0 []=p.Days[0]:=by simp[List.getD,hd0]
   have e3:(p.Days[i].any λs=>!rM s)=!p.Days[i].all rM:=by simp[List.not_all_eq_any_not]
   simp only[qU,e1,e2,e3];have e4:(decide ((p.Days[i].length:Int)=(p.Days[0].length:Int)))=decide (p.Days[i].length=p.Days[0].length):=by simp;omega
   rw[e4];cases wi p.Days[i].length 1 3<;>cases decide (p.Days[i].length=p.Days[0].length)<;>cases p.Days[i].all rM<;>rfl
  ·intro k
   simp[nK]
 unfold sO;simp only[oM,dJ,Option.bind_some];have e5:decide (6<(p.Jobs.length:Int))=!decide (p.Jobs.length<=6):=by
  by_cases h:p.Jobs.length<=6
  ·simp[h];omega
  ·simp[h];omega
 rw[e5];unfold valid;cases hd:wi p.Days.length 1 3 with
 |false=>simp
 | true=>
  rw[days hd];cases wi p.Rest 0 600<;>cases decide (p.Jobs.length<=6)<;>simp
theorem bFl(j:bE)(ha:j.After.length<=9223372036854775807)(hw:j.With.length<=9223372036854775807)(n m:Nat)(hn:n<=9223372036854775807)(hm:m<=9223372036854775807):
  rA j n m=some (lB j n m):=by
 have with':nW n m j=some ((List.range j.With.length).all (asc j.With m)&&!decide ((n:Int)∈j.With)):=by
  unfold nW;rw[eH (λk i=>kE n m j k i) j.With.length (λi=>asc j.With m i&&!decide (j.With.getD i 0=n)) (some false) (some true) ?_ ?_ BIG (bI hw)]
  ·have:(List.range j.With.length).all (λi=>asc j.With m i&&!decide (j.With.getD i 0=n))=((List.range j.With.length).all (asc j.With m)&&!decide ((n:Int)∈j.With)):=by
    rw[Bool.eq_iff_iff];simp only[Bool.and_eq_true,dL,Bool.not_eq_true',decide_eq_false_iff_not]
    constructor
    ·intro h;refine⟨λi hi=>(h i hi).1,λhmem=>?_⟩;obtain⟨i,hi,e⟩:=List.getElem_of_mem hmem;exact(h i hi).2 (by simp[List.getD,hi,e])
    ·intro h i hi;refine⟨h.1 i hi,λe=>h.2 ?_⟩;rw[<-e]
     simp[List.getD,hi]
   rw[this];cases((List.range j.With.length).all (asc j.With m)&&!decide ((n:Int)∈j.With))<;>rfl
  ·intro k i hi;simp only[kE,aY hi,Option.bind_some,vQ,aZ (show i<9223372036854775807 by omega),cD (show-9223372036854775808<=(m:Int)-1 by omega) (show(m:Int)-1<=9223372036854775807 by omega),Int.ofNat_lt,hi,decide_true,cond_true,dJ];have e1:j.With.getD i 0=j.With[i]:=by simp[List.getD,hi]
   rw[e1]
   by_cases h0:i=0
   ·subst h0
    simp[asc,List.getD,hi]
    cases wi j.With[0] 0 (m-1)<;>by_cases h:j.With[0]=(n:Int)<;>simp[h]
   ·have h1:i-1<j.With.length:=by omega
    have e2:j.With.getD (i-1) 0=j.With[i-1]:=by simp[List.getD,h1]
    have e3:(decide ((0:Int)<(i:Int)))=true:=by simp;omega
    simp only[rN (show 0<i by omega) (show i<=9223372036854775807 by omega),aY h1,e3,cond_true,Option.bind_some,dJ,asc,e1,e2,h0,decide_false,Bool.false_or]
    by_cases hlt:j.With[i-1]<j.With[i]
    ·simp only[hlt,show¬j.With[i]<=j.With[i-1] by omega];cases wi j.With[i] 0 (m-1)<;>by_cases h:j.With[i]=(n:Int)<;>simp[h]
    ·simp only[hlt,show j.With[i]<=j.With[i-1] by omega];cases wi j.With[i] 0 (m-1)<;>by_cases h:j.With[i]=(n:Int)<;>simp[h]
  ·intro k
   simp[kE,wJ]
 have after:iD n m j BIG 0=some ((List.range j.After.length).all (asc j.After n)&&((List.range j.With.length).all (asc j.With m)&&!decide ((n:Int)∈j.With))):=by
  rw[eH (λk i=>iD n m j k i) j.After.length (asc j.After n) (some false) (nW n m j) ?_ ?_ BIG (bI ha)]
  ·rw[with'];cases(List.range j.After.length).all (asc j.After n)<;>rfl
  ·intro k i hi;simp only[iD,aY hi,Option.bind_some,vQ,aZ (show i<9223372036854775807 by omega),cD (show-9223372036854775808<=(n:Int)-1 by omega) (show(n:Int)-1<=9223372036854775807 by omega),Int.ofNat_lt,hi,decide_true,cond_true,dJ];have e1:j.After.getD i 0=j.After[i]:=by simp[List.getD,hi]
   by_cases h0:i=0
   ·subst h0
    simp[asc,List.getD,hi]
    cases wi j.After[0] 0 (n-1)<;>simp
   ·have h1:i-1<j.After.length:=by omega
    have e2:j.After.getD (i-1) 0=j.After[i-1]:=by simp[List.getD,h1]
    have e3:(decide ((0:Int)<(i:Int)))=true:=by simp;omega
    simp only[rN (show 0<i by omega) (show i<=9223372036854775807 by omega),aY h1,e3,cond_true,Option.bind_some,dJ,asc,e1,e2,h0,decide_false,Bool.false_or]
    by_cases hlt:j.After[i-1]<j.After[i]
    ·simp only[hlt,show¬j.After[i]<=j.After[i-1] by omega];cases wi j.After[i] 0 (n-1)<;>simp
    ·simp only[hlt,show j.After[i]<=j.After[i-1] by omega];cases wi j.After[i] 0 (n-1)<;>simp
  ·intro k
   simp[iD]
 unfold rA;simp only[aWp,vQ,dJ,Option.bind_some,after];unfold lB
 generalize(List.range j.After.length).all (asc j.After n)=b1
 generalize((List.range j.With.length).all (asc j.With m)&&!decide ((n:Int)∈j.With))=b2
 generalize(decide (1<=j.Length.Low)&&decide (j.Length.Low<=j.Length.High)&&decide (j.Length.High<=600))=b3
 cases b3<;>cases wi j.Due 0 2<;>cases wi j.Earliest 0 1440<;>cases b1<;>cases b2<;>rfl
theorem ref_Check_eq(p:aI)(hs:smallP p):jJ p=some (bif valid p then 0 else 80):=by
 obtain⟨h1,h2,h3,h4⟩:=hs;have jobs:nV p=some (bif (List.range p.Jobs.length).all (λi=>lB (p.Jobs.getD i default) i p.Jobs.length) then 0 else 80):=by
  unfold nV;rw[eH (λk i=>kD p k i) p.Jobs.length (λi=>lB (p.Jobs.getD i default) i p.Jobs.length) (some 80) (some 0) ?_ ?_ BIG (bI h3)]
  ·cases(List.range p.Jobs.length).all (λi=>lB (p.Jobs.getD i default) i p.Jobs.length)<;>rfl
  ·intro k i hi;obtain⟨ha,hw⟩:=h4 _ (List.getElem_mem hi);have e1:p.Jobs.getD i default=p.Jobs[i]:=by simp[List.getD,hi]
   simp only[kD,aY hi,Option.bind_some,aZ (show i<9223372036854775807 by omega),Int.ofNat_lt,hi,decide_true,cond_true,bFl _ ha hw i p.Jobs.length (by omega) (by omega),e1];cases lB p.Jobs[i] i p.Jobs.length<;>rfl
  ·intro k
   simp[kD,wI]
 have days:wi p.Days.length 1 3=true->wi (p.Days.getD 0 []).length 1 3=true->dM p BIG 0=some (bif (List.range p.Days.length).all (qU p)&&(List.range p.Jobs.length).all (λi=>lB (p.Jobs.getD i default) i p.Jobs.length) then 0 else 80):=by
  intro hd hd1;have hd0:0<p.Days.length:=by simp[wi] at hd;omega
  rw[eH (λk i=>dM p k i) p.Days.length (qU p) (some 80) (nV p) ?_ ?_ BIG (bI h1)]
  ·rw[jobs];cases(List.range p.Days.length).all (qU p)<;>rfl
  ·intro k i hi;have hdl:=h2 _ (List.getElem_mem hi);have e1:p.Days.getD i []=p.Days[i]:=by simp[List.getD,hi]
   have e2:p.Days.getD 0 []=p.Days[0]:=by simp[List.getD,hd0]
   have inner:iC (dM p k) (i:Int) p BIG 0=bif p.Days[i].all rM then dM p k ((i+1:Nat):Int) else some 80:=by
    rw[eH (λk2 c=>iC (dM p k) (i:Int) p k2 c) p.Days[i].length (λc=>rM (p.Days[i].getD c default)) (some 80) (dM p k ((i+1:Nat):Int)) ?_ ?_ BIG (bI hdl)]
    ·have:(List.range p.Days[i].length).all (λc=>rM (p.Days[i].getD c default))=p.Days[i].all rM:=by
      rw[Bool.eq_iff_iff,dL,List.all_eq_true]
      constructor
      ·intro h x hx;obtain⟨c,hc,e⟩:=List.getElem_of_mem hx;have:=h c hc
       simpa[List.getD,hc,e] using this
      ·intro h c hc
       simpa[List.getD,hc] using h _ (List.getElem_mem hc)
     rw[this]
    ·intro k2 c hc;simp only[iC,aY hi,Option.bind_some,aY hc,aZ (show c<9223372036854775807 by omega),Int.ofNat_lt,hc,decide_true,cond_true,dJ];have e4:p.Days[i].getD c default=p.Days[i][c]:=by simp[List.getD,hc]
     rw[e4]
     generalize p.Days[i][c]=s
     have:rM s=!(decide (s.Low<0)||decide (s.High<s.Low)||decide (1440<s.High)):=by
      rw[Bool.eq_iff_iff]
      simp[rM,wi]
      omega
     rw[this];cases(decide (s.Low<0)||decide (s.High<s.Low)||decide (1440<s.High))<;>rfl
    ·intro k2
     simp[iC,aY hi,wH,wG,aZ (show i<9223372036854775807 by omega)]
   simp only[dM,aY hi,Option.bind_some,Int.ofNat_lt,hi,decide_true,cond_true,show idx p.Days 0=some p.Days[0] from aY hd0,inner];have e4:(decide ((p.Days[i].length:Int)=(p.Days[0].length:Int)))=decide (p.Days[i].length=p.Days[0].length):=by simp;omega
   rw[e4];simp only[qU,e1,e2]
   by_cases hl:p.Days[i].length=p.Days[0].length
   ·rw[e2] at hd1;simp only[hl,hd1,decide_true];cases p.Days[i].all rM<;>rfl
   ·simp[hl]
  ·intro k
   simp[dM]
 unfold jJ;simp only[vQ,Option.bind_some];have e5:decide (6<(p.Jobs.length:Int))=!decide (p.Jobs.length<=6):=by
  by_cases h:p.Jobs.length<=6
  ·simp[h];omega
  ·simp[h];omega
 rw[e5];cases hd:wi p.Days.length 1 3 with
 |false=>simp[valid,hd]
 | true=>
  have hd0:0<p.Days.length:=by simp[wi] at hd;omega
  have e2:p.Days.getD 0 []=p.Days[0]:=by simp[List.getD,hd0]
  simp only[show idx p.Days 0=some p.Days[0] from aY hd0,Option.bind_some,dJ,Bool.not_true,cond_false];unfold valid;rw[hd];cases hd1:wi p.Days[0].length 1 3 with
  | false=>
   have:(List.range p.Days.length).all (qU p)=false:=by
    rw[Bool.eq_false_iff];intro h;have:=dL.1 h 0 hd0;unfold qU at this;rw[e2,hd1] at this
    simp at this
   simp[this]
  | true=>
   rw[days hd (by rw[e2];exact hd1)];cases wi p.Rest 0 600<;>cases decide (p.Jobs.length<=6)<;>simp
structure VP(p:aI):Prop where
 nd0:0<p.Days.length
 nd:p.Days.length<=3
 nc:∀d (h:d<p.Days.length),(p.Days[d]).length=(p.Days.getD 0 []).length
 nc0:0<(p.Days.getD 0 []).length
 nc3:(p.Days.getD 0 []).length<=3
 span:∀d∈p.Days,∀s∈d,0<=s.Low/\s.Low<=s.High/\s.High<=1440
 rest:0<=p.Rest/\p.Rest<=600
 nj:p.Jobs.length<=6
 job:∀i (h:i<p.Jobs.length),lB p.Jobs[i] i p.Jobs.length=true
theorem VP_of{p:aI}(h:valid p=true):VP p:=by
 simp only[valid,Bool.and_eq_true,dL,decide_eq_true_eq] at h;obtain⟨⟨⟨⟨h1,h2⟩,h3⟩,h4⟩,h5⟩:=h;simp only[wi,Bool.and_eq_true,decide_eq_true_eq] at h1 h2;have hd0:0<p.Days.length:=by omega
 have hg:∀d (h:d<p.Days.length),qU p d=true:=h4;have hday:∀d (h:d<p.Days.length),(1<=p.Days[d].length/\p.Days[d].length<=3)/\p.Days[d].length=(p.Days.getD 0 []).length/\∀s∈p.Days[d],rM s=true:=by
  intro d hd;have:=hg d hd;simp only[qU,Bool.and_eq_true,decide_eq_true_eq,wi,List.all_eq_true,show p.Days.getD d []=p.Days[d] by simp[List.getD,hd]] at this;exact⟨by omega,this.1.2,this.2⟩
 have h0:=hday 0 hd0;have e0:p.Days.getD 0 []=p.Days[0]:=by simp[List.getD,hd0]
 refine⟨hd0,by omega,λd hd=>(hday d hd).2.1,by rw[e0];omega,by rw[e0];omega,λd hd s hs=>?_,h2,h3,λi hi=>?_⟩
 ·obtain⟨i,hi,rfl⟩:=List.getElem_of_mem hd;have:=(hday i hi).2.2 s hs
  simp[rM,wi] at this
  omega
 ·have:=h5 i hi
  simpa[List.getD,hi] using this
structure VJ(j:bE)(n m:Nat):Prop where
 low:1<=j.Length.Low
 le:j.Length.Low<=j.Length.High
 high:j.Length.High<=600
 due0:0<=j.Due
 due:j.Due<=2
 early0:0<=j.Earliest
 early:j.Earliest<=1440
 after:∀x∈j.After,0<=x/\x<n
 withh:∀x∈j.With,0<=x/\x<m/\x≠n
 alen:j.After.length<=n
 wlen:j.With.length<=m
theorem bHx{l:List Int}{b:Nat}(h:∀i,i<l.length->asc l b i=true):l.length<=b/\∀x∈l,0<=x/\x<b:=by
 have key:∀i (hi:i<l.length),(i:Int)<=l[i]/\l[i]<b:=by
  intro i
  induction i with
  | zero=>
   intro hi;have:=h 0 hi
   simp[asc,wi,List.getD,hi] at this
   omega
  | succ i ih=>
   intro hi;have h1:=ih (by omega);have:=h (i+1) hi;have hi':i<l.length:=by omega
   simp[asc,wi,List.getD,hi,hi'] at this
   omega
 refine⟨?_,λx hx=>?_⟩
 ·by_cases h0:l.length=0
  ·omega
  ·have:=key (l.length-1) (by omega)
   omega
 ·obtain⟨i,hi,rfl⟩:=List.getElem_of_mem hx;have:=key i hi
  omega
theorem bZr{j:bE}{n m:Nat}(h:lB j n m=true):VJ j n m:=by
 simp only[lB,Bool.and_eq_true,dL,decide_eq_true_eq,wi,Bool.not_eq_true',decide_eq_false_iff_not] at h;obtain⟨⟨⟨⟨⟨⟨h1,h2⟩,h3⟩,h4⟩,h5⟩,h6⟩,h7,h8⟩:=h;obtain⟨a1,a2⟩:=bHx h6;obtain⟨b1,b2⟩:=bHx h7;exact⟨h1,h2,h3,h4.1,h4.2,h5.1,h5.2,a2,λx hx=>⟨(b2 x hx).1,(b2 x hx).2,λe=>h8 (e▸hx)⟩,a1,b1⟩
theorem VP.vj{p:aI}(h:VP p){i:Nat}(hi:i<p.Jobs.length):VJ p.Jobs[i] i p.Jobs.length:=bZr (h.job i hi)
theorem VP.small{p:aI}(h:VP p):smallP p:=by
 have:=h.nd;have:=h.nj;have:=h.nc3;refine⟨by omega,λd hd=>?_,by omega,λj hj=>?_⟩
 ·obtain⟨i,hi,rfl⟩:=List.getElem_of_mem hd;have:=h.nc i hi
  omega
 ·obtain⟨i,hi,rfl⟩:=List.getElem_of_mem hj;have:=(h.vj hi).alen;have:=(h.vj hi).wlen
  omega
end Go.Am.Py
end
section
namespace Go.Am.Py
theorem aZi{α:Type}[Inhabited α]{l:List α}{f:α->Bool}:((List.range l.length).all λi=>!f (l.getD i default))=!l.any f:=by
 rw[Bool.eq_iff_iff];simp only[dL,Bool.not_eq_true',List.any_eq_false]
 constructor
 ·intro h x hx;obtain⟨i,hi,rfl⟩:=List.getElem_of_mem hx;have:=h i hi
  simp[List.getD,hi] at this
  simp[this]
 ·intro h i hi;have:=h _ (List.getElem_mem hi)
  simp[List.getD,hi] at this|-
  exact this
theorem aZh{α:Type}[Inhabited α]{l:List α}{f:α->Bool}:((List.range l.length).all λi=>f (l.getD i default))=l.all f:=by
 have:=aZi (l:=l) (f:=λx=>!f x);simp only[Bool.not_not] at this;rw[this,List.all_eq_not_any_not]
theorem bDy(l:List aG)(hl:l.length<=9223372036854775807)(j:Int):qT l j=some (l.any λo=>decide (o.Job=j)):=by
 unfold qT;rw[eH (λk i=>lG l j k i) l.length (λi=>!decide ((l.getD i default).Job=j)) (some true) (some false) ?_ ?_ BIG (bI hl)]
 ·rw[aZi (f:=λo:aG=>decide (o.Job=j))];cases(l.any λo=>decide (o.Job=j))<;>rfl
 ·intro k i hi;simp only[lG,aY hi,Option.bind_some,aZ (show i<9223372036854775807 by omega),Int.ofNat_lt,hi,decide_true,cond_true];have e1:l.getD i default=l[i]:=by simp[List.getD,hi]
  rw[e1]
  by_cases h:l[i].Job=j<;>simp[h]
 ·intro k
  simp[lG,zA]
def jobAt(p:aI)(j:Int):bE:=p.Jobs.getD j.toNat default
def oV(p:aI):Nat:=(p.Days.getD 0 []).length
def zZ(p:aI)(pre:List aG)(s:aG):Bool:=
 wi s.Job 0 (p.Jobs.length-1)&&!(pre.any λo=>decide (o.Job=s.Job))&&wi s.Day 0 (min ((p.Days.length:Int)-1) (jobAt p s.Job).Due)&&wi s.Court 0 (oV p-1)&&
  (pre.all λo=>decide (o.Day<=s.Day))&&(jobAt p s.Job).After.all λa=>pre.any λo=>decide (o.Job=a)
def zS(p:aI)(order:List aG):Bool:=
 (List.range order.length).all (λi=>zZ p (order.take i) (order.getD i default))&&decide (order.length=p.Jobs.length)
theorem aQi{n:Int}{m:Nat}(h:wi n 0 ((m:Int)-1)=true):0<=n/\n.toNat<m:=by
 simp[wi] at h
 omega
theorem bJt{p:aI}(hp:VP p)(pre:List aG)(hl:pre.length<=9223372036854775807)(s:aG):pD p pre s=some (zZ p pre s):=by
 have hnj:=hp.nj;have hnd:=hp.nd;have hnd0:=hp.nd0;have hnc:=hp.nc3;have hnc0:=hp.nc0;have e0:p.Days.getD 0 []=p.Days[0]:=by simp[List.getD,hnd0]
 have after:wi s.Job 0 (p.Jobs.length-1)=true->mD pre p s=some ((jobAt p s.Job).After.all λa=>pre.any λo=>decide (o.Job=a)):=by
  intro hj;obtain⟨j0,j1⟩:=aQi hj;have ej:idx p.Jobs s.Job=some (jobAt p s.Job):=by rw[pW j0 j1];simp[jobAt,List.getD,j1]
  have hal:(jobAt p s.Job).After.length<=9223372036854775807:=by
   have:=(hp.small.2.2.2 _ (List.getElem_mem j1)).1
   simpa[jobAt,List.getD,j1] using this
  unfold mD;rw[eH (λk i=>iL pre p s k i) (jobAt p s.Job).After.length (λi=>pre.any λo=>decide (o.Job=(jobAt p s.Job).After.getD i default)) (some false) (some true) ?_ ?_ BIG (bI hal)]
  ·rw[aZh (f:=λa=>pre.any λo=>decide (o.Job=a))];cases((jobAt p s.Job).After.all λa=>pre.any λo=>decide (o.Job=a))<;>rfl
  ·intro k i hi;simp only[iL,ej,aY hi,Option.bind_some,aZ (show i<9223372036854775807 by omega),Int.ofNat_lt,hi,decide_true,cond_true,bDy pre hl];have e1:(jobAt p s.Job).After.getD i default=(jobAt p s.Job).After[i]:=by simp[List.getD,hi]
   rw[e1];cases(pre.any λo=>decide (o.Job=(jobAt p s.Job).After[i]))<;>rfl
  ·intro k
   simp[iL,tV,ej]
 have day:wi s.Job 0 (p.Jobs.length-1)=true->gG pre p s BIG 0=some ((pre.all λo=>decide (o.Day<=s.Day))&&(jobAt p s.Job).After.all λa=>pre.any λo=>decide (o.Job=a)):=by
  intro hj;rw[eH (λk i=>gG pre p s k i) pre.length (λi=>decide ((pre.getD i default).Day<=s.Day)) (some false) (mD pre p s) ?_ ?_ BIG (bI hl)]
  ·rw[aZh (f:=λo:aG=>decide (o.Day<=s.Day)),after hj];cases(pre.all λo=>decide (o.Day<=s.Day))<;>rfl
  ·intro k i hi;simp only[gG,aY hi,Option.bind_some,aZ (show i<9223372036854775807 by omega),Int.ofNat_lt,hi,decide_true,cond_true];have e1:pre.getD i default=pre[i]:=by simp[List.getD,hi]
   rw[e1]
   by_cases h:pre[i].Day<=s.Day
   ·simp[h,show¬s.Day<pre[i].Day by omega]
   ·simp[h,show s.Day<pre[i].Day by omega]
  ·intro k
   simp[gG]
 unfold pD;simp only[vQ,cD (show-9223372036854775808<=(p.Jobs.length:Int)-1 by omega) (show(p.Jobs.length:Int)-1<=9223372036854775807 by omega),cD (show-9223372036854775808<=(p.Days.length:Int)-1 by omega) (show(p.Days.length:Int)-1<=9223372036854775807 by omega),
  Option.bind_some,bDy pre hl,dJ,show idx p.Days 0=some p.Days[0] from aY hnd0]
 rw[cD (show-9223372036854775808<=(p.Days[0].length:Int)-1 by omega) (by rw[<-e0];omega)];unfold zZ;cases hj:wi s.Job 0 (p.Jobs.length-1) with
 |false=>simp
 | true=>
  obtain⟨j0,j1⟩:=aQi hj;have ej:idx p.Jobs s.Job=some (jobAt p s.Job):=by rw[pW j0 j1];simp[jobAt,List.getD,j1]
  have hcc:(oV p:Int)=p.Days[0].length:=by unfold oV;rw[e0]
  rw[hcc,day hj];simp only[ej,Option.bind_some];cases(pre.any λo=>decide (o.Job=s.Job))<;>cases wi s.Day 0 (min (↑p.Days.length-1) (jobAt p s.Job).Due)<;>cases wi s.Court 0 (↑p.Days[0].length-1)<;>simp
theorem IsOrder_eq{p:aI}(hp:VP p)(order:List aG)(hl:order.length<=9223372036854775807):iW p order=some (zS p order):=by
 unfold iW;rw[eH (λk i=>iK order p k i) order.length (λi=>zZ p (order.take i) (order.getD i default)) (some false) (some (decide (order.length=p.Jobs.length))) ?_ ?_ BIG (bI hl)]
 ·unfold zS;cases((List.range order.length).all λi=>zZ p (order.take i) (order.getD i default))<;>rfl
 ·intro k i hi;simp only[iK,aY hi,aRe (show i<=order.length by omega),Option.bind_some,aZ (show i<9223372036854775807 by omega),Int.ofNat_lt,hi,decide_true,cond_true,
   bJt hp (order.take i) (by simp;omega)]
  have e1:order.getD i default=order[i]:=by simp[List.getD,hi]
  rw[e1];cases zZ p (order.take i) order[i]<;>rfl
 ·intro k
  simp[iK,tU]
  omega
theorem vW(l:List Int)(hl:l.length<=9223372036854775807)(f:Int->Option Bool)(g:Int->Bool)(hf:∀x∈l,f x=some (g x)):fL l f=some (l.any g):=by
 have key:jN l f=some (match l.findIdx? g with|some i=>(i:Int)|none=> -1):=by
  unfold jN;rw[dD (S:=Unit) (λk i _=>dW l f l.length k i) l.length (λi _=>some (match(l.drop i).findIdx? g with|some j=>((i+j:Nat):Int)|none=> -1)) (λ_ _=>True) ?_ ?_ BIG () (bI hl) trivial]
  ·simp
  ·intro k i _ hi _ ih;have:=ih () trivial;simp only[dW,aY hi,Option.bind_some,aZ (show i<9223372036854775807 by omega),Int.ofNat_lt,hi,decide_true,cond_true,this,hf _ (List.getElem_mem hi)];rw[List.drop_eq_getElem_cons hi,List.findIdx?_cons];cases h:g l[i] with
   |true=>simp
   | false=>
    simp only[cond_false,Bool.false_eq_true,if_false];cases List.findIdx? g (List.drop (i+1) l) with
    |none=>rfl
    |some j=>simp;omega
  ·intro k _ _
   simp[dW,nQ]
 unfold fL;rw[key];cases h:List.findIdx? g l with
 | none=>
  simp at h
  have:l.any g=false:=by simpa using h
  simp[this]
 | some j=>
  have:l.any g=true:=by
   obtain⟨h1,h2,_⟩:=List.findIdx?_eq_some_iff_getElem.1 h;simp only[List.any_eq_true];exact⟨_,List.getElem_mem h1,h2⟩
  simp[this]
def xY(p:aI)(order:List aG)(i:Nat):Bool:=
 let s:=order.getD i default
 wi s.Job 0 (p.Jobs.length-1)&&!((order.take i).any λo=>decide (o.Job=s.Job))&&wi s.Day 0 ((p.Days.length:Int)-1)&&wi s.Court 0 (oV p-1)&&
  (decide (s.Day<=(jobAt p s.Job).Due)&&((jobAt p s.Job).After.all λa=>(order.take i).any λo=>decide (o.Job=a))&&(decide (i=0)||decide ((order.getD (i-1) default).Day<=s.Day)))
theorem bEm{l:List aG}{j:Int}:decide (j∈l.map (·.Job))=l.any λo=>decide (o.Job=j):=by
 rw[Bool.eq_iff_iff]
 simp
theorem aWl{p:aI}(hp:VP p)(order:List aG)(hl:order.length<=1000000):rI p order=some ((List.range order.length).all (xY p order)&&decide (order.length=p.Jobs.length)):=by
 have hnj:=hp.nj;have hnd:=hp.nd;have hnd0:=hp.nd0;have hnc:=hp.nc3;have hnc0:=hp.nc0;have e0:p.Days.getD 0 []=p.Days[0]:=by simp[List.getD,hnd0]
 unfold rI;have main:=eH (λk i=>nA order order order.length p k i ((order.take i.toNat).map (·.Job))) order.length (xY p order) (some false) (some (decide (order.length=p.Jobs.length))) ?_ ?_ BIG (bI (by omega))
 ·simp only[Int.toNat_zero,List.take_zero,List.map_nil] at main;rw[main];cases(List.range order.length).all (xY p order)<;>rfl
 ·intro k i hi;have e1:order.getD i default=order[i]:=by simp[List.getD,hi]
  have hcc:(oV p:Int)=p.Days[0].length:=by unfold oV;rw[e0]
  have hw:(p.Days[0].length:Int)-1<=9223372036854775807:=by rw[<-e0];omega
  have hml:((order.take i).map (·.Job)).length<=9223372036854775807:=by simp;omega
  simp only[nA,Int.toNat_natCast,aY hi,Option.bind_some,aZ (show i<9223372036854775807 by omega),Int.ofNat_lt,hi,decide_true,cond_true,oM,
   cD (show-9223372036854775808<=(p.Jobs.length:Int)-1 by omega) (show(p.Jobs.length:Int)-1<=9223372036854775807 by omega),cD (show-9223372036854775808<=(p.Days.length:Int)-1 by omega) (show(p.Days.length:Int)-1<=9223372036854775807 by omega),
   fD _ hml,dJ,show idx p.Days 0=some p.Days[0] from aY hnd0,cD (show-9223372036854775808<=(p.Days[0].length:Int)-1 by omega) hw,bEm]
  simp only[xY,e1,hcc];cases hj:wi order[i].Job 0 (p.Jobs.length-1) with
  |false=>simp
  | true=>
   obtain⟨j0,j1⟩:=aQi hj;have ej:idx p.Jobs order[i].Job=some (jobAt p order[i].Job):=by rw[pW j0 j1];simp[jobAt,List.getD,j1]
   have hal:(jobAt p order[i].Job).After.length<=9223372036854775807:=by
    have:=(hp.small.2.2.2 _ (List.getElem_mem j1)).1
    simpa[jobAt,List.getD,j1] using this
   have hcf:=vW (jobAt p order[i].Job).After hal (λy15=>uD y15 ((order.take i).map (·.Job))) (λa=>!((order.take i).any λo=>decide (o.Job=a)))
    (λa _=>by simp only[uD,fD _ hml,Option.bind_some,bEm])
   have hneg:((jobAt p order[i].Job).After.any λa=>!((order.take i).any λo=>decide (o.Job=a)))=!((jobAt p order[i].Job).After.all λa=>(order.take i).any λo=>decide (o.Job=a)):=by
    rw[List.not_all_eq_any_not]
   simp only[ej,Option.bind_some,hcf,hneg,dJ];have happ:app 8 ((order.take i).map (·.Job)) [order[i].Job]=some ((order.take (i+1)).map (·.Job)):=by
    rw[eE (by simp;omega),List.take_succ_eq_append_getElem hi,List.map_append]
    rfl
   have hdue:decide ((jobAt p order[i].Job).Due<order[i].Day)=!decide (order[i].Day<=(jobAt p order[i].Job).Due):=by
    by_cases h:order[i].Day<=(jobAt p order[i].Job).Due
    ·simp[h]
    ·simp[h];omega
   rw[hdue]
   by_cases h0:i=0
   ·subst h0;have e3:(decide ((0:Int)<((0:Nat):Int)))=false:=rfl;simp only[e3,cond_false,Option.bind_some,dJ,happ,decide_true,Bool.true_or,Bool.and_true,Bool.or_false]
    generalize((order.take 0).any λo=>decide (o.Job=order[0].Job))=b1
    generalize((jobAt p order[0].Job).After.all λa=>(order.take 0).any λo=>decide (o.Job=a))=b2
    generalize wi order[0].Day 0 (↑p.Days.length-1)=b3
    generalize wi order[0].Court 0 (↑p.Days[0].length-1)=b4
    generalize decide (order[0].Day<=(jobAt p order[0].Job).Due)=b5
    cases b1<;>cases b2<;>cases b3<;>cases b4<;>cases b5<;>rfl
   ·have h1:i-1<order.length:=by omega
    have e2:order.getD (i-1) default=order[i-1]:=by simp[List.getD,h1]
    have e3:(decide ((0:Int)<(i:Int)))=true:=by simp;omega
    have hday:decide (order[i].Day<order[i-1].Day)=!decide (order[i-1].Day<=order[i].Day):=by
     by_cases h:order[i-1].Day<=order[i].Day
     ·simp[h]
     ·simp[h];omega
    simp only[rN (show 0<i by omega) (show i<=9223372036854775807 by omega),aY h1,e3,cond_true,Option.bind_some,dJ,e2,h0,decide_false,Bool.false_or,hday,happ]
    generalize((order.take i).any λo=>decide (o.Job=order[i].Job))=b1
    generalize((jobAt p order[i].Job).After.all λa=>(order.take i).any λo=>decide (o.Job=a))=b2
    generalize wi order[i].Day 0 (↑p.Days.length-1)=b3
    generalize wi order[i].Court 0 (↑p.Days[0].length-1)=b4
    generalize decide (order[i].Day<=(jobAt p order[i].Job).Due)=b5
    generalize decide (order[i-1].Day<=order[i].Day)=b6
    cases b1<;>cases b2<;>cases b3<;>cases b4<;>cases b5<;>cases b6<;>rfl
 ·intro k
  simp[nA,aBq]
  omega
theorem bKv{p:aI}(order:List aG):(List.range order.length).all (xY p order)=(List.range order.length).all (λi=>zZ p (order.take i) (order.getD i default)):=by
 rw[Bool.eq_iff_iff,dL,dL]
 constructor
 ·intro h i hi;have sorted:∀a b,a<=b->b<order.length->(order.getD a default).Day<=(order.getD b default).Day:=by
   intro a b hab hb
   induction b with
   | zero=>
    have:a=0:=by omega
    subst this;exact Int.le_refl _
   | succ b ih=>
    by_cases hab':a=b+1
    ·subst hab';exact Int.le_refl _
    ·have h1:=ih (by omega) (by omega);have h2:=h (b+1) hb;simp only[xY,Bool.and_eq_true,Bool.or_eq_true,decide_eq_true_eq,Nat.add_sub_cancel] at h2
     omega
  have hg:=h i hi;simp only[xY,zZ,Bool.and_eq_true] at hg|-;obtain⟨⟨⟨⟨h1,h2⟩,h3⟩,h4⟩,⟨h5,h6⟩,h7⟩:=hg;refine⟨⟨⟨⟨⟨h1,h2⟩,?_⟩,h4⟩,?_⟩,h6⟩
  ·simp[wi] at h3 h5|-
   omega
  ·rw[List.all_eq_true];intro o ho;obtain⟨a,ha,rfl⟩:=List.getElem_of_mem ho;have hai:a<i:=by simp at ha;omega
   have:=sorted a i (by omega) hi;have e:order.getD a default=(order.take i)[a]:=by simp[List.getD,show a<order.length by omega]
   rw[e] at this
   simpa using this
 ·intro h i hi;have hg:=h i hi;simp only[xY,zZ,Bool.and_eq_true] at hg|-;obtain⟨⟨⟨⟨⟨h1,h2⟩,h3⟩,h4⟩,h5⟩,h6⟩:=hg;refine⟨⟨⟨⟨h1,h2⟩,?_⟩,h4⟩,⟨?_,h6⟩,?_⟩
  ·simp[wi] at h3|-
   omega
  ·simp[wi] at h3|-
   omega
  ·by_cases h0:i=0
   ·simp[h0]
   ·have:=List.all_eq_true.1 h5 (order[i-1]'(by omega)) (by
     rw[List.mem_take_iff_getElem];exact⟨i-1,by omega,rfl⟩)
    have e:order.getD (i-1) default=order[i-1]'(by omega):=by simp[List.getD,show i-1<order.length by omega]
    rw[e]
    simp at this
    simp[this]
theorem aHj{p:aI}(hp:VP p)(order:List aG)(hl:order.length<=1000000):rI p order=some (zS p order):=by
 rw[aWl hp order hl,bKv]
 rfl
end Go.Am.Py
end
section
namespace Go.Am.Py
def sS(p:aI)(a b:Int):Bool:=decide (b∈(jobAt p a).After)||decide (b∈(jobAt p a).With)||decide (a∈(jobAt p b).After)||decide (a∈(jobAt p b).With)
def isJ(p:aI)(a:Int):Prop:=0<=a/\a.toNat<p.Jobs.length
theorem isJ.idx{p:aI}{a:Int}(h:isJ p a):idx p.Jobs a=some (jobAt p a):=by rw[pW h.1 h.2];simp[jobAt,List.getD,h.2]
theorem isJ.small{p:aI}(hp:VP p){a:Int}(h:isJ p a):(jobAt p a).After.length<=9223372036854775807/\(jobAt p a).With.length<=9223372036854775807:=by
 have:=hp.small.2.2.2 _ (List.getElem_mem h.2)
 simpa[jobAt,List.getD,h.2] using this
theorem isJ.vj{p:aI}(hp:VP p){a:Int}(h:isJ p a):VJ (jobAt p a) a.toNat p.Jobs.length:=by
 have:=hp.vj h.2
 simpa[jobAt,List.getD,h.2] using this
theorem bBu{p:aI}(hp:VP p){a b:Int}(ha:isJ p a)(hb:isJ p b):aBu p a b=some (sS p a b):=by
 simp only[aBu,yF,ha.idx,hb.idx,Option.bind_some,fD _ (ha.small hp).1,fD _ (ha.small hp).2,fD _ (hb.small hp).1,fD _ (hb.small hp).2,dJ,sS]
 simp[Bool.or_assoc]
def nZ(p:aI)(d c:Int):aX:=(p.Days.getD d.toNat []).getD c.toNat default
def cH(ends:List Int)(j:Int):Int:=ends.getD j.toNat 0
def aId(p:aI)(ends:List Int)(s:aG)(b:Int)(o:aG):Int:=
 bif decide (o.Day=s.Day) then
  (bif sS p s.Job o.Job then max (bif decide (o.Court=s.Court) then max b (cH ends o.Job) else b) (cH ends o.Job+p.Rest) else(bif decide (o.Court=s.Court) then max b (cH ends o.Job) else b))
 else b
def eG(p:aI)(pre:List aG)(ends:List Int)(s:aG):Int:=pre.foldl (aId p ends s) (max (nZ p s.Day s.Court).Low (jobAt p s.Job).Earliest)
theorem bCx{p:aI}{ends:List Int}{s o:aG}{b x:Int}:aId p ends s b o<=x↔b<=x/\(o.Day=s.Day->(o.Court=s.Court->cH ends o.Job<=x)/\(sS p s.Job o.Job=true->cH ends o.Job+p.Rest<=x)):=by
 unfold aId
 by_cases h1:o.Day=s.Day<;>by_cases h2:o.Court=s.Court<;>cases h3:sS p s.Job o.Job<;>simp[h1,h2,Int.max_le,and_assoc]
theorem aTf{α:Type}{f:Int->α->Int}{C:α->Int->Prop}(hf:∀b o x,f b o<=x↔b<=x/\C o x):∀(l:List α) (b x:Int),l.foldl f b<=x↔b<=x/\∀o∈l,C o x
 |[],b,x=>by simp
 | a::l,b,x=>by
  rw[List.foldl_cons,aTf hf l,hf]
  simp[and_assoc]
def aXk(p:aI)(pre:List aG)(ends:List Int)(s:aG)(x:Int):Prop:=
 (nZ p s.Day s.Court).Low<=x/\(jobAt p s.Job).Earliest<=x/\∀o∈pre,o.Day=s.Day->(o.Court=s.Court->cH ends o.Job<=x)/\(sS p s.Job o.Job=true->cH ends o.Job+p.Rest<=x)
theorem wY{p:aI}{pre:List aG}{ends:List Int}{s:aG}{x:Int}:eG p pre ends s<=x↔aXk p pre ends s x:=by
 unfold eG aXk;rw[aTf (f:=aId p ends s) (C:=λo x=>o.Day=s.Day->(o.Court=s.Court->cH ends o.Job<=x)/\(sS p s.Job o.Job=true->cH ends o.Job+p.Rest<=x)) (λb o x=>bCx)]
 simp[Int.max_le,and_assoc]
theorem bRd{a:Int}{C:Int->Prop}(ha:∀x,a<=x↔C x){b:Int}(hb:∀x,b<=x↔C x):a=b:=by
 have h1:=(ha b).2 ((hb b).1 (Int.le_refl b));have h2:=(hb a).2 ((ha a).1 (Int.le_refl a))
 omega
theorem aW{α:Type}{l:List α}{i:Nat}(h:i<l.length)(d:α):l.getD i d=l[i]:=by simp[List.getD,h]
structure Seat(p:aI)(s:aG):Prop where
 job:isJ p s.Job
 day0:0<=s.Day
 day:s.Day.toNat<p.Days.length
 court0:0<=s.Court
 court:s.Court.toNat<oV p
theorem Seat.days{p:aI}{s:aG}(h:Seat p s):idx p.Days s.Day=some (p.Days.getD s.Day.toNat []):=by rw[pW h.day0 h.day];simp[List.getD,h.day]
theorem Seat.court'{p:aI}(hp:VP p){s:aG}(h:Seat p s):s.Court.toNat<(p.Days.getD s.Day.toNat []).length:=by
 have h1:=hp.nc _ h.day;have h2:p.Days.getD s.Day.toNat []=p.Days[s.Day.toNat]'h.day:=by simp[List.getD,h.day]
 rw[h2,h1];exact h.court
theorem Seat.span{p:aI}(hp:VP p){s:aG}(h:Seat p s):idx (p.Days.getD s.Day.toNat []) s.Court=some (nZ p s.Day s.Court):=by
 have hc:=h.court' hp;rw[pW h.court0 hc];exact congrArg some (aW hc _).symm
theorem Seat.hours{p:aI}(hp:VP p){s:aG}(h:Seat p s):0<=(nZ p s.Day s.Court).Low/\(nZ p s.Day s.Court).Low<=(nZ p s.Day s.Court).High/\(nZ p s.Day s.Court).High<=1440:=by
 have hc:=h.court' hp;have e:nZ p s.Day s.Court=(p.Days.getD s.Day.toNat [])[s.Court.toNat]:=aW hc _;rw[e];have h2:p.Days.getD s.Day.toNat []=p.Days[s.Day.toNat]'h.day:=by simp[List.getD,h.day]
 exact hp.span _ (by rw[h2];exact List.getElem_mem h.day) _ (List.getElem_mem hc)
structure Ord(p:aI)(order:List aG):Prop where
 seat:∀i (h:i<order.length),Seat p order[i]
 due:∀i (h:i<order.length),order[i].Day<=(jobAt p order[i].Job).Due
 fresh:∀i (h:i<order.length) j (hj:j<i),order[j].Job≠order[i].Job
 sorted:∀i (h:i<order.length) j (hj:j<i),order[j].Day<=order[i].Day
 after:∀i (h:i<order.length),∀a∈(jobAt p order[i].Job).After,∃j,∃(hj:j<i),order[j].Job=a
theorem bWm{p:aI}{pre:List aG}{s:aG}(h:zZ p pre s=true):Seat p s:=by
 simp only[zZ,Bool.and_eq_true] at h;obtain⟨⟨⟨⟨⟨h1,h2⟩,h3⟩,h4⟩,h5⟩,h6⟩:=h;have hj:=aQi h1;have hc:=aQi h4
 simp[wi] at h3
 exact⟨hj,h3.1,by omega,hc.1,hc.2⟩
theorem aFk{p:aI}{pre:List aG}{s:aG}(h:zZ p pre s=true):s.Day<=(jobAt p s.Job).Due/\(∀o∈pre,o.Job≠s.Job)/\(∀o∈pre,o.Day<=s.Day)/\∀a∈(jobAt p s.Job).After,∃o∈pre,o.Job=a:=by
 simp only[zZ,Bool.and_eq_true,Bool.not_eq_true',List.any_eq_false,List.all_eq_true,decide_eq_true_eq,List.any_eq_true] at h;obtain⟨⟨⟨⟨⟨h1,h2⟩,h3⟩,h4⟩,h5⟩,h6⟩:=h
 simp[wi] at h3
 exact⟨by omega,h2,h5,h6⟩
theorem Ord_of{p:aI}{order:List aG}(h:zS p order=true):Ord p order/\order.length=p.Jobs.length:=by
 simp only[zS,Bool.and_eq_true,dL,decide_eq_true_eq] at h;have hm:∀i (hi:i<order.length),zZ p (order.take i) order[i]=true:=by
  intro i hi;have:=h.1 i hi
  simpa[List.getD,hi] using this
 refine⟨⟨λi hi=>bWm (hm i hi),λi hi=>(aFk (hm i hi)).1,λi hi j hj=>(aFk (hm i hi)).2.1 _ (by rw[List.mem_take_iff_getElem];exact⟨j,by omega,rfl⟩),
  λi hi j hj=>(aFk (hm i hi)).2.2.1 _ (by rw[List.mem_take_iff_getElem];exact⟨j,by omega,rfl⟩),λi hi a ha=>?_⟩,h.2⟩
 obtain⟨o,ho,e⟩:=(aFk (hm i hi)).2.2.2 a ha;rw[List.mem_take_iff_getElem] at ho;obtain⟨j,hj,rfl⟩:=ho;exact⟨j,by omega,e⟩
def dB(p:aI)(order:List aG)(takes:List Int):Nat->List Int×List Int
 |0=>(List.replicate p.Jobs.length 0,List.replicate p.Jobs.length 0)
 | i+1=>
  let s:=order.getD i default
  let r:=dB p order takes i
  let b:=eG p (order.take i) r.2 s
  (r.1.set s.Job.toNat b,r.2.set s.Job.toNat (b+cH takes s.Job))
theorem qQ{p:aI}{order:List aG}{takes:List Int}:∀i,(dB p order takes i).1.length=p.Jobs.length/\(dB p order takes i).2.length=p.Jobs.length
 |0=>by simp[dB]
 | i+1=>by
  have:=qQ (p:=p) (order:=order) (takes:=takes) i
  simp[dB,this]
structure aUj(p:aI)(takes:List Int):Prop where
 len:takes.length=p.Jobs.length
 one:∀j,isJ p j->1<=cH takes j
 max:∀j,isJ p j->cH takes j<=600
theorem aFn{p:aI}(hp:VP p){order:List aG}(ho:∀i (h:i<order.length),Seat p order[i]){takes:List Int}(ht:aUj p takes):∀i,i<=order.length->∀j:Nat, 
  0<=(dB p order takes i).2.getD j 0/\(dB p order takes i).2.getD j 0<=1200*i+1440
 | 0,_,j=>by
  simp only[dB,List.getD,List.getElem?_replicate]
  split<;>simp
 | i+1,hi,j=>by
  have ih:=aFn hp ho ht i (by omega);have hs:=ho i (by omega);have e1:order.getD i default=order[i]:=by simp[List.getD,show i<order.length by omega]
  have hrest:=hp.rest;have hb:eG p (order.take i) (dB p order takes i).2 order[i]<=1200*i+1440+600:=by
   rw[wY];have h1:=hs.hours hp;have h2:=(hs.job.vj hp).early;refine⟨by omega,by omega,λo _ _=>⟨λ_=>?_,λ_=>?_⟩⟩
   ·have:=ih o.Job.toNat;simp only[cH];omega
   ·have:=ih o.Job.toNat;simp only[cH];omega
  have hb0:0<=eG p (order.take i) (dB p order takes i).2 order[i]:=by
   have h:=wY.1 (Int.le_refl (eG p (order.take i) (dB p order takes i).2 order[i]));have:=(hs.job.vj hp).early0;have:=h.2.1
   omega
  have t1:=ht.one _ hs.job;have t2:=ht.max _ hs.job;simp only[dB,e1]
  by_cases hj:order[i].Job.toNat=j
  ·subst hj;have hl:=(qQ (p:=p) (order:=order) (takes:=takes) i).2;simp only[List.getD,List.getElem?_set_self (show order[i].Job.toNat<(dB p order takes i).2.length by rw[hl];exact hs.job.2),Option.getD_some]
   constructor
   ·omega
   ·push_cast;omega
  ·have:=ih j;simp only[List.getD,List.getElem?_set_ne hj] at this|-
   constructor
   ·omega
   ·push_cast;omega
end Go.Am.Py
end
section
namespace Go.Am.Py
theorem aAh{l:List Int}{p:aI}(hl:l.length=p.Jobs.length){j:Int}(hj:isJ p j):idx l j=some (cH l j):=by
 have h:j.toNat<l.length:=by rw[hl];exact hj.2
 rw[pW hj.1 h];exact congrArg some (aW h _).symm
theorem yS{l:List Int}{p:aI}(hl:l.length=p.Jobs.length){j:Int}(hj:isJ p j)(v:Int):cH (l.set j.toNat v) j=v:=by
 have h:j.toNat<l.length:=by rw[hl];exact hj.2
 simp[cH,List.getD,h]
theorem aBe{l:List Int}{i j:Int}(hi:0<=i)(hj:0<=j)(h:i≠j)(v:Int):cH (l.set i.toNat v) j=cH l j:=by
 have:i.toNat≠j.toNat:=by omega
 simp[cH,List.getD,List.getElem?_set_ne this]
theorem A3.at_set(a:A3 Int)(i j v:Int)(hi:0<=i/\i<3)(hj:0<=j/\j<3):(a.set i v).at j=if i=j then v else a.at j:=by
 have h1:i=0\/i=1\/i=2:=by omega
 have h2:j=0\/j=1\/j=2:=by omega
 rcases h1 with rfl|rfl|rfl<;>rcases h2 with rfl|rfl|rfl<;>simp[A3.set,A3.at]
theorem A6.at_set(a:A6 Int)(i j v:Int)(hi:0<=i/\i<6)(hj:0<=j/\j<6):(a.set i v).at j=if i=j then v else a.at j:=by
 have h1:i=0\/i=1\/i=2\/i=3\/i=4\/i=5:=by omega
 have h2:j=0\/j=1\/j=2\/j=3\/j=4\/j=5:=by omega
 rcases h1 with rfl|rfl|rfl|rfl|rfl|rfl<;>rcases h2 with rfl|rfl|rfl|rfl|rfl|rfl<;>simp[A6.set,A6.at]
theorem aPd{n:Nat}{i:Int}(h:0<=i/\i<n):inb n i=some ():=by simp[inb,h]
structure Opened(p:aI)(n:Int)(d:bW):Prop where
 number:d.number=n
 free:∀c:Int,0<=c->c.toNat<oV p->d.free.at c=(nZ p n c).Low
 ends:∀k:Int,d.ends.at k=0
theorem bZq(k:Int):(A6.mk 0 0 0 0 0 0:A6 Int).at k=0:=by
 unfold A6.at
 repeat' split
 all_goals rfl
def cI(L:List aX)(i:Nat):A3 Int:=(List.range i).foldl (λ(a:A3 Int) (c:Nat)=>a.set (c:Int) (L.getD c default).Low) ⟨0,0,0⟩
theorem aWe(L:List aX)(i:Nat):cI L (i+1)=(cI L i).set (i:Int) (L.getD i default).Low:=by
 simp only[cI,List.range_succ,List.foldl_append,List.foldl_cons,List.foldl_nil]
theorem bSn(L:List aX):∀m:Nat,m<=3->∀c:Nat,c<m->(cI L m).at (c:Int)=(L.getD c default).Low:=by
 intro m
 induction m with
 |zero=>intro _ c hc;omega
 | succ m ih=>
  intro hm c hc;rw[aWe,A3.at_set _ _ _ _ ⟨by omega,by omega⟩ ⟨by omega,by omega⟩]
  by_cases h:m=c
  ·simp[h]
  ·rw[if_neg (by omega)];exact ih (by omega) c (by omega)
theorem aBs{p:aI}(hp:VP p){n:Int}(h0:0<=n)(h1:n.toNat<p.Days.length):∃d,sP p n=some d/\Opened p n d:=by
 have hc3:=hp.nc3;have hlen:(p.Days.getD n.toNat []).length=oV p:=by
  have:=hp.nc _ h1;rw[aW h1];exact this
 have hcl:(p.Days.getD n.toNat []).length<=3:=by rw[hlen];exact hc3
 generalize hL:p.Days.getD n.toNat []=L at hlen hcl
 have main:∀o4,pL L L.length o4 BIG 0 (bW.mk n (A3.mk 0 0 0) (A6.mk 0 0 0 0 0 0))=some ⟨n,cI L L.length,⟨0,0,0,0,0,0⟩⟩:=by
  intro o4;have main:=eH (λk i=>pL L L.length o4 k i ⟨n,cI L i.toNat,⟨0,0,0,0,0,0⟩⟩) L.length (λ_=>true) none (some ⟨n,cI L L.length,⟨0,0,0,0,0,0⟩⟩) ?_ ?_ BIG (bI (by omega))
  ·have e:(List.range L.length).all (λ_=>true)=true:=by simp
   rw[e] at main;exact main
  ·intro k i hi;simp only[pL,Int.toNat_natCast,aY hi,Option.bind_some,aZ (show i<9223372036854775807 by omega),Int.ofNat_lt,hi,decide_true,cond_true,aPd (n:=3) (i:=(i:Int)) ⟨by omega,by omega⟩,aWe,aW hi]
  ·intro k
   simp[pL,aHk]
 refine⟨⟨n,cI L L.length,⟨0,0,0,0,0,0⟩⟩,?_,rfl,?_,λk=>bZq k⟩
 ·unfold sP;rw[pW h0 h1,<-aW h1 [],hL];simp only[Option.bind_some];exact main _
 ·intro c hc0 hc1;have:=bSn L L.length hcl c.toNat (by rw[hlen];exact hc1);have hcc:((c.toNat:Nat):Int)=c:=by omega
  rw[hcc] at this;rw[nZ,hL];exact this
end Go.Am.Py
end
section
namespace Go.Am.Py
structure DayP(p:aI)(pre:List aG)(ends:List Int)(d:bW):Prop where
 free:∀c:Int,0<=c->c.toNat<oV p->∀x,d.free.at c<=x↔(nZ p d.number c).Low<=x/\∀o∈pre,o.Day=d.number->o.Court=c->cH ends o.Job<=x
 ends1:∀k:Int,0<=k/\k<6->0<d.ends.at k->∃o∈pre,o.Day=d.number/\o.Job=k
 ends2:∀o∈pre,o.Day=d.number->d.ends.at o.Job=cH ends o.Job/\0<cH ends o.Job
theorem Opened.dayP{p:aI}{n:Int}{d:bW}(h:Opened p n d){pre:List aG}(hn:∀o∈pre,o.Day≠n)(ends:List Int):DayP p pre ends d:=by
 have e:=h.number;refine⟨λc h0 h1 x=>?_,λk _ hk=>?_,λo ho hd=>?_⟩
 ·rw[h.free c h0 h1,e];exact⟨λhx=>⟨hx,λo ho hd=>absurd hd (hn o ho)⟩,λhx=>hx.1⟩
 ·rw[h.ends k] at hk;omega
 ·rw[e] at hd;exact absurd hd (hn o ho)
theorem isJ.six{p:aI}(hp:VP p){a:Int}(h:isJ p a):0<=a/\a<6:=by
 have:=hp.nj;have:=h.2;exact⟨h.1,by omega⟩
theorem Seat.three{p:aI}(hp:VP p){s:aG}(h:Seat p s):0<=s.Court/\s.Court<3:=by
 have h1:=hp.nc3;have h2:=h.court;unfold oV at h2;exact⟨h.court0,by omega⟩
def gP(p:aI)(d:bW)(s:aG)(b:Int)(k:Nat):Int:=bif decide (0<d.ends.at (k:Int))&&sS p s.Job k then max b (d.ends.at (k:Int)+p.Rest) else b
theorem bSs{p:aI}{d:bW}{s:aG}{b:Int}{k:Nat}{x:Int}:gP p d s b k<=x↔b<=x/\(0<d.ends.at (k:Int)->sS p s.Job k=true->d.ends.at (k:Int)+p.Rest<=x):=by
 unfold gP
 by_cases h1:0<d.ends.at (k:Int)<;>cases h2:sS p s.Job k<;>simp[h1,Int.max_le]
theorem aRr{p:aI}(hp:VP p){pre:List aG}(hpre:∀o∈pre,isJ p o.Job){ends:List Int}(hb:∀o∈pre,0<=cH ends o.Job/\cH ends o.Job<=1000000000000){d:bW}(hd:DayP p pre ends d)
  {s:aG}(hs:Seat p s)(hday:s.Day=d.number){len:Int}(hlen:0<=len/\len<=1000000):
  lA d p s len=some (eG p pre ends s,eG p pre ends s+len,⟨d.number,d.free.set s.Court (eG p pre ends s+len),d.ends.set s.Job (eG p pre ends s+len)⟩):=by
 have hrest:=hp.rest;have h3:=hs.three hp;have h6:=hs.job.six hp
 let b0:=max (d.free.at s.Court) (jobAt p s.Job).Earliest
 let σ:Nat->Int:=λi=>(List.range i).foldl (gP p d s) b0
 have hσ:∀i x,σ i<=x↔b0<=x/\∀k∈List.range i,0<d.ends.at ((k:Nat):Int)->sS p s.Job k=true->d.ends.at (k:Int)+p.Rest<=x:=λi x=>
  aTf (f:=gP p d s) (C:=λk x=>0<d.ends.at ((k:Nat):Int)->sS p s.Job k=true->d.ends.at (k:Int)+p.Rest<=x) (λb o x=>bSs) (List.range i) b0 x
 have hat:∀k:Nat,k<6->0<d.ends.at (k:Int)->isJ p (k:Int)/\d.ends.at (k:Int)<=1000000000000:=by
  intro k hk h;obtain⟨o,ho,h1,h2⟩:=hd.ends1 k ⟨by omega,by omega⟩ h;have:=hd.ends2 o ho h1;rw[h2] at this;have hbo:=hb o ho;rw[h2] at hbo;refine⟨h2▸hpre o ho,by omega⟩
 have eqb:σ 6=eG p pre ends s:=by
  refine bRd (C:=aXk p pre ends s) (λx=>?_) (λx=>wY);rw[hσ];simp only[b0,Int.max_le,List.mem_range];rw[hd.free _ hs.court0 hs.court];unfold aXk;rw[hday]
  constructor
  ·rintro⟨⟨⟨h1,h2⟩,h3⟩,h4⟩;refine⟨h1,h3,λo ho hod=>⟨λhc=>h2 o ho hod hc,λhsh=>?_⟩⟩;obtain⟨e1,e2⟩:=hd.ends2 o ho hod;have hj6:=(hpre o ho).six hp;have hk:=h4 o.Job.toNat (by omega);have hcast:((o.Job.toNat:Nat):Int)=o.Job:=by omega
   rw[hcast,e1] at hk;exact hk e2 hsh
  ·rintro⟨h1,h3,h4⟩;refine⟨⟨⟨h1,λo ho hod hc=>(h4 o ho hod).1 hc⟩,h3⟩,λk hk h0 hsh=>?_⟩;obtain⟨o,ho,g1,g2⟩:=hd.ends1 k ⟨by omega,by omega⟩ h0;have e1:=(hd.ends2 o ho g1).1;rw[g2] at e1;rw[e1,<-g2];exact(h4 o ho g1).2 (g2▸hsh)
 have hbig:eG p pre ends s<=1000000100000/\0<=eG p pre ends s:=by
  constructor
  ·rw[wY];have h1:=hs.hours hp;have h2:=(hs.job.vj hp).early;refine⟨by omega,by omega,λo ho _=>⟨λ_=>?_,λ_=>?_⟩⟩
   ·have:=hb o ho;omega
   ·have:=hb o ho;omega
  ·have h:=(wY.1 (Int.le_refl (eG p pre ends s))).2.1;have:=(hs.job.vj hp).early0
   omega
 unfold lA;simp only[aPd (n:=3) (i:=s.Court) ⟨h3.1,by have:=h3.2;omega⟩,hs.job.idx,Option.bind_some];have main:=eH (λk i=>kT len d.ends d p s k (σ i.toNat) i) 6 (λ_=>true) none (vF len (σ 6) d s) ?_ ?_ BIG (bI (by omega))
 ·have e:(List.range 6).all (λ_=>true)=true:=by simp
  rw[e] at main;simp only[Int.toNat_zero,cond_true] at main;have e0:σ 0=max (d.free.at s.Court) (jobAt p s.Job).Earliest:=rfl;rw[e0] at main;rw[main,eqb];unfold vF;simp only[aPd (n:=3) (i:=s.Court) ⟨h3.1,by have:=h3.2;omega⟩,aPd (n:=6) (i:=s.Job) ⟨h6.1,by have:=h6.2;omega⟩,Option.bind_some,cD (show-9223372036854775808<=eG p pre ends s+len by omega) (show eG p pre ends s+len<=9223372036854775807 by omega)]
 ·intro k i hi;have e:σ (i+1)=gP p d s (σ i) i:=by
   simp only[σ,List.range_succ,List.foldl_append,List.foldl_cons,List.foldl_nil]
  have hi':decide ((i:Int)<6)=true:=by simp;omega
  simp only[kT,Int.toNat_natCast,hi',cond_true,aPd (n:=6) (i:=(i:Int)) ⟨by omega,by omega⟩,Option.bind_some,aZ (show i<9223372036854775807 by omega),e];unfold gP
  by_cases h0:0<d.ends.at (i:Int)
  ·obtain⟨hj,hle⟩:=hat i hi h0;simp only[h0,decide_true,cond_true,bBu hp hs.job hj,Option.bind_some,Bool.true_and,cD (show-9223372036854775808<=d.ends.at (i:Int)+p.Rest by omega) (show d.ends.at (i:Int)+p.Rest<=9223372036854775807 by omega)];cases sS p s.Job i<;>rfl
  ·simp[h0]
 ·intro k
  simp[kT]
theorem DayP.next{p:aI}(hp:VP p){pre:List aG}{ends:List Int}(hel:ends.length=p.Jobs.length){d:bW}(hd:DayP p pre ends d)(hpre:∀o∈pre,Seat p o){s:aG}(hs:Seat p s)(hday:s.Day=d.number)
  (hne:∀o∈pre,o.Job≠s.Job){len:Int}(hlen:1<=len):
  DayP p (pre++[s]) (ends.set s.Job.toNat (eG p pre ends s+len)) ⟨d.number,d.free.set s.Court (eG p pre ends s+len),d.ends.set s.Job (eG p pre ends s+len)⟩:=by
 have h3:=hs.three hp;have h6:=hs.job.six hp;have hold:∀o∈pre,cH (ends.set s.Job.toNat (eG p pre ends s+len)) o.Job=cH ends o.Job:=λo ho=>aBe hs.job.1 (hpre o ho).job.1 (Ne.symm (hne o ho)) _;have hnew:cH (ends.set s.Job.toNat (eG p pre ends s+len)) s.Job=eG p pre ends s+len:=yS hel hs.job _;have hw:=wY.1 (Int.le_refl (eG p pre ends s));have hpos:0<=eG p pre ends s:=by
  have:=(hs.job.vj hp).early0;have:=hw.2.1
  omega
 refine⟨λc h0 h1 x=>?_,λk hk h=>?_,λo ho hod=>?_⟩
 ·have hc3:0<=c/\c<3:=by have:=hp.nc3;unfold oV at h1;exact⟨h0,by omega⟩
  simp only;rw[A3.at_set _ _ _ _ h3 hc3]
  by_cases hc:s.Court=c
  ·rw [if_pos hc]
   constructor
   ·intro hx;refine⟨?_,λo ho hod hoc=>?_⟩
    ·have:=hw.1;rw[hday,hc] at this
     omega
    ·rcases List.mem_append.1 ho with ho|ho
     ·rw[hold o ho];have:=(hw.2.2 o ho (by rw[hday];exact hod)).1 (by rw[hc];exact hoc)
      omega
     ·simp at ho;subst ho
      rw[hnew];exact hx
   ·intro h;have:=h.2 s (by simp) hday hc
    rwa[hnew] at this
  ·rw [if_neg hc,hd.free c h0 h1]
   constructor
   ·rintro⟨g1,g2⟩;refine⟨g1,λo ho hod hoc=>?_⟩
    rcases List.mem_append.1 ho with ho|ho
    ·rw[hold o ho];exact g2 o ho hod hoc
    ·simp at ho;subst ho
     exact absurd hoc hc
   ·rintro⟨g1,g2⟩;refine⟨g1,λo ho hod hoc=>?_⟩;have:=g2 o (List.mem_append.2 (.inl ho)) hod hoc
    rwa[hold o ho] at this
 ·simp only at h;rw[A6.at_set _ _ _ _ h6 hk] at h
  by_cases hj:s.Job=k
  ·exact⟨s,by simp,hday,hj⟩
  ·rw[if_neg hj] at h;obtain⟨o,ho,g1,g2⟩:=hd.ends1 k hk h;exact⟨o,List.mem_append.2 (.inl ho),g1,g2⟩
 ·simp only at hod|-
  rcases List.mem_append.1 ho with ho|ho
  ·rw[A6.at_set _ _ _ _ h6 ((hpre o ho).job.six hp),if_neg (Ne.symm (hne o ho)),hold o ho];exact hd.ends2 o ho hod
  ·simp at ho;subst ho
   rw[A6.at_set _ _ _ _ h6 h6,if_pos rfl,hnew];exact⟨rfl,by omega⟩
theorem bGf{p:aI}(hp:VP p){order:List aG}(ho:Ord p order)(hl:order.length<=1000000){f:aX->Option Int}{takes:List Int}(ht:aUj p takes)(hf:∀j,isJ p j->f (jobAt p j).Length=some (cH takes j)):
  qM p order f=some (dB p order takes order.length):=by
 have hnj:=hp.nj;have hz:mk 8 (p.Jobs.length:Int) (0:Int)=some (List.replicate p.Jobs.length 0):=bOi (by omega);have hseat:=ho.seat;unfold qM;obtain⟨d0,hd0,od0⟩:=aBs hp (Int.le_refl 0) (by simpa using hp.nd0);simp only[hz,hd0,Option.bind_some];have main:=dD (S:=bW×List Int×List Int) (λk i s=>lR f order order.length p k i s.1 s.2.1 s.2.2) order.length (λ_ _=>some (dB p order takes order.length))
  (λi s=>s.2=dB p order takes i/\(0<=s.1.number/\s.1.number.toNat<p.Days.length)/\(∀o∈order.take i,o.Day<=s.1.number)/\(i=0\/∃o∈order.take i,o.Day=s.1.number)/\DayP p (order.take i) (dB p order takes i).2 s.1) ?_ ?_ BIG
  (d0,List.replicate p.Jobs.length 0,List.replicate p.Jobs.length 0) (bI (by omega)) ?_
 ·exact main
 ·rintro k i ⟨d,b,e⟩ hi ⟨hbe,hnum,hle,hlast,hd⟩ ih;simp only at hbe hnum hle hlast hd ih|-;obtain⟨rfl,rfl⟩:b=(dB p order takes i).1/\e=(dB p order takes i).2:=by rw[<-hbe];exact⟨rfl,rfl⟩
  have hs:=hseat i hi;have hlen:=qQ (p:=p) (order:=order) (takes:=takes) i;have hbd:=aFn hp hseat ht i (by omega);have e1:order.getD i default=order[i]:=by simp[List.getD,hi]
  have hpreS:∀o∈order.take i,Seat p o:=λo h=>by
   rw[List.mem_take_iff_getElem] at h;obtain⟨j,hj,rfl⟩:=h;exact hseat j (by omega)
  have hne:∀o∈order.take i,o.Job≠order[i].Job:=λo h=>by
   rw[List.mem_take_iff_getElem] at h;obtain⟨j,hj,rfl⟩:=h;exact ho.fresh i hi j (by omega)
  have hsort:∀o∈order.take i,o.Day<=order[i].Day:=λo h=>by
   rw[List.mem_take_iff_getElem] at h;obtain⟨j,hj,rfl⟩:=h;exact ho.sorted i hi j (by omega)
  have hb:∀o∈order.take i,0<=cH (dB p order takes i).2 o.Job/\cH (dB p order takes i).2 o.Job<=1000000000000:=λo _=>by
   have:=hbd o.Job.toNat;simp only[cH]
   omega
  have t1:=ht.one _ hs.job;have t2:=ht.max _ hs.job;have step:∀d':bW,d'.number=order[i].Day->DayP p (order.take i) (dB p order takes i).2 d'-> 
    ((f (jobAt p order[i].Job).Length).bind λr19=>(lA d' p order[i] r19).bind λr20=>(idx (dB p order takes i).1 order[i].Job).bind λx21=>(idx (dB p order takes i).2 order[i].Job).bind λx22=>
     (lR f order order.length p k) ((i+1:Nat):Int) r20.2.2 ((dB p order takes i).1.set order[i].Job.toNat r20.1) ((dB p order takes i).2.set order[i].Job.toNat r20.2.1))=some (dB p order takes order.length):=by
   intro d' hn' hd';rw[hf _ hs.job];simp only[Option.bind_some];rw[aRr hp (λo h=>(hpreS o h).job) hb hd' hs hn'.symm ⟨by omega,by omega⟩];simp only[Option.bind_some,aAh hlen.1 hs.job,aAh hlen.2 hs.job];refine ih (⟨d'.number,d'.free.set order[i].Court (eG p (order.take i) (dB p order takes i).2 order[i]+cH takes order[i].Job),d'.ends.set order[i].Job (eG p (order.take i) (dB p order takes i).2 order[i]+cH takes order[i].Job)⟩,_,_) ⟨?_,?_,?_,?_,?_⟩
   ·simp only[dB,e1]
   ·simp only[hn'];exact⟨hs.day0,hs.day⟩
   ·intro o h;rw[List.take_succ_eq_append_getElem hi] at h;simp only[hn']
    rcases List.mem_append.1 h with h|h
    ·exact hsort o h
    ·simp at h;rw[h];exact Int.le_refl _
   ·right
    rw[List.take_succ_eq_append_getElem hi];exact⟨order[i],List.mem_append.2 (.inr (List.mem_singleton.2 rfl)),hn'.symm⟩
   ·rw[List.take_succ_eq_append_getElem hi];simp only[dB,e1];exact hd'.next hp hlen.2 hpreS hs hn'.symm hne t1
  simp only[lR,aY hi,Option.bind_some,aZ (show i<9223372036854775807 by omega),Int.ofNat_lt,hi,decide_true,cond_true,hs.job.idx]
  by_cases hday:order[i].Day=d.number
  ·simp only[hday,decide_true,Bool.not_true,cond_false];exact step d hday.symm hd
  ·obtain⟨d',hd',od'⟩:=aBs hp hs.day0 hs.day;simp only[hday,decide_false,Bool.not_false,cond_true,hd',Option.bind_some];refine step d' od'.number (od'.dayP (λo h=>?_) _)
   rcases hlast with rfl|⟨o',ho',e'⟩
   ·simp at h
   ·have g1:=hle o h;have g2:=hsort o' ho'
    omega
 ·rintro k ⟨d,b,e⟩ ⟨hbe,_⟩;simp only at hbe|-;simp only[lR,aEx,Int.lt_irrefl,decide_false,cond_false];rw[<-hbe]
 ·refine⟨rfl,?_,by simp,.inl rfl,od0.dayP (by simp) _⟩;rw[od0.number];exact⟨Int.le_refl 0,by simpa using hp.nd0⟩
end Go.Am.Py
end
section
namespace Go.Am.Py
def aPi(p:aI):List Int:=p.Jobs.map (·.Length.Low)
def fV(p:aI):List Int:=p.Jobs.map (·.Length.High)
theorem sM{p:aI}(g:bE->Int){j:Int}(hj:isJ p j):cH (p.Jobs.map g) j=g (jobAt p j):=by
 simp[cH,jobAt,List.getD,hj.2]
theorem bBh{p:aI}(hp:VP p):aUj p (aPi p):=
 ⟨by simp[aPi],λj hj=>by rw[aPi,sM _ hj];exact(hj.vj hp).low,λj hj=>by rw[aPi,sM _ hj];have:=(hj.vj hp).le;have:=(hj.vj hp).high;omega⟩
theorem aNc{p:aI}(hp:VP p):aUj p (fV p):=
 ⟨by simp[fV],λj hj=>by rw[fV,sM _ hj];have:=(hj.vj hp).le;have:=(hj.vj hp).low;omega,λj hj=>by rw[fV,sM _ hj];exact(hj.vj hp).high⟩
def aAc(p:aI)(order:List aG):List Int×List Int:=dB p order (aPi p) order.length
def zB(p:aI)(order:List aG):List Int×List Int:=dB p order (fV p) order.length
theorem bPs{p:aI}(hp:VP p){order:List aG}(ho:Ord p order)(hl:order.length<=1000000):qM p order (λy=>vP y)=some (aAc p order):=
 bGf hp ho hl (bBh hp) λj hj=>by simp[vP,aPi,sM _ hj]
theorem bMj{p:aI}(hp:VP p){order:List aG}(ho:Ord p order)(hl:order.length<=1000000):qM p order (λy=>uE y)=some (zB p order):=
 bGf hp ho hl (aNc hp) λj hj=>by simp[uE,fV,sM _ hj]
def spansOf(p:aI)(a c:List Int):List aX:=(List.range p.Jobs.length).map λ(j:Nat)=>aX.mk (cH a j) (cH c j)
theorem bBt{p:aI}(hp:VP p)(hv:valid p=true){order:List aG}(hl:order.length<=1000000)(ho:zS p order=true):
  mY p order=some (spansOf p (aAc p order).1 (zB p order).1,spansOf p (aAc p order).2 (zB p order).2,0):=by
 have hord:=(Ord_of ho).1;have hnj:=hp.nj;have l1:=qQ (p:=p) (order:=order) (takes:=aPi p) order.length;have l2:=qQ (p:=p) (order:=order) (takes:=fV p) order.length;unfold mY;simp only[play_Check_eq p hp.small,hv,aHj hp order hl,ho,Option.bind_some,bPs hp hord hl,bMj hp hord hl,cond_true,decide_true,Bool.not_true,cond_false]
 generalize hA:aAc p order=A
 generalize hC:zB p order=C
 have l1':A.1.length=p.Jobs.length/\A.2.length=p.Jobs.length:=by rw[<-hA];exact l1
 have l2':C.1.length=p.Jobs.length/\C.2.length=p.Jobs.length:=by rw[<-hC];exact l2
 let σ:List Int->List Int->Nat->List aX:=λa c i=>(List.range i).map λ(j:Nat)=>aX.mk (cH a j) (cH c j)
 have main:=eH (λk i=>qE A.1 A.2 C.1 C.2 p.Jobs.length k i (σ A.1 C.1 i.toNat) (σ A.2 C.2 i.toNat)) p.Jobs.length (λ_=>true) none (some (σ A.1 C.1 p.Jobs.length,σ A.2 C.2 p.Jobs.length,0)) ?_ ?_ BIG (bI (by omega))
 ·have e:(List.range p.Jobs.length).all (λ_=>true)=true:=by simp
  rw[e] at main;exact main
 ·intro k i hi;have hj:isJ p (i:Int):=⟨by omega,by simpa using hi⟩;have e1:∀a c,app 16 (σ a c i) [aX.mk (cH a (i:Int)) (cH c (i:Int))]=some (σ a c (i+1)):=by
   intro a c;rw[eE (by simp[σ];omega)]
   simp[σ,List.range_succ]
  simp only[qE,Int.toNat_natCast,Int.ofNat_lt,hi,decide_true,cond_true,aAh l1'.1 hj,aAh l1'.2 hj,aAh l2'.1 hj,aAh l2'.2 hj,Option.bind_some,e1,aZ (show i<9223372036854775807 by omega)]
 ·intro k
  simp[qE,aEw]
def bCa(p:aI)(order:List aG):Bool:=(List.range order.length).all λi=>decide (cH (zB p order).2 (order.getD i default).Job<=(nZ p (order.getD i default).Day (order.getD i default).Court).High)
theorem bBr{l:List Int}{i j:Nat}{v:Int}:(l.set i v).getD j 0=if i=j/\j<l.length then v else l.getD j 0:=by
 by_cases h:i=j
 ·subst h
  by_cases h2:i<l.length
  ·simp[List.getD,h2]
  ·simp[List.getD,h2]
 ·simp[List.getD,List.getElem?_set_ne h,h]
theorem aEl{p:aI}{order:List aG}(ho:Ord p order){t:List Int}{k:Nat}(hk:k<order.length):∀m,k<m->m<=order.length->
  cH (dB p order t m).1 order[k].Job=eG p (order.take k) (dB p order t k).2 order[k]/\cH (dB p order t m).2 order[k].Job=eG p (order.take k) (dB p order t k).2 order[k]+cH t order[k].Job
 |0,h,_=>by omega
 | m+1,h,hm=>by
  have hl:=qQ (p:=p) (order:=order) (takes:=t) m;have e1:order.getD m default=order[m]:=by simp[List.getD,show m<order.length by omega]
  have hs:=ho.seat k hk;have hsm:=ho.seat m (by omega);simp only[dB,e1]
  by_cases hkm:k=m
  ·subst hkm;exact⟨yS hl.1 hs.job _,yS hl.2 hs.job _⟩
  ·have ih:=aEl ho (t:=t) hk m (by omega) (by omega);have hne:=ho.fresh m (by omega) k (by omega);rw[aBe hsm.job.1 hs.job.1 (Ne.symm hne),aBe hsm.job.1 hs.job.1 (Ne.symm hne)];exact ih
theorem bPf{p:aI}{order:List aG}(ho:Ord p order){t:List Int}{i:Nat}(hi:i<order.length):
  aXk p (order.take i) (dB p order t order.length).2 order[i] (cH (dB p order t order.length).1 order[i].Job)/\cH (dB p order t order.length).2 order[i].Job=cH (dB p order t order.length).1 order[i].Job+cH t order[i].Job:=by
 have h:=aEl ho (t:=t) hi order.length hi (Nat.le_refl _);refine⟨?_,by rw[h.1,h.2]⟩;rw[h.1];have hw:=wY.1 (Int.le_refl (eG p (order.take i) (dB p order t i).2 order[i]));refine⟨hw.1,hw.2.1,λo hmem hd=>?_⟩;have hm:=hmem;rw[List.mem_take_iff_getElem] at hm;obtain⟨k,hk,rfl⟩:=hm;have hk':k<i:=by omega
 have h1:=aEl ho (t:=t) (show k<order.length by omega) order.length (by omega) (Nat.le_refl _);have h2:=aEl ho (t:=t) (show k<order.length by omega) i hk' (by omega);rw[h1.2,<-h2.2];exact hw.2.2 _ hmem hd
end Go.Am.Py
end
