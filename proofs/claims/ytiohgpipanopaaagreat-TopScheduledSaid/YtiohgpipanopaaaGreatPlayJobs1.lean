/- Layers 7 and 8, plain: Jobs of the program and of the reference. -/
import Derived.Test.YtiohgpipanopaaaGreatBbDet
namespace Go.Am
theorem aJr(l:List bU)(hl:l.length<=9223372036854775807)(f:bU->Option Bool)(g:bU->Bool)(hf:∀x∈l,f x=some (g x)):gX l f=some (l.any g):=by
 have key:jR l f=some (match l.findIdx? g with|some i=>(i:Int)|none=> -1):=by
  unfold jR;rw[dD (S:=Unit) (λk i _=>eO l f l.length k i) l.length (λi _=>some (match(l.drop i).findIdx? g with|some j=>((i+j:Nat):Int)|none=> -1)) (λ_ _=>True) ?_ ?_ BIG () (bI hl) trivial]
  ·simp
  ·intro k i _ hi _ ih;have:=ih () trivial;simp only[eO,aY hi,Option.bind_some,aZ (show i<9223372036854775807 by omega),Int.ofNat_lt,hi,decide_true,cond_true,this,hf _ (List.getElem_mem hi)];rw[List.drop_eq_getElem_cons hi,List.findIdx?_cons];cases h:g l[i] with
   |true=>simp
   | false=>
    simp only[cond_false,Bool.false_eq_true,if_false];cases List.findIdx? g (List.drop (i+1) l) with
    |none=>rfl
    |some j=>simp;omega
  ·intro k _ _
   simp[eO,nL]
 unfold gX;rw[key];cases h:List.findIdx? g l with
 | none=>
  simp at h
  have:l.any g=false:=by simpa using h
  simp[this]
 | some j=>
  have:l.any g=true:=by
   obtain⟨h1,h2,_⟩:=List.findIdx?_eq_some_iff_getElem.1 h;simp only[List.any_eq_true];exact⟨_,List.getElem_mem h1,h2⟩
  simp[this]
def mI(s:bU):Bool:=wi s.Length.Low 1 600&&wi s.Length.High 1 600&&decide (s.Length.Low<=s.Length.High)&&wi s.Due 0 2
theorem aBr(s:bU):pK s.Length s.Due=some (mI s):=by
 have hw:∀n lo hi,fS n lo hi=some (wi n lo hi):=λn lo hi=>by simp[fS,cW,wi]
 simp only[pK,tC,hw,Option.bind_some,cW,Option.some.injEq,mI];cases wi s.Length.Low 1 600<;>cases wi s.Length.High 1 600<;>cases decide (s.Length.Low<=s.Length.High)<;>cases wi s.Due 0 2<;>rfl
theorem aYs(s:bU):((gC s.Length).bind λr4=>(bif !r4 then(some true) else((cU s.Due 0 2).bind λr6=>some (!r6))))=some (!mI s):=by
 have hw:∀n lo hi,cU n lo hi=some (wi n lo hi):=λn lo hi=>by simp[cU,cW,wi]
 have hl:gC s.Length=some (wi s.Length.Low 1 600&&wi s.Length.High 1 600&&decide (s.Length.Low<=s.Length.High)):=by
  simp only[gC,Option.bind_some,cW,Option.some.injEq];rw[Bool.eq_iff_iff];simp only[Bool.and_eq_true,decide_eq_true_eq,gY]
  omega
 rw[hl,Option.bind_some,hw,mI];cases(wi s.Length.Low 1 600&&wi s.Length.High 1 600&&decide (s.Length.Low<=s.Length.High))<;>simp
def aLi(x b:aN):Bool:=decide (x.Round=w64 (b.Round-1))&&decide (w64 (x.Place.tdiv 2)=b.Place)
def kM(o:List aN)(b:aN)(n:Nat):List Nat:=(List.range n).filter λk=>o[k]?.any (aLi · b)
def aGw(stages:List bU)(o:List aN)(b:aN)(n:Nat):bE:=⟨(stages.getD b.Round.toNat ⟨⟨0,0⟩,0⟩).Length,(kM o b n).map Int.ofNat,[],(stages.getD b.Round.toNat ⟨⟨0,0⟩,0⟩).Due,0⟩
def iQ(stages:List bU)(o:List aN):List bE:=(List.range o.length).map λi=>aGw stages o (o.getD i ⟨0,0,0,0⟩) i
theorem aUk(o:List aN)(b:aN)(n:Nat):(kM o b n).length<=n:=by
 have:=List.length_filter_le (λk=>o[k]?.any (aLi · b)) (List.range n)
 simpa[kM] using this
theorem aRp(o:List aN)(b:aN){n:Nat}(hn:n<o.length):kM o b (n+1)=kM o b n++(if aLi o[n] b=true then [n] else []):=by
 unfold kM;rw[List.range_succ,List.filter_append]
 congr 1
 simp only[List.filter_cons,List.filter_nil,List.getElem?_eq_getElem hn,Option.any_some]
theorem aLc(o o':List aN)(b:aN){n:Nat}(hn:n<=o.length):kM (o++o') b n=kM o b n:=by
 unfold kM;apply List.filter_congr;intro k hk;rw[List.mem_range] at hk;rw[List.getElem?_append_left (by omega)]
theorem bGs(o:List aN)(b:aN){n:Nat}(hn:n<=o.length):kM (o.take n) b n=kM o b n:=by
 have:=aLc (o.take n) (o.drop n) b (n:=n) (by simp;omega);rw[List.take_append_drop] at this;exact this.symm
theorem bAl(stages:List bU)(o:List aN)(b:aN):iQ stages (o++[b])=iQ stages o++[aGw stages o b o.length]:=by
 unfold iQ;rw[List.length_append,List.length_singleton,List.range_succ,List.map_append]
 congr 1
 ·apply List.map_congr_left;intro i hi;rw[List.mem_range] at hi;have e:(o++[b]).getD i ⟨0,0,0,0⟩=o.getD i ⟨0,0,0,0⟩:=by simp[List.getD,List.getElem?_append_left hi]
  rw[e];unfold aGw;rw[aLc _ _ _ (by omega)]
 ·have e:(o++[b]).getD o.length ⟨0,0,0,0⟩=b:=by simp[List.getD]
  simp only[List.map_cons,List.map_nil,e];unfold aGw;rw[aLc _ _ _ (Nat.le_refl _)]
theorem pG(stages:List bU)(o:List aN):(iQ stages o).length=o.length:=by simp[iQ]
def aFl(must:List (List Int))(b:aN):Bool:=decide (mat must b.Round.toNat b.Place.toNat= -2)
def cI(t:aF)(d:List Int)(must:List (List Int)):List aN:=(cB t d must).filter (aFl must)
theorem aMi{t:aF}{d:List Int}{must:List (List Int)}{b:aN}(h:b∈cB t d must):∃r p:Nat,r<t.Rounds.toNat/\p<bS t r/\b=⟨r,p,rS d must r (2*p),rS d must r (2*p+1)⟩:=by
 simp only[cB,List.mem_flatMap,List.mem_range,tD,List.mem_map] at h;obtain⟨r,hr,p,hp,rfl⟩:=h;exact⟨r,p,hr,hp,rfl⟩
theorem bOe{t:aF}(ht:TreeOK t){r p:Nat}(hr:r<t.Rounds.toNat)(hp:p<bS t r):kS t r p=true:=by
 have h1:=ht.r1;simp only[kS,Bool.and_eq_true,gY]
 omega
theorem aUp{t:aF}(ht:TreeOK t){d:List Int}{must:List (List Int)}:(cB t d must).length<=80:=by
 have h1:=aIc ht (d:=d) (must:=must) t.Rounds.toNat;have h5:=ht.r5;unfold cB
 omega
section
variable{t:aF}{l:List aB}{d:List Int}(hg:Good t l d){must:List (List Int)}(hd:cL t l=some (⟨d,must⟩,true))(hM:MustIs t must (fB d (Res l)))
variable{stages:List bU}(hst:(stages.length:Int)=t.Rounds)
include hg hd hM
theorem aRn{b:aN}(hb:b∈cB t d must):eX t l b.Round b.Place=some (bif aFl must b then(0,3) else(mat must b.Round.toNat b.Place.toNat,0)):=by
 obtain⟨r,p,hr,hp,rfl⟩:=aMi hb;have:=aRo hg hd hM (bOe hg.ht hr hp);simp only[aFl,Int.toNat_natCast];rw[this]
 by_cases h:mat must r p= -2
 ·simp[h]
 ·simp[h]
include hst
omit hg hd hM in
theorem aXf{b:aN}(hb:b∈cB t d must):idx stages b.Round=some (stages.getD b.Round.toNat ⟨⟨0,0⟩,0⟩):=by
 obtain⟨r,p,hr,hp,rfl⟩:=aMi hb;have hi:r<stages.length:=by omega
 simp only[Int.toNat_natCast];rw[aY hi,aW hi]
theorem bNu:jP l stages (cB t d must) (cB t d must).length t BIG 0 [] []=yE (iQ stages (cI t d must)) (cI t d must):=by
 have hbl:=aUp hg.ht (d:=d) (must:=must);have:=dD (S:=List bE×List aN) (λk i s=>jP l stages (cB t d must) (cB t d must).length t k i s.1 s.2) (cB t d must).length (λ_ _=>yE (iQ stages (cI t d must)) (cI t d must))
  (λi s=>s.2=((cB t d must).take i).filter (aFl must)/\s.1=iQ stages s.2) ?_ ?_ BIG ([],[]) (bI (by omega)) ⟨by simp,rfl⟩
 ·exact this
 ·rintro k i ⟨jobs,bouts⟩ hi ⟨h1,h2⟩ ih;simp only at h1 h2;subst h2;have hbm:(cB t d must)[i]∈cB t d must:=List.getElem_mem hi;have ht1:(cB t d must).take (i+1)=(cB t d must).take i++[(cB t d must)[i]]:=List.take_succ_eq_append_getElem hi;have hol:bouts.length<=i:=by
   rw[h1];have:=List.length_filter_le (aFl must) ((cB t d must).take i);simp at this;omega
  have hW:=aRn hg hd hM hbm;have hS:=aXf hst hbm;simp only[jP,Int.ofNat_lt,hi,decide_true,cond_true,aY hi,Option.bind_some,uV,hW,hS];cases ho:aFl must (cB t d must)[i] with
  | false=>
   simp only[cond_false,decide_true,cond_true,uB,aZ (show i<9223372036854775807 by omega)];refine ih (_,_) ⟨?_,rfl⟩;rw[ht1,List.filter_append,h1]
   simp[ho]
  | true=>
   simp only[cond_true,show decide ((3:Int)=0)=false by decide,cond_false];have hin:=dD (S:=List Int) (λq j af=>pJ (jP l stages (cB t d must) (cB t d must).length t k) l stages (cB t d must) (cB t d must).length i bouts.length t (iQ stages bouts) bouts (cB t d must)[i] q j af (stages.getD (cB t d must)[i].Round.toNat ⟨⟨0,0⟩,0⟩).Length [] (stages.getD (cB t d must)[i].Round.toNat ⟨⟨0,0⟩,0⟩).Due 0) bouts.length
    (λ_ _=>aBo (jP l stages (cB t d must) (cB t d must).length t k) l stages (cB t d must) (cB t d must).length i t (iQ stages bouts) bouts (cB t d must)[i] ((kM bouts (cB t d must)[i] bouts.length).map Int.ofNat) (stages.getD (cB t d must)[i].Round.toNat ⟨⟨0,0⟩,0⟩).Length [] (stages.getD (cB t d must)[i].Round.toNat ⟨⟨0,0⟩,0⟩).Due 0)
    (λj af=>af=(kM bouts (cB t d must)[i] j).map Int.ofNat) ?_ ?_ BIG [] (bI (by omega)) (by simp[kM])
   ·refine hin.trans ?_;unfold aBo;rw[eE (by rw[pG];simp;omega),Option.bind_some,eE (by simp;omega),Option.bind_some];unfold uB;rw[aZ (show i<9223372036854775807 by omega)];refine ih (_,_) ⟨?_,(bAl stages bouts _).symm⟩;rw[ht1,List.filter_append,h1]
    simp[ho]
   ·rintro q j af hj rfl ih2;have hal:=aUk bouts (cB t d must)[i] j;simp only[pJ,Int.ofNat_lt,hj,decide_true,cond_true,aY hj,Option.bind_some,cW,aZ (show j<9223372036854775807 by omega)];have hs:=aRp bouts (cB t d must)[i] hj;have e:(decide (bouts[j].Round=w64 ((cB t d must)[i].Round-1))&&decide (w64 (bouts[j].Place.tdiv 2)=(cB t d must)[i].Place))=aLi bouts[j] (cB t d must)[i]:=rfl;rw[e];cases hb:aLi bouts[j] (cB t d must)[i] with
    | true=>
     rw[hb,if_pos rfl] at hs;simp only[cond_true];rw[eE (by simp;omega),Option.bind_some];refine ih2 _ ?_;rw[hs,List.map_append];rfl
    | false=>
     rw[hb] at hs;simp only[cond_false];refine ih2 _ ?_;rw[hs];simp
   ·rintro q af rfl;have hlt:decide ((bouts.length:Int)<(bouts.length:Int))=false:=decide_eq_false (by omega);simp only[pJ,hlt,cond_false]
 ·rintro k ⟨jobs,bouts⟩ ⟨h1,h2⟩;simp only at h1 h2;subst h2;rw[List.take_length] at h1;have hlt:decide (((cB t d must).length:Int)<((cB t d must).length:Int))=false:=decide_eq_false (by omega);simp only[jP,hlt,cond_false,h1]
  rfl
omit hst in
theorem bSp:gN l stages (cB t d must) t BIG 0 []=mC stages (cI t d must):=by
 have hbl:=aUp hg.ht (d:=d) (must:=must);have:=dD (S:=List aN) (λk i o=>gN l stages (cB t d must) t k i o) (cB t d must).length (λ_ _=>mC stages (cI t d must))
  (λi o=>o=((cB t d must).take i).filter (aFl must)) ?_ ?_ BIG [] (bI (by omega)) (by simp)
 ·exact this
 ·rintro k i o hi h1 ih;have hbm:(cB t d must)[i]∈cB t d must:=List.getElem_mem hi;have ht1:(cB t d must).take (i+1)=(cB t d must).take i++[(cB t d must)[i]]:=List.take_succ_eq_append_getElem hi;have hol:o.length<=i:=by
   rw[h1];have:=List.length_filter_le (aFl must) ((cB t d must).take i);simp at this;omega
  have hW:=aRn hg hd hM hbm;simp only[gN,Int.ofNat_lt,hi,decide_true,cond_true,aY hi,Option.bind_some,hW,aZ (show i<9223372036854775807 by omega)];cases ho:aFl must (cB t d must)[i] with
  | false=>
   simp only[cond_false,show decide ((0:Int)=3)=false by decide];refine ih _ ?_;rw[ht1,List.filter_append,h1]
   simp[ho]
  | true=>
   simp only[cond_true,decide_true];rw[eE (by simp;omega),Option.bind_some];refine ih _ ?_;rw[ht1,List.filter_append,h1]
   simp[ho]
 ·rintro k o rfl;have hlt:decide (((cB t d must).length:Int)<((cB t d must).length:Int))=false:=decide_eq_false (by omega);simp only[gN,hlt,cond_false,List.take_length]
  rfl
omit hg hd hM in
theorem bRx(h6:(cI t d must).length<=6):eN stages (cI t d must) BIG 0 []=sK (cI t d must) (iQ stages (cI t d must)):=by
 have hsub:∀b∈cI t d must,b∈cB t d must:=λb hb=>(List.mem_filter.1 hb).1
 generalize hoe:cI t d must=o at*
 have:=dD (S:=List bE) (λk i jobs=>eN stages o k i jobs) o.length (λ_ _=>sK o (iQ stages o)) (λi jobs=>jobs=iQ stages (o.take i)) ?_ ?_ BIG [] (bI (by omega)) (by simp[iQ])
 ·exact this
 ·rintro k i jobs hi rfl ih;have hS:=aXf hst (hsub _ (List.getElem_mem hi));have ht1:o.take (i+1)=o.take i++[o[i]]:=List.take_succ_eq_append_getElem hi;have hti:(o.take i).length=i:=by simp;omega
  simp only[eN,Int.ofNat_lt,hi,decide_true,cond_true,aY hi,Option.bind_some,hS];have hin:=dD (S:=List Int) (λq j af=>iX (eN stages o k) stages i o (iQ stages (o.take i)) q j af (stages.getD o[i].Round.toNat ⟨⟨0,0⟩,0⟩).Length [] (stages.getD o[i].Round.toNat ⟨⟨0,0⟩,0⟩).Due 0) i
   (λ_ _=>sL (eN stages o k) stages i o (iQ stages (o.take i)) ((kM o o[i] i).map Int.ofNat) (stages.getD o[i].Round.toNat ⟨⟨0,0⟩,0⟩).Length [] (stages.getD o[i].Round.toNat ⟨⟨0,0⟩,0⟩).Due 0)
   (λj af=>af=(kM o o[i] j).map Int.ofNat) ?_ ?_ BIG [] (bI (by omega)) (by simp[kM])
  ·refine hin.trans ?_;unfold sL;rw[eE (by rw[pG];simp;omega),Option.bind_some];unfold xP;rw[aZ (show i<9223372036854775807 by omega)];refine ih _ ?_;rw[ht1,bAl,hti];unfold aGw;have:kM o o[i] i=kM (o.take i) o[i] i:=(bGs o o[i] (by omega)).symm;rw[this]
  ·rintro q j af hj rfl ih2;have hj':j<o.length:=by omega
   have hal:=aUk o o[i] j;simp only[iX,Int.ofNat_lt,hj,decide_true,cond_true,aY hj',aY hi,Option.bind_some,cW,aZ (show j<9223372036854775807 by omega)];have hs:=aRp o o[i] hj';have e:(decide (o[j].Round=w64 (o[i].Round-1))&&decide (w64 (o[j].Place.tdiv 2)=o[i].Place))=aLi o[j] o[i]:=rfl;rw[e];cases hb:aLi o[j] o[i] with
   | true=>
    rw[hb,if_pos rfl] at hs;simp only[cond_true];rw[eE (by simp;omega),Option.bind_some];refine ih2 _ ?_;rw[hs,List.map_append];rfl
   | false=>
    rw[hb] at hs;simp only[cond_false];refine ih2 _ ?_;rw[hs];simp
  ·rintro q af rfl;have hlt:decide ((i:Int)<(i:Int))=false:=decide_eq_false (by omega);simp only[iX,hlt,cond_false]
 ·rintro k jobs rfl;have hlt:decide ((o.length:Int)<(o.length:Int))=false:=decide_eq_false (by omega);simp only[eN,hlt,cond_false,List.take_length]
end
def aVq(t:aF)(d:List Int)(must:List (List Int))(stages:List bU):List bE×List aN×Int:=
 if(stages.length:Int)=t.Rounds/\stages.all mI=true then(if 6<(cI t d must).length then([],[],2) else(iQ stages (cI t d must),cI t d must,0)) else([],[],82)
theorem aYp{t:aF}{l:List aB}{d:List Int}(hg:Good t l d){must:List (List Int)}(hd:cL t l=some (⟨d,must⟩,true))(hM:MustIs t must (fB d (Res l)))(stages:List bU)(hl:stages.length<=1000):
  uM t l stages=some (aVq t d must stages):=by
 unfold uM wQ;rw[aKy hg hd hM,Option.bind_some];simp only[decide_true,Bool.not_true,cond_false,aVq];rw[aJr stages (by omega) (λy=>zL y) (λs=>!mI s) λx _=>by simp[zL,aBr]]
 by_cases hst:(stages.length:Int)=t.Rounds
 ·simp only[hst,decide_true,Bool.not_true,cond_false,Option.bind_some,true_and];cases ha:stages.all mI with
  | false=>
   have:(stages.any λs=>!mI s)=true:=by rw[List.any_eq_not_all_not];simp only[Bool.not_not,ha,Bool.not_false]
   simp only[this,cond_true,Bool.false_eq_true,if_false]
  | true=>
   have:(stages.any λs=>!mI s)=false:=by rw[List.any_eq_not_all_not];simp only[Bool.not_not,ha,Bool.not_true]
   simp only[this,cond_false,if_true,bNu hg hd hM hst,yE,pG]
   by_cases h6:6<(cI t d must).length
   ·have h6':decide ((6:Int)<((cI t d must).length:Int))=true:=decide_eq_true (by omega);simp only[h6',h6,cond_true,if_true]
   ·have h6':decide ((6:Int)<((cI t d must).length:Int))=false:=decide_eq_false (by omega);simp only[h6',h6,cond_false,if_false]
 ·simp only[hst,decide_false,Bool.not_false,cond_true,Option.bind_some,false_and,if_false]
theorem bMi(t:aF)(l:List aB){stages:List bU}(hl:stages.length<=1000):gM l stages t BIG 0=bif stages.all mI then kQ l stages t else some ([],[],82):=by
 have hall:=eH (λk i=>gM l stages t k i) stages.length (λi=>stages[i]?.any mI) (some ([],[],82)) (kQ l stages t) ?_ ?_ BIG (bI (by omega))
 ·rw [hall];have e:(List.range stages.length).all (λi=>stages[i]?.any mI)=stages.all mI:=by
   rw[Bool.eq_iff_iff,dL,List.all_eq_true]
   constructor
   ·intro h x hx;obtain⟨i,hi,rfl⟩:=List.mem_iff_getElem.1 hx;have:=h i hi
    rwa[List.getElem?_eq_getElem hi] at this
   ·intro h i hi;rw[List.getElem?_eq_getElem hi];exact h _ (List.getElem_mem hi)
  rw[e]
 ·intro k i hi;have hs:=aYs stages[i];simp only[gM,Int.ofNat_lt,hi,decide_true,cond_true,aY hi,Option.bind_some,aZ (show i<9223372036854775807 by omega),List.getElem?_eq_getElem hi,Option.any_some];rw[<-Option.bind_assoc,hs,Option.bind_some];cases mI stages[i]<;>rfl
 ·intro k;have hlt:decide ((stages.length:Int)<(stages.length:Int))=false:=decide_eq_false (by omega);simp only[gM,hlt,cond_false]
theorem bXk{t:aF}{l:List aB}{d:List Int}(hg:Good t l d){must:List (List Int)}(hd:cL t l=some (⟨d,must⟩,true))(hM:MustIs t must (fB d (Res l))){stages:List bU}(hst:(stages.length:Int)=t.Rounds):
  mC stages (cI t d must)=some (if 6<(cI t d must).length then([],[],2) else(iQ stages (cI t d must),cI t d must,0)):=by
 have hj:=bRx (d:=d) (must:=must) hst;unfold mC
 generalize eN stages (cI t d must) BIG 0 []=X at hj|-
 by_cases h6:6<(cI t d must).length
 ·have h6':decide ((6:Int)<((cI t d must).length:Int))=true:=decide_eq_true (by omega);rw[h6',cond_true,if_pos h6]
 ·have h6':decide ((6:Int)<((cI t d must).length:Int))=false:=decide_eq_false (by omega);rw[h6',cond_false,if_neg h6,hj (by omega)]
  rfl
theorem bXj{t:aF}{l:List aB}{d:List Int}(hg:Good t l d){must:List (List Int)}(hd:cL t l=some (⟨d,must⟩,true))(hM:MustIs t must (fB d (Res l))){stages:List bU}(hst:(stages.length:Int)=t.Rounds):
  kQ l stages t=some (if 6<(cI t d must).length then([],[],2) else(iQ stages (cI t d must),cI t d must,0)):=by
 unfold kQ;rw[aKy hg hd hM,Option.bind_some,bSp hg hd hM (stages:=stages),bXk hg hd hM hst]
theorem bBv{t:aF}{l:List aB}{d:List Int}(hg:Good t l d){must:List (List Int)}(hd:cL t l=some (⟨d,must⟩,true))(hM:MustIs t must (fB d (Res l)))(stages:List bU)(hl:stages.length<=1000):
  lL t l stages=some (aVq t d must stages):=by
 have hS:=bMi t l hl;have hK:=λh=>bXj hg hd hM (stages:=stages) h;unfold lL;rw[uO hg,Option.bind_some]
 generalize gM l stages t BIG 0=X at hS|-
 generalize kQ l stages t=Y at hS hK
 unfold aVq
 by_cases hst:(stages.length:Int)=t.Rounds
 ·rw[hS];cases ha:stages.all mI with
  |false=>simp[hst]
  |true=>simp[hst,hK hst]
 ·simp[hst]
end Go.Am
