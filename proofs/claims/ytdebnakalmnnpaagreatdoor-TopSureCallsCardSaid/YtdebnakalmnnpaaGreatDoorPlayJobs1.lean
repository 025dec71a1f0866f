/- Layers 7 and 8, plain: Jobs of the program and of the reference. -/
import Derived.Test.YtdebnakalmnnpaaGreatDoorBbDet
namespace Go.Am
theorem aLl(l:List bP)(hl:l.length<=9223372036854775807)(f:bP->Option Bool)(g:bP->Bool)(hf:∀x∈l,f x=some (g x)):gR l f=some (l.any g):=by
 have key:jK l f=some (match l.findIdx? g with|some i=>(i:Int)|none=> -1):=by
  unfold jK;rw[fX (S:=Unit) (λk i _=>eH l f l.length k i) l.length (λi _=>some (match(l.drop i).findIdx? g with|some j=>((i+j:Nat):Int)|none=> -1)) (λ_ _=>True) ?_ ?_ BIG () (cC hl) trivial]
  ·simp
  ·intro k i _ hi _ ih;have:=ih () trivial;simp only[eH,bE hi,Option.bind_some,bG (show i<9223372036854775807 by omega),Int.ofNat_lt,hi,decide_true,cond_true,this,hf _ (List.getElem_mem hi)];rw[List.drop_eq_getElem_cons hi,List.findIdx?_cons];cases h:g l[i] with
   |true=>simp
   | false=>
    simp only[cond_false,Bool.false_eq_true,if_false];cases List.findIdx? g (List.drop (i+1) l) with
    |none=>rfl
    |some j=>simp;omega
  ·intro k _ _
   simp[eH,oD]
 unfold gR;rw[key];cases h:List.findIdx? g l with
 | none=>
  simp at h
  have:l.any g=false:=by simpa using h
  simp[this]
 | some j=>
  have:l.any g=true:=by
   obtain⟨h1,h2,_⟩:=List.findIdx?_eq_some_iff_getElem.1 h;simp only[List.any_eq_true];exact⟨_,List.getElem_mem h1,h2⟩
  simp[this]
def rY(s:bP):Bool:=wi s.Length.Low 1 600&&wi s.Length.High 1 600&&decide (s.Length.Low<=s.Length.High)&&wi s.Due 0 2
theorem aZq(s:bP):zB s.Length s.Due=some (rY s):=by
 have hw:∀n lo hi,kN n lo hi=some (wi n lo hi):=λn lo hi=>by simp[kN,cB,wi]
 simp only[zB,tW,hw,Option.bind_some,cB,Option.some.injEq,rY];cases wi s.Length.Low 1 600<;>cases wi s.Length.High 1 600<;>cases decide (s.Length.Low<=s.Length.High)<;>cases wi s.Due 0 2<;>rfl
theorem bCl(s:bP):((lE s.Length).bind λr4=>(bif !r4 then(some true) else((fF s.Due 0 2).bind λr6=>some (!r6))))=some (!rY s):=by
 have hw:∀n lo hi,fF n lo hi=some (wi n lo hi):=λn lo hi=>by simp[fF,cB,wi]
 have hl:lE s.Length=some (wi s.Length.Low 1 600&&wi s.Length.High 1 600&&decide (s.Length.Low<=s.Length.High)):=by
  simp only[lE,Option.bind_some,cB,Option.some.injEq];rw[Bool.eq_iff_iff];simp only[Bool.and_eq_true,decide_eq_true_eq,mR]
  omega
 rw[hl,Option.bind_some,hw,rY];cases(wi s.Length.Low 1 600&&wi s.Length.High 1 600&&decide (s.Length.Low<=s.Length.High))<;>simp
def aVg(x b:aE):Bool:=decide (x.Round=w64 (b.Round-1))&&decide (w64 (x.Place.tdiv 2)=b.Place)
def mY(o:List aE)(b:aE)(n:Nat):List Nat:=(List.range n).filter λk=>o[k]?.any (aVg · b)
def bHv(stages:List bP)(o:List aE)(b:aE)(n:Nat):bS:=⟨(stages.getD b.Round.toNat ⟨⟨0,0⟩,0⟩).Length,(mY o b n).map Int.ofNat,[],(stages.getD b.Round.toNat ⟨⟨0,0⟩,0⟩).Due,0⟩
def qW(stages:List bP)(o:List aE):List bS:=(List.range o.length).map λi=>bHv stages o (o.getD i ⟨0,0,0,0⟩) i
theorem aXj(o:List aE)(b:aE)(n:Nat):(mY o b n).length<=n:=by
 have:=List.length_filter_le (λk=>o[k]?.any (aVg · b)) (List.range n)
 simpa[mY] using this
theorem aUp(o:List aE)(b:aE){n:Nat}(hn:n<o.length):mY o b (n+1)=mY o b n++(if aVg o[n] b=true then [n] else []):=by
 unfold mY;rw[List.range_succ,List.filter_append]
 congr 1
 simp only[List.filter_cons,List.filter_nil,List.getElem?_eq_getElem hn,Option.any_some]
theorem aMx(o o':List aE)(b:aE){n:Nat}(hn:n<=o.length):mY (o++o') b n=mY o b n:=by
 unfold mY;apply List.filter_congr;intro k hk;rw[List.mem_range] at hk;rw[List.getElem?_append_left (by omega)]
theorem bKm(o:List aE)(b:aE){n:Nat}(hn:n<=o.length):mY (o.take n) b n=mY o b n:=by
 have:=aMx (o.take n) (o.drop n) b (n:=n) (by simp;omega);rw[List.take_append_drop] at this;exact this.symm
theorem bDr(stages:List bP)(o:List aE)(b:aE):qW stages (o++[b])=qW stages o++[bHv stages o b o.length]:=by
 unfold qW;rw[List.length_append,List.length_singleton,List.range_succ,List.map_append]
 congr 1
 ·apply List.map_congr_left;intro i hi;rw[List.mem_range] at hi;have e:(o++[b]).getD i ⟨0,0,0,0⟩=o.getD i ⟨0,0,0,0⟩:=by simp[List.getD,List.getElem?_append_left hi]
  rw[e];unfold bHv;rw[aMx _ _ _ (by omega)]
 ·have e:(o++[b]).getD o.length ⟨0,0,0,0⟩=b:=by simp[List.getD]
  simp only[List.map_cons,List.map_nil,e];unfold bHv;rw[aMx _ _ _ (Nat.le_refl _)]
theorem aKa(stages:List bP)(o:List aE):(qW stages o).length=o.length:=by simp[qW]
def aHy(must:List (List Int))(b:aE):Bool:=decide (mat must b.Round.toNat b.Place.toNat= -2)
def jM(t:aD)(d:List Int)(must:List (List Int)):List aE:=(bK t d must).filter (aHy must)
theorem aOf{t:aD}{d:List Int}{must:List (List Int)}{b:aE}(h:b∈bK t d must):∃r p:Nat,r<t.Rounds.toNat/\p<bX t r/\b=⟨r,p,jN d must r (2*p),jN d must r (2*p+1)⟩:=by
 simp only[bK,List.mem_flatMap,List.mem_range,tX,List.mem_map] at h;obtain⟨r,hr,p,hp,rfl⟩:=h;exact⟨r,p,hr,hp,rfl⟩
theorem bTg{t:aD}(ht:TreeOK t){r p:Nat}(hr:r<t.Rounds.toNat)(hp:p<bX t r):kH t r p=true:=by
 have h1:=ht.r1;simp only[kH,Bool.and_eq_true,mR]
 omega
theorem aXp{t:aD}(ht:TreeOK t){d:List Int}{must:List (List Int)}:(bK t d must).length<=80:=by
 have h1:=aJr ht (d:=d) (must:=must) t.Rounds.toNat;have h5:=ht.r5;unfold bK
 omega
section
variable{t:aD}{l:List aA}{d:List Int}(hg:Good t l d){must:List (List Int)}(hd:cN t l=some (⟨d,must⟩,true))(hM:MustIs t must (iX d (Res l)))
variable{stages:List bP}(hst:(stages.length:Int)=t.Rounds)
include hg hd hM
theorem aUn{b:aE}(hb:b∈bK t d must):eQ t l b.Round b.Place=some (bif aHy must b then(0,3) else(mat must b.Round.toNat b.Place.toNat,0)):=by
 obtain⟨r,p,hr,hp,rfl⟩:=aOf hb;have:=aUo hg hd hM (bTg hg.ht hr hp);simp only[aHy,Int.toNat_natCast];rw[this]
 by_cases h:mat must r p= -2
 ·simp[h]
 ·simp[h]
include hst
omit hg hd hM in
theorem bAi{b:aE}(hb:b∈bK t d must):idx stages b.Round=some (stages.getD b.Round.toNat ⟨⟨0,0⟩,0⟩):=by
 obtain⟨r,p,hr,hp,rfl⟩:=aOf hb;have hi:r<stages.length:=by omega
 simp only[Int.toNat_natCast];rw[bE hi,bN hi]
theorem bSt:jJ l stages (bK t d must) (bK t d must).length t BIG 0 [] []=zA (qW stages (jM t d must)) (jM t d must):=by
 have hbl:=aXp hg.ht (d:=d) (must:=must);have:=fX (S:=List bS×List aE) (λk i s=>jJ l stages (bK t d must) (bK t d must).length t k i s.1 s.2) (bK t d must).length (λ_ _=>zA (qW stages (jM t d must)) (jM t d must))
  (λi s=>s.2=((bK t d must).take i).filter (aHy must)/\s.1=qW stages s.2) ?_ ?_ BIG ([],[]) (cC (by omega)) ⟨by simp,rfl⟩
 ·exact this
 ·rintro k i ⟨jobs,bouts⟩ hi ⟨h1,h2⟩ ih;simp only at h1 h2;subst h2;have hbm:(bK t d must)[i]∈bK t d must:=List.getElem_mem hi;have ht1:(bK t d must).take (i+1)=(bK t d must).take i++[(bK t d must)[i]]:=List.take_succ_eq_append_getElem hi;have hol:bouts.length<=i:=by
   rw[h1];have:=List.length_filter_le (aHy must) ((bK t d must).take i);simp at this;omega
  have hW:=aUn hg hd hM hbm;have hS:=bAi hst hbm;simp only[jJ,Int.ofNat_lt,hi,decide_true,cond_true,bE hi,Option.bind_some,vY,hW,hS];cases ho:aHy must (bK t d must)[i] with
  | false=>
   simp only[cond_false,decide_true,cond_true,vE,bG (show i<9223372036854775807 by omega)];refine ih (_,_) ⟨?_,rfl⟩;rw[ht1,List.filter_append,h1]
   simp[ho]
  | true=>
   simp only[cond_true,show decide ((3:Int)=0)=false by decide,cond_false];have hin:=fX (S:=List Int) (λq j af=>pP (jJ l stages (bK t d must) (bK t d must).length t k) l stages (bK t d must) (bK t d must).length i bouts.length t (qW stages bouts) bouts (bK t d must)[i] q j af (stages.getD (bK t d must)[i].Round.toNat ⟨⟨0,0⟩,0⟩).Length [] (stages.getD (bK t d must)[i].Round.toNat ⟨⟨0,0⟩,0⟩).Due 0) bouts.length
    (λ_ _=>aDj (jJ l stages (bK t d must) (bK t d must).length t k) l stages (bK t d must) (bK t d must).length i t (qW stages bouts) bouts (bK t d must)[i] ((mY bouts (bK t d must)[i] bouts.length).map Int.ofNat) (stages.getD (bK t d must)[i].Round.toNat ⟨⟨0,0⟩,0⟩).Length [] (stages.getD (bK t d must)[i].Round.toNat ⟨⟨0,0⟩,0⟩).Due 0)
    (λj af=>af=(mY bouts (bK t d must)[i] j).map Int.ofNat) ?_ ?_ BIG [] (cC (by omega)) (by simp[mY])
   ·refine hin.trans ?_;unfold aDj;rw[eL (by rw[aKa];simp;omega),Option.bind_some,eL (by simp;omega),Option.bind_some];unfold vE;rw[bG (show i<9223372036854775807 by omega)];refine ih (_,_) ⟨?_,(bDr stages bouts _).symm⟩;rw[ht1,List.filter_append,h1]
    simp[ho]
   ·rintro q j af hj rfl ih2;have hal:=aXj bouts (bK t d must)[i] j;simp only[pP,Int.ofNat_lt,hj,decide_true,cond_true,bE hj,Option.bind_some,cB,bG (show j<9223372036854775807 by omega)];have hs:=aUp bouts (bK t d must)[i] hj;have e:(decide (bouts[j].Round=w64 ((bK t d must)[i].Round-1))&&decide (w64 (bouts[j].Place.tdiv 2)=(bK t d must)[i].Place))=aVg bouts[j] (bK t d must)[i]:=rfl;rw[e];cases hb:aVg bouts[j] (bK t d must)[i] with
    | true=>
     rw[hb,if_pos rfl] at hs;simp only[cond_true];rw[eL (by simp;omega),Option.bind_some];refine ih2 _ ?_;rw[hs,List.map_append];rfl
    | false=>
     rw[hb] at hs;simp only[cond_false];refine ih2 _ ?_;rw[hs];simp
   ·rintro q af rfl;have hlt:decide ((bouts.length:Int)<(bouts.length:Int))=false:=decide_eq_false (by omega);simp only[pP,hlt,cond_false]
 ·rintro k ⟨jobs,bouts⟩ ⟨h1,h2⟩;simp only at h1 h2;subst h2;rw[List.take_length] at h1;have hlt:decide (((bK t d must).length:Int)<((bK t d must).length:Int))=false:=decide_eq_false (by omega);simp only[jJ,hlt,cond_false,h1]
  rfl
omit hst in
theorem bXd:gE l stages (bK t d must) t BIG 0 []=mM stages (jM t d must):=by
 have hbl:=aXp hg.ht (d:=d) (must:=must);have:=fX (S:=List aE) (λk i o=>gE l stages (bK t d must) t k i o) (bK t d must).length (λ_ _=>mM stages (jM t d must))
  (λi o=>o=((bK t d must).take i).filter (aHy must)) ?_ ?_ BIG [] (cC (by omega)) (by simp)
 ·exact this
 ·rintro k i o hi h1 ih;have hbm:(bK t d must)[i]∈bK t d must:=List.getElem_mem hi;have ht1:(bK t d must).take (i+1)=(bK t d must).take i++[(bK t d must)[i]]:=List.take_succ_eq_append_getElem hi;have hol:o.length<=i:=by
   rw[h1];have:=List.length_filter_le (aHy must) ((bK t d must).take i);simp at this;omega
  have hW:=aUn hg hd hM hbm;simp only[gE,Int.ofNat_lt,hi,decide_true,cond_true,bE hi,Option.bind_some,hW,bG (show i<9223372036854775807 by omega)];cases ho:aHy must (bK t d must)[i] with
  | false=>
   simp only[cond_false,show decide ((0:Int)=3)=false by decide];refine ih _ ?_;rw[ht1,List.filter_append,h1]
   simp[ho]
  | true=>
   simp only[cond_true,decide_true];rw[eL (by simp;omega),Option.bind_some];refine ih _ ?_;rw[ht1,List.filter_append,h1]
   simp[ho]
 ·rintro k o rfl;have hlt:decide (((bK t d must).length:Int)<((bK t d must).length:Int))=false:=decide_eq_false (by omega);simp only[gE,hlt,cond_false,List.take_length]
  rfl
omit hg hd hM in
theorem bWn(h6:(jM t d must).length<=6):eC stages (jM t d must) BIG 0 []=tC (jM t d must) (qW stages (jM t d must)):=by
 have hsub:∀b∈jM t d must,b∈bK t d must:=λb hb=>(List.mem_filter.1 hb).1
 generalize hoe:jM t d must=o at*
 have:=fX (S:=List bS) (λk i jobs=>eC stages o k i jobs) o.length (λ_ _=>tC o (qW stages o)) (λi jobs=>jobs=qW stages (o.take i)) ?_ ?_ BIG [] (cC (by omega)) (by simp[qW])
 ·exact this
 ·rintro k i jobs hi rfl ih;have hS:=bAi hst (hsub _ (List.getElem_mem hi));have ht1:o.take (i+1)=o.take i++[o[i]]:=List.take_succ_eq_append_getElem hi;have hti:(o.take i).length=i:=by simp;omega
  simp only[eC,Int.ofNat_lt,hi,decide_true,cond_true,bE hi,Option.bind_some,hS];have hin:=fX (S:=List Int) (λq j af=>iR (eC stages o k) stages i o (qW stages (o.take i)) q j af (stages.getD o[i].Round.toNat ⟨⟨0,0⟩,0⟩).Length [] (stages.getD o[i].Round.toNat ⟨⟨0,0⟩,0⟩).Due 0) i
   (λ_ _=>tD (eC stages o k) stages i o (qW stages (o.take i)) ((mY o o[i] i).map Int.ofNat) (stages.getD o[i].Round.toNat ⟨⟨0,0⟩,0⟩).Length [] (stages.getD o[i].Round.toNat ⟨⟨0,0⟩,0⟩).Due 0)
   (λj af=>af=(mY o o[i] j).map Int.ofNat) ?_ ?_ BIG [] (cC (by omega)) (by simp[mY])
  ·refine hin.trans ?_;unfold tD;rw[eL (by rw[aKa];simp;omega),Option.bind_some];unfold yM;rw[bG (show i<9223372036854775807 by omega)];refine ih _ ?_;rw[ht1,bDr,hti];unfold bHv;have:mY o o[i] i=mY (o.take i) o[i] i:=(bKm o o[i] (by omega)).symm;rw[this]
  ·rintro q j af hj rfl ih2;have hj':j<o.length:=by omega
   have hal:=aXj o o[i] j;simp only[iR,Int.ofNat_lt,hj,decide_true,cond_true,bE hj',bE hi,Option.bind_some,cB,bG (show j<9223372036854775807 by omega)];have hs:=aUp o o[i] hj';have e:(decide (o[j].Round=w64 (o[i].Round-1))&&decide (w64 (o[j].Place.tdiv 2)=o[i].Place))=aVg o[j] o[i]:=rfl;rw[e];cases hb:aVg o[j] o[i] with
   | true=>
    rw[hb,if_pos rfl] at hs;simp only[cond_true];rw[eL (by simp;omega),Option.bind_some];refine ih2 _ ?_;rw[hs,List.map_append];rfl
   | false=>
    rw[hb] at hs;simp only[cond_false];refine ih2 _ ?_;rw[hs];simp
  ·rintro q af rfl;have hlt:decide ((i:Int)<(i:Int))=false:=decide_eq_false (by omega);simp only[iR,hlt,cond_false]
 ·rintro k jobs rfl;have hlt:decide ((o.length:Int)<(o.length:Int))=false:=decide_eq_false (by omega);simp only[eC,hlt,cond_false,List.take_length]
end
def aTu(t:aD)(d:List Int)(must:List (List Int))(stages:List bP):List bS×List aE×Int:=
 if(stages.length:Int)=t.Rounds/\stages.all rY=true then(if 6<(jM t d must).length then([],[],2) else(qW stages (jM t d must),jM t d must,0)) else([],[],82)
theorem bCg{t:aD}{l:List aA}{d:List Int}(hg:Good t l d){must:List (List Int)}(hd:cN t l=some (⟨d,must⟩,true))(hM:MustIs t must (iX d (Res l)))(stages:List bP)(hl:stages.length<=1000):
  vO t l stages=some (aTu t d must stages):=by
 unfold vO sX;rw[aMu hg hd hM,Option.bind_some];simp only[decide_true,Bool.not_true,cond_false,aTu];rw[aLl stages (by omega) (λy=>aAk y) (λs=>!rY s) λx _=>by simp[aAk,aZq]]
 by_cases hst:(stages.length:Int)=t.Rounds
 ·simp only[hst,decide_true,Bool.not_true,cond_false,Option.bind_some,true_and];cases ha:stages.all rY with
  | false=>
   have:(stages.any λs=>!rY s)=true:=by rw[List.any_eq_not_all_not];simp only[Bool.not_not,ha,Bool.not_false]
   simp only[this,cond_true,Bool.false_eq_true,if_false]
  | true=>
   have:(stages.any λs=>!rY s)=false:=by rw[List.any_eq_not_all_not];simp only[Bool.not_not,ha,Bool.not_true]
   simp only[this,cond_false,if_true,bSt hg hd hM hst,zA,aKa]
   by_cases h6:6<(jM t d must).length
   ·have h6':decide ((6:Int)<((jM t d must).length:Int))=true:=decide_eq_true (by omega);simp only[h6',h6,cond_true,if_true]
   ·have h6':decide ((6:Int)<((jM t d must).length:Int))=false:=decide_eq_false (by omega);simp only[h6',h6,cond_false,if_false]
 ·simp only[hst,decide_false,Bool.not_false,cond_true,Option.bind_some,false_and,if_false]
theorem bFc{t:aD}{l:List aA}{e:Int}(h:Stat t l e)(stages:List bP):vO t l stages=some ([],[],e):=by
 unfold vO sX;rw[bCw h,Option.bind_some];simp only[h.ne,Bool.not_false,cond_true]
theorem bIy{t:aD}{l:List aA}{e:Int}(h:Stat t l e)(stages:List bP):kZ t l stages=some ([],[],e):=by
 unfold kZ;rw[aBw h,Option.bind_some];simp only[h.ne,Bool.not_false,cond_true]
theorem bQz(t:aD)(l:List aA){stages:List bP}(hl:stages.length<=1000):gD l stages t BIG 0=bif stages.all rY then kF l stages t else some ([],[],82):=by
 have hall:=kW (λk i=>gD l stages t k i) stages.length (λi=>stages[i]?.any rY) (some ([],[],82)) (kF l stages t) ?_ ?_ BIG (cC (by omega))
 ·rw [hall];have e:(List.range stages.length).all (λi=>stages[i]?.any rY)=stages.all rY:=by
   rw[Bool.eq_iff_iff,pQ,List.all_eq_true]
   constructor
   ·intro h x hx;obtain⟨i,hi,rfl⟩:=List.mem_iff_getElem.1 hx;have:=h i hi
    rwa[List.getElem?_eq_getElem hi] at this
   ·intro h i hi;rw[List.getElem?_eq_getElem hi];exact h _ (List.getElem_mem hi)
  rw[e]
 ·intro k i hi;have hs:=bCl stages[i];simp only[gD,Int.ofNat_lt,hi,decide_true,cond_true,bE hi,Option.bind_some,bG (show i<9223372036854775807 by omega),List.getElem?_eq_getElem hi,Option.any_some];rw[<-Option.bind_assoc,hs,Option.bind_some];cases rY stages[i]<;>rfl
 ·intro k;have hlt:decide ((stages.length:Int)<(stages.length:Int))=false:=decide_eq_false (by omega);simp only[gD,hlt,cond_false]
theorem cCr{t:aD}{l:List aA}{d:List Int}(hg:Good t l d){must:List (List Int)}(hd:cN t l=some (⟨d,must⟩,true))(hM:MustIs t must (iX d (Res l))){stages:List bP}(hst:(stages.length:Int)=t.Rounds):
  mM stages (jM t d must)=some (if 6<(jM t d must).length then([],[],2) else(qW stages (jM t d must),jM t d must,0)):=by
 have hj:=bWn (d:=d) (must:=must) hst;unfold mM
 generalize eC stages (jM t d must) BIG 0 []=X at hj|-
 by_cases h6:6<(jM t d must).length
 ·have h6':decide ((6:Int)<((jM t d must).length:Int))=true:=decide_eq_true (by omega);rw[h6',cond_true,if_pos h6]
 ·have h6':decide ((6:Int)<((jM t d must).length:Int))=false:=decide_eq_false (by omega);rw[h6',cond_false,if_neg h6,hj (by omega)]
  rfl
theorem cCq{t:aD}{l:List aA}{d:List Int}(hg:Good t l d){must:List (List Int)}(hd:cN t l=some (⟨d,must⟩,true))(hM:MustIs t must (iX d (Res l))){stages:List bP}(hst:(stages.length:Int)=t.Rounds):
  kF l stages t=some (if 6<(jM t d must).length then([],[],2) else(qW stages (jM t d must),jM t d must,0)):=by
 unfold kF;rw[aMu hg hd hM,Option.bind_some,bXd hg hd hM (stages:=stages),cCr hg hd hM hst]
theorem bFe{t:aD}{l:List aA}{d:List Int}(hg:Good t l d){must:List (List Int)}(hd:cN t l=some (⟨d,must⟩,true))(hM:MustIs t must (iX d (Res l)))(stages:List bP)(hl:stages.length<=1000):
  kZ t l stages=some (aTu t d must stages):=by
 have hS:=bQz t l hl;have hK:=λh=>cCq hg hd hM (stages:=stages) h;unfold kZ;rw[zP hg,Option.bind_some]
 generalize gD l stages t BIG 0=X at hS|-
 generalize kF l stages t=Y at hS hK
 unfold aTu
 by_cases hst:(stages.length:Int)=t.Rounds
 ·rw[hS];cases ha:stages.all rY with
  |false=>simp[hst]
  |true=>simp[hst,hK hst]
 ·simp[hst]
theorem bRk(t:aD)(l:List aA)(stages:List bP)(hl:stages.length<=1000):∃r,vO t l stages=some r/\kZ t l stages=some r/\r.1.length<=6/\r.2.1.length<=6:=by
 rcases wJ t l with⟨d,hg⟩|⟨e,he⟩
 ·obtain⟨must,hd,hM⟩:=aCa hg;refine⟨_,bCg hg hd hM stages hl,bFe hg hd hM stages hl,?_,?_⟩
  ·unfold aTu;split
   ·split
    ·simp
    ·rw[aKa];omega
   ·simp
  ·unfold aTu;split
   ·split
    ·simp
    ·show(jM t d must).length<=6;omega
   ·simp
 ·exact⟨_,bFc he stages,bIy he stages,by simp,by simp⟩
end Go.Am
