/- Layers 7 and 8, plain: Jobs of the program and of the reference. -/
import Derived.Test.YtammglnfelkbpaaGreatDoorBbDet
namespace Go.Am
theorem aLv(l:List bR)(hl:l.length<=9223372036854775807)(f:bR->Option Bool)(g:bR->Bool)(hf:∀x∈l,f x=some (g x)):gT l f=some (l.any g):=by
 have key:jC l f=some (match l.findIdx? g with|some i=>(i:Int)|none=> -1):=by
  unfold jC;rw[eX (S:=Unit) (λk i _=>eG l f l.length k i) l.length (λi _=>some (match(l.drop i).findIdx? g with|some j=>((i+j:Nat):Int)|none=> -1)) (λ_ _=>True) ?_ ?_ BIG () (cB hl) trivial]
  ·simp
  ·intro k i _ hi _ ih;have:=ih () trivial;simp only[eG,bI hi,c6,bF (show i<9223372036854775807 by omega),m6,hi,j4,i7,this,hf _ (j9 hi)];rw[v6 hi,aF5];cases h:g l[i] with
   |true=>simp
   | false=>
    simp only[g6,aB5,aB8];cases List.findIdx? g (List.drop (i+1) l) with
    |none=>rfl
    |some j=>simp;omega
  ·intro k _ _
   simp[eG,nR]
 unfold gT;rw[key];cases h:List.findIdx? g l with
 | none=>
  simp at h
  have:l.any g=false:=by simpa using h
  simp[this]
 | some j=>
  have:l.any g=true:=by
   obtain⟨h1,h2,_⟩:=aA0.1 h;simp only[aG7];exact⟨_,j9 h1,h2⟩
  simp[this]
def jY(s:bR):Bool:=wi s.Length.Low 1 600&&wi s.Length.High 1 600&&decide (s.Length.Low<=s.Length.High)&&wi s.Due 0 2
theorem aCt(s:bR):rC s.Length s.Due=some (jY s):=by
 have hw:∀n lo hi,jH n lo hi=some (wi n lo hi):=λn lo hi=>by simp[jH,dA,wi]
 simp only[rC,wD,hw,c6,dA,m7,jY];cases wi s.Length.Low 1 600<;>cases wi s.Length.High 1 600<;>cases decide (s.Length.Low<=s.Length.High)<;>cases wi s.Due 0 2<;>rfl
theorem bCt(s:bR):((gW s.Length).bind λr4=>(bif !r4 then(some true) else((cU s.Due 0 2).bind λr6=>some (!r6))))=some (!jY s):=by
 have hw:∀n lo hi,cU n lo hi=some (wi n lo hi):=λn lo hi=>by simp[cU,dA,wi]
 have hl:gW s.Length=some (wi s.Length.Low 1 600&&wi s.Length.High 1 600&&decide (s.Length.Low<=s.Length.High)):=by
  simp only[gW,c6,dA,m7];rw[aB4];simp only[f4,l9,kS]
  omega
 rw[hl,c6,hw,jY];cases(wi s.Length.Low 1 600&&wi s.Length.High 1 600&&decide (s.Length.Low<=s.Length.High))<;>simp
def aNq(x b:aG):Bool:=decide (x.Round=w64 (b.Round-1))&&decide (w64 (x.Place.tdiv 2)=b.Place)
def jT(o:List aG)(b:aG)(n:Nat):List Nat:=(List.range n).filter λk=>o[k]?.any (aNq · b)
def aJb(stages:List bR)(o:List aG)(b:aG)(n:Nat):bK:=⟨(stages.getD b.Round.toNat ⟨⟨0,0⟩,0⟩).Length,(jT o b n).map Int.ofNat,[],(stages.getD b.Round.toNat ⟨⟨0,0⟩,0⟩).Due,0⟩
def eW(stages:List bR)(o:List aG):List bK:=(List.range o.length).map λi=>aJb stages o (o.getD i ⟨0,0,0,0⟩) i
theorem aXr(o:List aG)(b:aG)(n:Nat):(jT o b n).length<=n:=by
 have:=z8 (λk=>o[k]?.any (aNq · b)) (List.range n)
 simpa[jT] using this
theorem aUu(o:List aG)(b:aG){n:Nat}(hn:n<o.length):jT o b (n+1)=jT o b n++(if aNq o[n] b=true then [n] else []):=by
 unfold jT;rw[aC9,aC2]
 congr 1
 simp only[aD0,List.filter_nil,g9 hn,aH3]
theorem aNl(o o':List aG)(b:aG){n:Nat}(hn:n<=o.length):jT (o++o') b n=jT o b n:=by
 unfold jT;apply List.filter_congr;intro k hk;rw[u6] at hk;rw[m9 (by omega)]
theorem bLk(o:List aG)(b:aG){n:Nat}(hn:n<=o.length):jT (o.take n) b n=jT o b n:=by
 have:=aNl (o.take n) (o.drop n) b (n:=n) (by simp;omega);rw[List.take_append_drop] at this;exact this.symm
theorem bEi(stages:List bR)(o:List aG)(b:aG):eW stages (o++[b])=eW stages o++[aJb stages o b o.length]:=by
 unfold eW;rw[aA8,List.length_singleton,aC9,v7]
 congr 1
 ·apply aD1;intro i hi;rw[u6] at hi;have e:(o++[b]).getD i ⟨0,0,0,0⟩=o.getD i ⟨0,0,0,0⟩:=by simp[List.getD,m9 hi]
  rw[e];unfold aJb;rw[aNl _ _ _ (by omega)]
 ·have e:(o++[b]).getD o.length ⟨0,0,0,0⟩=b:=by simp[List.getD]
  simp only[j3,aH1,e];unfold aJb;rw[aNl _ _ _ (n5 _)]
theorem kM(stages:List bR)(o:List aG):(eW stages o).length=o.length:=by simp[eW]
def aHn(must:List (List Int))(b:aG):Bool:=decide (mat must b.Round.toNat b.Place.toNat= -2)
def cO(t:aD)(d:List Int)(must:List (List Int)):List aG:=(bT t d must).filter (aHn must)
theorem aOo{t:aD}{d:List Int}{must:List (List Int)}{b:aG}(h:b∈bT t d must):∃r p:Nat,r<t.Rounds.toNat/\p<bM t r/\b=⟨r,p,dB d must r (2*p),dB d must r (2*p+1)⟩:=by
 simp only[bT,aB7,u6,tC,l5] at h;obtain⟨r,hr,p,hp,rfl⟩:=h;exact⟨r,p,hr,hp,rfl⟩
theorem bVx{t:aD}(ht:TreeOK t){r p:Nat}(hr:r<t.Rounds.toNat)(hp:p<bM t r):iZ t r p=true:=by
 have h1:=ht.r1;simp only[iZ,f4,kS]
 omega
theorem aXy{t:aD}(ht:TreeOK t){d:List Int}{must:List (List Int)}:(bT t d must).length<=80:=by
 have h1:=aKf ht (d:=d) (must:=must) t.Rounds.toNat;have h5:=ht.r5;unfold bT
 omega
section
variable{t:aD}{l:List aA}{d:List Int}(hg:Good t l d){must:List (List Int)}(hd:cK t l=some (⟨d,must⟩,true))(hM:MustIs t must (eR d (Res l)))
variable{stages:List bR}(hst:(stages.length:Int)=t.Rounds)
include hg hd hM
theorem aUr{b:aG}(hb:b∈bT t d must):fH t l b.Round b.Place=some (bif aHn must b then(0,3) else(mat must b.Round.toNat b.Place.toNat,0)):=by
 obtain⟨r,p,hr,hp,rfl⟩:=aOo hb;have:=aUs hg hd hM (bVx hg.ht hr hp);simp only[aHn,aD3];rw[this]
 by_cases h:mat must r p= -2
 ·simp[h]
 ·simp[h]
include hst
omit hg hd hM in
theorem bAx{b:aG}(hb:b∈bT t d must):idx stages b.Round=some (stages.getD b.Round.toNat ⟨⟨0,0⟩,0⟩):=by
 obtain⟨r,p,hr,hp,rfl⟩:=aOo hb;have hi:r<stages.length:=by omega
 simp only[aD3];rw[bI hi,bC hi]
theorem bVl:lM l stages (bT t d must) (bT t d must).length t BIG 0 [] []=aCr (eW stages (cO t d must)) (cO t d must):=by
 have hbl:=aXy hg.ht (d:=d) (must:=must);have:=eX (S:=List bK×List aG) (λk i s=>lM l stages (bT t d must) (bT t d must).length t k i s.1 s.2) (bT t d must).length (λ_ _=>aCr (eW stages (cO t d must)) (cO t d must))
  (λi s=>s.2=((bT t d must).take i).filter (aHn must)/\s.1=eW stages s.2) ?_ ?_ BIG ([],[]) (cB (by omega)) ⟨by simp,rfl⟩
 ·exact this
 ·rintro k i ⟨jobs,bouts⟩ hi ⟨h1,h2⟩ ih;simp only at h1 h2;subst h2;have hbm:(bT t d must)[i]∈bT t d must:=j9 hi;have ht1:(bT t d must).take (i+1)=(bT t d must).take i++[(bT t d must)[i]]:=p6 hi;have hol:bouts.length<=i:=by
   rw[h1];have:=z8 (aHn must) ((bT t d must).take i);simp at this;omega
  have hW:=aUr hg hd hM hbm;have hS:=bAx hst hbm;simp only[lM,m6,hi,j4,i7,bI hi,c6,uZ,hW,hS];cases ho:aHn must (bT t d must)[i] with
  | false=>
   simp only[g6,j4,i7,aCs,bF (show i<9223372036854775807 by omega)];refine ih (_,_) ⟨?_,rfl⟩;rw[ht1,aC2,h1]
   simp[ho]
  | true=>
   simp only[i7,show decide ((3:Int)=0)=false by decide,g6];have hin:=eX (S:=List Int) (λq j af=>rB (lM l stages (bT t d must) (bT t d must).length t k) l stages (bT t d must) (bT t d must).length i bouts.length t (eW stages bouts) bouts (bT t d must)[i] q j af (stages.getD (bT t d must)[i].Round.toNat ⟨⟨0,0⟩,0⟩).Length [] (stages.getD (bT t d must)[i].Round.toNat ⟨⟨0,0⟩,0⟩).Due 0) bouts.length
    (λ_ _=>aJj (lM l stages (bT t d must) (bT t d must).length t k) l stages (bT t d must) (bT t d must).length i t (eW stages bouts) bouts (bT t d must)[i] ((jT bouts (bT t d must)[i] bouts.length).map Int.ofNat) (stages.getD (bT t d must)[i].Round.toNat ⟨⟨0,0⟩,0⟩).Length [] (stages.getD (bT t d must)[i].Round.toNat ⟨⟨0,0⟩,0⟩).Due 0)
    (λj af=>af=(jT bouts (bT t d must)[i] j).map Int.ofNat) ?_ ?_ BIG [] (cB (by omega)) (by simp[jT])
   ·refine hin.trans ?_;unfold aJj;rw[gD (by rw[kM];simp;omega),c6,gD (by simp;omega),c6];unfold aCs;rw[bF (show i<9223372036854775807 by omega)];refine ih (_,_) ⟨?_,(bEi stages bouts _).symm⟩;rw[ht1,aC2,h1]
    simp[ho]
   ·rintro q j af hj rfl ih2;have hal:=aXr bouts (bT t d must)[i] j;simp only[rB,m6,hj,j4,i7,bI hj,c6,dA,bF (show j<9223372036854775807 by omega)];have hs:=aUu bouts (bT t d must)[i] hj;have e:(decide (bouts[j].Round=w64 ((bT t d must)[i].Round-1))&&decide (w64 (bouts[j].Place.tdiv 2)=(bT t d must)[i].Place))=aNq bouts[j] (bT t d must)[i]:=rfl;rw[e];cases hb:aNq bouts[j] (bT t d must)[i] with
    | true=>
     rw[hb,if_pos rfl] at hs;simp only[i7];rw[gD (by simp;omega),c6];refine ih2 _ ?_;rw[hs,v7];rfl
    | false=>
     rw[hb] at hs;simp only[g6];refine ih2 _ ?_;rw[hs];simp
   ·rintro q af rfl;have hlt:decide ((bouts.length:Int)<(bouts.length:Int))=false:=j6 (by omega);simp only[rB,hlt,g6]
 ·rintro k ⟨jobs,bouts⟩ ⟨h1,h2⟩;simp only at h1 h2;subst h2;rw[aC4] at h1;have hlt:decide (((bT t d must).length:Int)<((bT t d must).length:Int))=false:=j6 (by omega);simp only[lM,hlt,g6,h1]
  rfl
omit hst in
theorem cBp:iL l stages (bT t d must) t BIG 0 []=oR stages (cO t d must):=by
 have hbl:=aXy hg.ht (d:=d) (must:=must);have:=eX (S:=List aG) (λk i o=>iL l stages (bT t d must) t k i o) (bT t d must).length (λ_ _=>oR stages (cO t d must))
  (λi o=>o=((bT t d must).take i).filter (aHn must)) ?_ ?_ BIG [] (cB (by omega)) (by simp)
 ·exact this
 ·rintro k i o hi h1 ih;have hbm:(bT t d must)[i]∈bT t d must:=j9 hi;have ht1:(bT t d must).take (i+1)=(bT t d must).take i++[(bT t d must)[i]]:=p6 hi;have hol:o.length<=i:=by
   rw[h1];have:=z8 (aHn must) ((bT t d must).take i);simp at this;omega
  have hW:=aUr hg hd hM hbm;simp only[iL,m6,hi,j4,i7,bI hi,c6,hW,bF (show i<9223372036854775807 by omega)];cases ho:aHn must (bT t d must)[i] with
  | false=>
   simp only[g6,show decide ((0:Int)=3)=false by decide];refine ih _ ?_;rw[ht1,aC2,h1]
   simp[ho]
  | true=>
   simp only[i7,j4];rw[gD (by simp;omega),c6];refine ih _ ?_;rw[ht1,aC2,h1]
   simp[ho]
 ·rintro k o rfl;have hlt:decide (((bT t d must).length:Int)<((bT t d must).length:Int))=false:=j6 (by omega);simp only[iL,hlt,g6,aC4]
  rfl
omit hg hd hM in
theorem cAw(h6:(cO t d must).length<=6):fQ stages (cO t d must) BIG 0 []=xH (cO t d must) (eW stages (cO t d must)):=by
 have hsub:∀b∈cO t d must,b∈bT t d must:=λb hb=>(z6.1 hb).1
 generalize hoe:cO t d must=o at*
 have:=eX (S:=List bK) (λk i jobs=>fQ stages o k i jobs) o.length (λ_ _=>xH o (eW stages o)) (λi jobs=>jobs=eW stages (o.take i)) ?_ ?_ BIG [] (cB (by omega)) (by simp[eW])
 ·exact this
 ·rintro k i jobs hi rfl ih;have hS:=bAx hst (hsub _ (j9 hi));have ht1:o.take (i+1)=o.take i++[o[i]]:=p6 hi;have hti:(o.take i).length=i:=by simp;omega
  simp only[fQ,m6,hi,j4,i7,bI hi,c6,hS];have hin:=eX (S:=List Int) (λq j af=>kK (fQ stages o k) stages i o (eW stages (o.take i)) q j af (stages.getD o[i].Round.toNat ⟨⟨0,0⟩,0⟩).Length [] (stages.getD o[i].Round.toNat ⟨⟨0,0⟩,0⟩).Due 0) i
   (λ_ _=>xI (fQ stages o k) stages i o (eW stages (o.take i)) ((jT o o[i] i).map Int.ofNat) (stages.getD o[i].Round.toNat ⟨⟨0,0⟩,0⟩).Length [] (stages.getD o[i].Round.toNat ⟨⟨0,0⟩,0⟩).Due 0)
   (λj af=>af=(jT o o[i] j).map Int.ofNat) ?_ ?_ BIG [] (cB (by omega)) (by simp[jT])
  ·refine hin.trans ?_;unfold xI;rw[gD (by rw[kM];simp;omega),c6];unfold aFr;rw[bF (show i<9223372036854775807 by omega)];refine ih _ ?_;rw[ht1,bEi,hti];unfold aJb;have:jT o o[i] i=jT (o.take i) o[i] i:=(bLk o o[i] (by omega)).symm;rw[this]
  ·rintro q j af hj rfl ih2;have hj':j<o.length:=by omega
   have hal:=aXr o o[i] j;simp only[kK,m6,hj,j4,i7,bI hj',bI hi,c6,dA,bF (show j<9223372036854775807 by omega)];have hs:=aUu o o[i] hj';have e:(decide (o[j].Round=w64 (o[i].Round-1))&&decide (w64 (o[j].Place.tdiv 2)=o[i].Place))=aNq o[j] o[i]:=rfl;rw[e];cases hb:aNq o[j] o[i] with
   | true=>
    rw[hb,if_pos rfl] at hs;simp only[i7];rw[gD (by simp;omega),c6];refine ih2 _ ?_;rw[hs,v7];rfl
   | false=>
    rw[hb] at hs;simp only[g6];refine ih2 _ ?_;rw[hs];simp
  ·rintro q af rfl;have hlt:decide ((i:Int)<(i:Int))=false:=j6 (by omega);simp only[kK,hlt,g6]
 ·rintro k jobs rfl;have hlt:decide ((o.length:Int)<(o.length:Int))=false:=j6 (by omega);simp only[fQ,hlt,g6,aC4]
end
def wP(t:aD)(d:List Int)(must:List (List Int))(stages:List bR):List bK×List aG×Int:=
 if(stages.length:Int)=t.Rounds/\stages.all jY=true then(if 6<(cO t d must).length then([],[],2) else(eW stages (cO t d must),cO t d must,0)) else([],[],82)
theorem yU{t:aD}{l:List aA}{d:List Int}(hg:Good t l d){must:List (List Int)}(hd:cK t l=some (⟨d,must⟩,true))(hM:MustIs t must (eR d (Res l)))(stages:List bR)(hl:stages.length<=1000):
  oW t l stages=some (wP t d must stages):=by
 unfold oW sE;rw[aNg hg hd hM,c6];simp only[j4,l8,g6,wP];rw[aLv stages (by omega) (λy=>aFf y) (λs=>!jY s) λx _=>by simp[aFf,aCt]]
 by_cases hst:(stages.length:Int)=t.Rounds
 ·simp only[hst,j4,l8,g6,c6,true_and];cases ha:stages.all jY with
  | false=>
   have:(stages.any λs=>!jY s)=true:=by rw[List.any_eq_not_all_not];simp only[Bool.not_not,ha,n8]
   simp only[this,i7,aB5,aB8]
  | true=>
   have:(stages.any λs=>!jY s)=false:=by rw[List.any_eq_not_all_not];simp only[Bool.not_not,ha,l8]
   simp only[this,g6,aF2,bVl hg hd hM hst,aCr,kM]
   by_cases h6:6<(cO t d must).length
   ·have h6':decide ((6:Int)<((cO t d must).length:Int))=true:=n7 (by omega);simp only[h6',h6,i7,aF2]
   ·have h6':decide ((6:Int)<((cO t d must).length:Int))=false:=j6 (by omega);simp only[h6',h6,g6,aB8]
 ·simp only[hst,m5,n8,i7,c6,false_and,aB8]
theorem bFp{t:aD}{l:List aA}{e:Int}(h:Stat t l e)(stages:List bR):oW t l stages=some ([],[],e):=by
 unfold oW sE;rw[bDg h,c6];simp only[h.ne,n8,i7]
theorem bJu{t:aD}{l:List aA}{e:Int}(h:Stat t l e)(stages:List bR):mS t l stages=some ([],[],e):=by
 unfold mS;rw[wW h,c6];simp only[h.ne,n8,i7]
theorem bSw(t:aD)(l:List aA){stages:List bR}(hl:stages.length<=1000):iK l stages t BIG 0=bif stages.all jY then mI l stages t else some ([],[],82):=by
 have hall:=gR (λk i=>iK l stages t k i) stages.length (λi=>stages[i]?.any jY) (some ([],[],82)) (mI l stages t) ?_ ?_ BIG (cB (by omega))
 ·rw [hall];have e:(List.range stages.length).all (λi=>stages[i]?.any jY)=stages.all jY:=by
   rw[aB4,gP,k6]
   constructor
   ·intro h x hx;obtain⟨i,hi,rfl⟩:=aG2.1 hx;have:=h i hi
    rwa[g9 hi] at this
   ·intro h i hi;rw[g9 hi];exact h _ (j9 hi)
  rw[e]
 ·intro k i hi;have hs:=bCt stages[i];simp only[iK,m6,hi,j4,i7,bI hi,c6,bF (show i<9223372036854775807 by omega),g9 hi,aH3];rw[<-Option.bind_assoc,hs,c6];cases jY stages[i]<;>rfl
 ·intro k;have hlt:decide ((stages.length:Int)<(stages.length:Int))=false:=j6 (by omega);simp only[iK,hlt,g6]
theorem cJg{t:aD}{l:List aA}{d:List Int}(hg:Good t l d){must:List (List Int)}(hd:cK t l=some (⟨d,must⟩,true))(hM:MustIs t must (eR d (Res l))){stages:List bR}(hst:(stages.length:Int)=t.Rounds):
  oR stages (cO t d must)=some (if 6<(cO t d must).length then([],[],2) else(eW stages (cO t d must),cO t d must,0)):=by
 have hj:=cAw (d:=d) (must:=must) hst;unfold oR
 generalize fQ stages (cO t d must) BIG 0 []=X at hj|-
 by_cases h6:6<(cO t d must).length
 ·have h6':decide ((6:Int)<((cO t d must).length:Int))=true:=n7 (by omega);rw[h6',i7,if_pos h6]
 ·have h6':decide ((6:Int)<((cO t d must).length:Int))=false:=j6 (by omega);rw[h6',g6,if_neg h6,hj (by omega)]
  rfl
theorem cJf{t:aD}{l:List aA}{d:List Int}(hg:Good t l d){must:List (List Int)}(hd:cK t l=some (⟨d,must⟩,true))(hM:MustIs t must (eR d (Res l))){stages:List bR}(hst:(stages.length:Int)=t.Rounds):
  mI l stages t=some (if 6<(cO t d must).length then([],[],2) else(eW stages (cO t d must),cO t d must,0)):=by
 unfold mI;rw[aNg hg hd hM,c6,cBp hg hd hM (stages:=stages),cJg hg hd hM hst]
theorem aQi{t:aD}{l:List aA}{d:List Int}(hg:Good t l d){must:List (List Int)}(hd:cK t l=some (⟨d,must⟩,true))(hM:MustIs t must (eR d (Res l)))(stages:List bR)(hl:stages.length<=1000):
  mS t l stages=some (wP t d must stages):=by
 have hS:=bSw t l hl;have hK:=λh=>cJf hg hd hM (stages:=stages) h;unfold mS;rw[uS hg,c6]
 generalize iK l stages t BIG 0=X at hS|-
 generalize mI l stages t=Y at hS hK
 unfold wP
 by_cases hst:(stages.length:Int)=t.Rounds
 ·rw[hS];cases ha:stages.all jY with
  |false=>simp[hst]
  |true=>simp[hst,hK hst]
 ·simp[hst]
theorem bTp(t:aD)(l:List aA)(stages:List bR)(hl:stages.length<=1000):∃r,oW t l stages=some r/\mS t l stages=some r/\r.1.length<=6/\r.2.1.length<=6:=by
 rcases vH t l with⟨d,hg⟩|⟨e,he⟩
 ·obtain⟨must,hd,hM⟩:=sN hg;refine⟨_,yU hg hd hM stages hl,aQi hg hd hM stages hl,?_,?_⟩
  ·unfold wP;split
   ·split
    ·simp
    ·rw[kM];omega
   ·simp
  ·unfold wP;split
   ·split
    ·simp
    ·show(cO t d must).length<=6;omega
   ·simp
 ·exact⟨_,bFp he stages,bJu he stages,by simp,by simp⟩
end Go.Am
