/- Several texts, one behind the other. -/
import Derived.Test.YtammglnfelkbpaaGreatDoorRgSh
import Derived.Test.YtammglnfelkbpaaGreatDoorAmPlain
section
namespace Go.Am.Py
def wi(n lo hi:Int):Bool:=decide (lo<=n)&&decide (n<=hi)
theorem qU(n lo hi:Int):jH n lo hi=some (wi n lo hi):=by simp[jH,dA,wi]
theorem vW(n lo hi:Int):cU n lo hi=some (wi n lo hi):=by simp[cU,dA,wi]
theorem aMu(s:bO)(lo hi:Int):wD s lo hi=some (decide (s.Low<=s.High)&&wi s.Low lo hi&&wi s.High lo hi):=by
 simp[wD,qU,dA]
theorem aCt(s:bO)(d:Int):rC s d=some (decide (s.Low<=s.High)&&wi s.Low 1 600&&wi s.High 1 600&&wi d 0 2):=by
 simp[rC,qU,aMu,dA]
theorem bAd(s:bO):gW s=some (decide (1<=s.Low)&&decide (s.Low<=s.High)&&decide (s.High<=600)):=by
 simp[gW,dA]
def asc(l:List Int)(b:Int)(i:Nat):Bool:=wi (l.getD i 0) 0 (b-1)&&(decide (i=0)||decide (l.getD (i-1) 0<l.getD i 0))
theorem aKu(l:List Int)(hl:l.length<=9223372036854775807)(b:Int)(hb:0<=b)(hb2:b<=9223372036854775807):xU l b=some ((List.range l.length).all (asc l b)):=by
 unfold xU;rw[gR (λk i=>pL l b l l.length k i) l.length (asc l b) (some false) (some true) ?_ ?_ BIG (cB hl)]
 ·cases(List.range l.length).all (asc l b)<;>rfl
 ·intro k i hi;simp only[pL,bI hi,c6,qU,bF (show i<9223372036854775807 by omega),cV (show-9223372036854775808<=b-1 by omega) (show b-1<=9223372036854775807 by omega),m6,hi,j4,i7];have e1:l.getD i 0=l[i]:=by simp[List.getD,hi]
  by_cases h0:i=0
  ·subst h0
   simp[asc,List.getD,hi]
   cases wi l[0] 0 (b-1)<;>simp
  ·have h1:i-1<l.length:=by omega
   have e2:l.getD (i-1) 0=l[i-1]:=by simp[List.getD,h1]
   have e3:(decide ((0:Int)<(i:Int)))=true:=by simp;omega
   simp only[aEy (show 0<i by omega) (show i<=9223372036854775807 by omega),bI h1,e3,i7,c6,jG,asc,e1,e2,h0,m5,aB0];cases wi l[i] 0 (b-1)<;>simp
   by_cases h:l[i-1]<l[i]
   ·simp[h,show¬l[i]<=l[i-1] by omega]
   ·simp[h,show l[i]<=l[i-1] by omega]
 ·intro k
  simp[pL,aKt]
theorem jS(l:List Int)(hl:l.length<=9223372036854775807)(v:Int):cJ l v=some (decide (v∈l)):=by
 have key:iY l v=some (match l.findIdx? (λx=>decide (v=x)) with|some i=>(i:Int)|none=> -1):=by
  unfold iY;rw[eX (S:=Unit) (λk i _=>fX l v l.length k i) l.length (λi _=>some (match(l.drop i).findIdx? (λx=>decide (v=x)) with|some j=>((i+j:Nat):Int)|none=> -1)) (λ_ _=>True) ?_ ?_ BIG () (cB hl) trivial]
  ·simp
  ·intro k i _ hi _ ih;have:=ih () trivial;simp only[fX,bI hi,c6,bF (show i<9223372036854775807 by omega),m6,hi,j4,i7,this];rw[v6 hi,aF5]
   by_cases h:v=l[i]
   ·simp[h]
   ·simp only[h,m5,g6,aB5,aB8];cases List.findIdx? (λx=>decide (v=x)) (List.drop (i+1) l) with
    |none=>rfl
    |some j=>simp;omega
  ·intro k _ _
   simp[fX,wL]
 unfold cJ;rw[key];cases h:List.findIdx? (λx=>decide (v=x)) l with
 | none=>
  simp at h
  have:v∉l:=λhm=>h v hm rfl
  simp[this]
 | some j=>
  have:v∈l:=by
   obtain⟨h1,h2,_⟩:=aA0.1 h
   simp at h2
   rw[h2];exact j9 h1
  simp[this]
theorem aNh(l:List bO)(hl:l.length<=9223372036854775807)(f:bO->Option Bool)(g:bO->Bool)(hf:∀x∈l,f x=some (g x)):iG l f=some (l.any g):=by
 have key:jW l f=some (match l.findIdx? g with|some i=>(i:Int)|none=> -1):=by
  unfold jW;rw[eX (S:=Unit) (λk i _=>eO l f l.length k i) l.length (λi _=>some (match(l.drop i).findIdx? g with|some j=>((i+j:Nat):Int)|none=> -1)) (λ_ _=>True) ?_ ?_ BIG () (cB hl) trivial]
  ·simp
  ·intro k i _ hi _ ih;have:=ih () trivial;simp only[eO,bI hi,c6,bF (show i<9223372036854775807 by omega),m6,hi,j4,i7,this,hf _ (j9 hi)];rw[v6 hi,aF5];cases h:g l[i] with
   |true=>simp
   | false=>
    simp only[g6,aB5,aB8];cases List.findIdx? g (List.drop (i+1) l) with
    |none=>rfl
    |some j=>simp;omega
  ·intro k _ _
   simp[eO,oI]
 unfold iG;rw[key];cases h:List.findIdx? g l with
 | none=>
  simp at h
  have:l.any g=false:=by simpa using h
  simp[this]
 | some j=>
  have:l.any g=true:=by
   obtain⟨h1,h2,_⟩:=aA0.1 h;simp only[aG7];exact⟨_,j9 h1,h2⟩
  simp[this]
def kE(j:bK)(number many:Nat):Bool:=
 decide (1<=j.Length.Low)&&decide (j.Length.Low<=j.Length.High)&&decide (j.Length.High<=600)&&wi j.Due 0 2&&wi j.Earliest 0 1440&&
  (List.range j.After.length).all (asc j.After number)&&((List.range j.With.length).all (asc j.With many)&&!decide ((number:Int)∈j.With))
def rJ(s:bO):Bool:=decide (s.Low<=s.High)&&wi s.Low 0 1440&&wi s.High 0 1440
def pK(p:aH)(d:Nat):Bool:=wi ((p.Days.getD d []).length) 1 3&&decide ((p.Days.getD d []).length=(p.Days.getD 0 []).length)&&(p.Days.getD d []).all rJ
def valid(p:aH):Bool:=
 wi p.Days.length 1 3&&wi p.Rest 0 600&&decide (p.Jobs.length<=6)&&(List.range p.Days.length).all (pK p)&&
  (List.range p.Jobs.length).all λi=>kE (p.Jobs.getD i default) i p.Jobs.length
def smallP(p:aH):Prop:=p.Days.length<=9223372036854775807/\(∀d∈p.Days,d.length<=9223372036854775807)/\p.Jobs.length<=9223372036854775807/\∀j∈p.Jobs,j.After.length<=9223372036854775807/\j.With.length<=9223372036854775807
theorem play_Check_eq(p:aH)(hs:smallP p):sS p=some (bif valid p then 0 else 80):=by
 obtain⟨h1,h2,h3,h4⟩:=hs;have jobs:zX p=some (bif (List.range p.Jobs.length).all (λi=>kE (p.Jobs.getD i default) i p.Jobs.length) then 0 else 80):=by
  unfold zX;rw[gR (λk i=>sA p.Jobs p.Jobs.length p k i) p.Jobs.length (λi=>kE (p.Jobs.getD i default) i p.Jobs.length) (some 80) (some 0) ?_ ?_ BIG (cB h3)]
  ·cases(List.range p.Jobs.length).all (λi=>kE (p.Jobs.getD i default) i p.Jobs.length)<;>rfl
  ·intro k i hi;obtain⟨ha,hw⟩:=h4 _ (j9 hi);simp only[sA,bI hi,c6,bF (show i<9223372036854775807 by omega),m6,hi,j4,i7,aCt,qU,jG,
    aKu _ ha (i:Int) (by omega) (by omega),aKu _ hw (p.Jobs.length:Int) (by omega) (by omega),jS _ hw]
   have e1:p.Jobs.getD i default=p.Jobs[i]:=by simp[List.getD,hi]
   rw[e1]
   generalize p.Jobs[i]=j
   have:kE j i p.Jobs.length=!(((((!(decide (j.Length.Low<=j.Length.High)&&wi j.Length.Low 1 600&&wi j.Length.High 1 600&&wi j.Due 0 2))||!wi j.Earliest 0 1440)||!(List.range j.After.length).all (asc j.After ↑i))||!(List.range j.With.length).all (asc j.With ↑p.Jobs.length))||decide ((i:Int)∈j.With)):=by
    unfold kE
    generalize(List.range j.After.length).all (asc j.After ↑i)=b1
    generalize(List.range j.With.length).all (asc j.With ↑p.Jobs.length)=b2
    generalize decide ((i:Int)∈j.With)=b3
    generalize wi j.Due 0 2=b4
    generalize wi j.Earliest 0 1440=b5
    have:(decide (1<=j.Length.Low)&&decide (j.Length.Low<=j.Length.High)&&decide (j.Length.High<=600))=(decide (j.Length.Low<=j.Length.High)&&wi j.Length.Low 1 600&&wi j.Length.High 1 600):=by
     rw[aB4]
     simp[wi]
     omega
    rw[this]
    generalize(decide (j.Length.Low<=j.Length.High)&&wi j.Length.Low 1 600&&wi j.Length.High 1 600)=b6
    cases b1<;>cases b2<;>cases b3<;>cases b4<;>cases b5<;>cases b6<;>rfl
   rw[this]
   generalize(((((!(decide (j.Length.Low<=j.Length.High)&&wi j.Length.Low 1 600&&wi j.Length.High 1 600&&wi j.Due 0 2))||!wi j.Earliest 0 1440)||!(List.range j.After.length).all (asc j.After ↑i))||!(List.range j.With.length).all (asc j.With ↑p.Jobs.length))||decide ((i:Int)∈j.With))=b
   cases b<;>rfl
  ·intro k
   simp[sA,aQg]
 have days:wi p.Days.length 1 3=true->pS p.Days p.Days.length p BIG 0=some (bif (List.range p.Days.length).all (pK p)&&(List.range p.Jobs.length).all (λi=>kE (p.Jobs.getD i default) i p.Jobs.length) then 0 else 80):=by
  intro hd;have hd0:0<p.Days.length:=by simp[wi] at hd;omega
  rw[gR (λk i=>pS p.Days p.Days.length p k i) p.Days.length (pK p) (some 80) (zX p) ?_ ?_ BIG (cB h1)]
  ·rw[jobs];cases(List.range p.Days.length).all (pK p)<;>rfl
  ·intro k i hi;have hdl:=h2 _ (j9 hi);simp only[pS,bI hi,c6,bF (show i<9223372036854775807 by omega),m6,hi,j4,i7,qU,jG,show idx p.Days 0=some p.Days[0] from bI hd0,
    aNh _ hdl (λy=>aCq y) (λs=>!rJ s) (λs _=>by simp[aCq,aMu,rJ])]
   have e1:p.Days.getD i []=p.Days[i]:=by simp[List.getD,hi]
   have e2:p.Days.getD 0 []=p.Days[0]:=by simp[List.getD,hd0]
   have e3:(p.Days[i].any λs=>!rJ s)=!p.Days[i].all rJ:=by simp[List.not_all_eq_any_not]
   simp only[pK,e1,e2,e3];have e4:(decide ((p.Days[i].length:Int)=(p.Days[0].length:Int)))=decide (p.Days[i].length=p.Days[0].length):=by simp;omega
   rw[e4];cases wi p.Days[i].length 1 3<;>cases decide (p.Days[i].length=p.Days[0].length)<;>cases p.Days[i].all rJ<;>rfl
  ·intro k
   simp[pS]
 unfold sS;simp only[qU,jG,c6];have e5:decide (6<(p.Jobs.length:Int))=!decide (p.Jobs.length<=6):=by
  by_cases h:p.Jobs.length<=6
  ·simp[h];omega
  ·simp[h];omega
 rw[e5];unfold valid;cases hd:wi p.Days.length 1 3 with
 |false=>simp
 | true=>
  rw[days hd];cases wi p.Rest 0 600<;>cases decide (p.Jobs.length<=6)<;>simp
theorem bJv(j:bK)(ha:j.After.length<=9223372036854775807)(hw:j.With.length<=9223372036854775807)(n m:Nat)(hn:n<=9223372036854775807)(hm:m<=9223372036854775807):
  vD j n m=some (kE j n m):=by
 have with':rN n m j=some ((List.range j.With.length).all (asc j.With m)&&!decide ((n:Int)∈j.With)):=by
  unfold rN;rw[gR (λk i=>lK n m j k i) j.With.length (λi=>asc j.With m i&&!decide (j.With.getD i 0=n)) (some false) (some true) ?_ ?_ BIG (cB hw)]
  ·have:(List.range j.With.length).all (λi=>asc j.With m i&&!decide (j.With.getD i 0=n))=((List.range j.With.length).all (asc j.With m)&&!decide ((n:Int)∈j.With)):=by
    rw[aB4];simp only[f4,gP,l6,n9]
    constructor
    ·intro h;refine⟨λi hi=>(h i hi).1,λhmem=>?_⟩;obtain⟨i,hi,e⟩:=n6 hmem;exact(h i hi).2 (by simp[List.getD,hi,e])
    ·intro h i hi;refine⟨h.1 i hi,λe=>h.2 ?_⟩;rw[<-e]
     simp[List.getD,hi]
   rw[this];cases((List.range j.With.length).all (asc j.With m)&&!decide ((n:Int)∈j.With))<;>rfl
  ·intro k i hi;simp only[lK,bI hi,c6,vW,bF (show i<9223372036854775807 by omega),cV (show-9223372036854775808<=(m:Int)-1 by omega) (show(m:Int)-1<=9223372036854775807 by omega),m6,hi,j4,i7,jG];have e1:j.With.getD i 0=j.With[i]:=by simp[List.getD,hi]
   rw[e1]
   by_cases h0:i=0
   ·subst h0
    simp[asc,List.getD,hi]
    cases wi j.With[0] 0 (m-1)<;>by_cases h:j.With[0]=(n:Int)<;>simp[h]
   ·have h1:i-1<j.With.length:=by omega
    have e2:j.With.getD (i-1) 0=j.With[i-1]:=by simp[List.getD,h1]
    have e3:(decide ((0:Int)<(i:Int)))=true:=by simp;omega
    simp only[aEy (show 0<i by omega) (show i<=9223372036854775807 by omega),bI h1,e3,i7,c6,jG,asc,e1,e2,h0,m5,aB0]
    by_cases hlt:j.With[i-1]<j.With[i]
    ·simp only[hlt,show¬j.With[i]<=j.With[i-1] by omega];cases wi j.With[i] 0 (m-1)<;>by_cases h:j.With[i]=(n:Int)<;>simp[h]
    ·simp only[hlt,show j.With[i]<=j.With[i-1] by omega];cases wi j.With[i] 0 (m-1)<;>by_cases h:j.With[i]=(n:Int)<;>simp[h]
  ·intro k
   simp[lK,aDu]
 have after:jQ n m j BIG 0=some ((List.range j.After.length).all (asc j.After n)&&((List.range j.With.length).all (asc j.With m)&&!decide ((n:Int)∈j.With))):=by
  rw[gR (λk i=>jQ n m j k i) j.After.length (asc j.After n) (some false) (rN n m j) ?_ ?_ BIG (cB ha)]
  ·rw[with'];cases(List.range j.After.length).all (asc j.After n)<;>rfl
  ·intro k i hi;simp only[jQ,bI hi,c6,vW,bF (show i<9223372036854775807 by omega),cV (show-9223372036854775808<=(n:Int)-1 by omega) (show(n:Int)-1<=9223372036854775807 by omega),m6,hi,j4,i7,jG];have e1:j.After.getD i 0=j.After[i]:=by simp[List.getD,hi]
   by_cases h0:i=0
   ·subst h0
    simp[asc,List.getD,hi]
    cases wi j.After[0] 0 (n-1)<;>simp
   ·have h1:i-1<j.After.length:=by omega
    have e2:j.After.getD (i-1) 0=j.After[i-1]:=by simp[List.getD,h1]
    have e3:(decide ((0:Int)<(i:Int)))=true:=by simp;omega
    simp only[aEy (show 0<i by omega) (show i<=9223372036854775807 by omega),bI h1,e3,i7,c6,jG,asc,e1,e2,h0,m5,aB0]
    by_cases hlt:j.After[i-1]<j.After[i]
    ·simp only[hlt,show¬j.After[i]<=j.After[i-1] by omega];cases wi j.After[i] 0 (n-1)<;>simp
    ·simp only[hlt,show j.After[i]<=j.After[i-1] by omega];cases wi j.After[i] 0 (n-1)<;>simp
  ·intro k
   simp[jQ]
 unfold vD;simp only[bAd,vW,jG,c6,after];unfold kE
 generalize(List.range j.After.length).all (asc j.After n)=b1
 generalize((List.range j.With.length).all (asc j.With m)&&!decide ((n:Int)∈j.With))=b2
 generalize(decide (1<=j.Length.Low)&&decide (j.Length.Low<=j.Length.High)&&decide (j.Length.High<=600))=b3
 cases b3<;>cases wi j.Due 0 2<;>cases wi j.Earliest 0 1440<;>cases b1<;>cases b2<;>rfl
theorem ref_Check_eq(p:aH)(hs:smallP p):oE p=some (bif valid p then 0 else 80):=by
 obtain⟨h1,h2,h3,h4⟩:=hs;have jobs:rM p=some (bif (List.range p.Jobs.length).all (λi=>kE (p.Jobs.getD i default) i p.Jobs.length) then 0 else 80):=by
  unfold rM;rw[gR (λk i=>lJ p k i) p.Jobs.length (λi=>kE (p.Jobs.getD i default) i p.Jobs.length) (some 80) (some 0) ?_ ?_ BIG (cB h3)]
  ·cases(List.range p.Jobs.length).all (λi=>kE (p.Jobs.getD i default) i p.Jobs.length)<;>rfl
  ·intro k i hi;obtain⟨ha,hw⟩:=h4 _ (j9 hi);have e1:p.Jobs.getD i default=p.Jobs[i]:=by simp[List.getD,hi]
   simp only[lJ,bI hi,c6,bF (show i<9223372036854775807 by omega),m6,hi,j4,i7,bJv _ ha hw i p.Jobs.length (by omega) (by omega),e1];cases kE p.Jobs[i] i p.Jobs.length<;>rfl
  ·intro k
   simp[lJ,aDt]
 have days:wi p.Days.length 1 3=true->wi (p.Days.getD 0 []).length 1 3=true->eI p BIG 0=some (bif (List.range p.Days.length).all (pK p)&&(List.range p.Jobs.length).all (λi=>kE (p.Jobs.getD i default) i p.Jobs.length) then 0 else 80):=by
  intro hd hd1;have hd0:0<p.Days.length:=by simp[wi] at hd;omega
  rw[gR (λk i=>eI p k i) p.Days.length (pK p) (some 80) (rM p) ?_ ?_ BIG (cB h1)]
  ·rw[jobs];cases(List.range p.Days.length).all (pK p)<;>rfl
  ·intro k i hi;have hdl:=h2 _ (j9 hi);have e1:p.Days.getD i []=p.Days[i]:=by simp[List.getD,hi]
   have e2:p.Days.getD 0 []=p.Days[0]:=by simp[List.getD,hd0]
   have inner:jP (eI p k) (i:Int) p BIG 0=bif p.Days[i].all rJ then eI p k ((i+1:Nat):Int) else some 80:=by
    rw[gR (λk2 c=>jP (eI p k) (i:Int) p k2 c) p.Days[i].length (λc=>rJ (p.Days[i].getD c default)) (some 80) (eI p k ((i+1:Nat):Int)) ?_ ?_ BIG (cB hdl)]
    ·have:(List.range p.Days[i].length).all (λc=>rJ (p.Days[i].getD c default))=p.Days[i].all rJ:=by
      rw[aB4,gP,k6]
      constructor
      ·intro h x hx;obtain⟨c,hc,e⟩:=n6 hx;have:=h c hc
       simpa[List.getD,hc,e] using this
      ·intro h c hc
       simpa[List.getD,hc] using h _ (j9 hc)
     rw[this]
    ·intro k2 c hc;simp only[jP,bI hi,c6,bI hc,bF (show c<9223372036854775807 by omega),m6,hc,j4,i7,jG];have e4:p.Days[i].getD c default=p.Days[i][c]:=by simp[List.getD,hc]
     rw[e4]
     generalize p.Days[i][c]=s
     have:rJ s=!(decide (s.Low<0)||decide (s.High<s.Low)||decide (1440<s.High)):=by
      rw[aB4]
      simp[rJ,wi]
      omega
     rw[this];cases(decide (s.Low<0)||decide (s.High<s.Low)||decide (1440<s.High))<;>rfl
    ·intro k2
     simp[jP,bI hi,aDs,aDr,bF (show i<9223372036854775807 by omega)]
   simp only[eI,bI hi,c6,m6,hi,j4,i7,show idx p.Days 0=some p.Days[0] from bI hd0,inner];have e4:(decide ((p.Days[i].length:Int)=(p.Days[0].length:Int)))=decide (p.Days[i].length=p.Days[0].length):=by simp;omega
   rw[e4];simp only[pK,e1,e2]
   by_cases hl:p.Days[i].length=p.Days[0].length
   ·rw[e2] at hd1;simp only[hl,hd1,j4];cases p.Days[i].all rJ<;>rfl
   ·simp[hl]
  ·intro k
   simp[eI]
 unfold oE;simp only[vW,c6];have e5:decide (6<(p.Jobs.length:Int))=!decide (p.Jobs.length<=6):=by
  by_cases h:p.Jobs.length<=6
  ·simp[h];omega
  ·simp[h];omega
 rw[e5];cases hd:wi p.Days.length 1 3 with
 |false=>simp[valid,hd]
 | true=>
  have hd0:0<p.Days.length:=by simp[wi] at hd;omega
  have e2:p.Days.getD 0 []=p.Days[0]:=by simp[List.getD,hd0]
  simp only[show idx p.Days 0=some p.Days[0] from bI hd0,c6,jG,l8,g6];unfold valid;rw[hd];cases hd1:wi p.Days[0].length 1 3 with
  | false=>
   have:(List.range p.Days.length).all (pK p)=false:=by
    rw[Bool.eq_false_iff];intro h;have:=gP.1 h 0 hd0;unfold pK at this;rw[e2,hd1] at this
    simp at this
   simp[this]
  | true=>
   rw[days hd (by rw[e2];exact hd1)];cases wi p.Rest 0 600<;>cases decide (p.Jobs.length<=6)<;>simp
structure VP(p:aH):Prop where
 nd0:0<p.Days.length
 nd:p.Days.length<=3
 nc:∀d (h:d<p.Days.length),(p.Days[d]).length=(p.Days.getD 0 []).length
 nc0:0<(p.Days.getD 0 []).length
 nc3:(p.Days.getD 0 []).length<=3
 span:∀d∈p.Days,∀s∈d,0<=s.Low/\s.Low<=s.High/\s.High<=1440
 rest:0<=p.Rest/\p.Rest<=600
 nj:p.Jobs.length<=6
 job:∀i (h:i<p.Jobs.length),kE p.Jobs[i] i p.Jobs.length=true
theorem VP_of{p:aH}(h:valid p=true):VP p:=by
 simp only[valid,f4,gP,l9] at h;obtain⟨⟨⟨⟨h1,h2⟩,h3⟩,h4⟩,h5⟩:=h;simp only[wi,f4,l9] at h1 h2;have hd0:0<p.Days.length:=by omega
 have hg:∀d (h:d<p.Days.length),pK p d=true:=h4;have hday:∀d (h:d<p.Days.length),(1<=p.Days[d].length/\p.Days[d].length<=3)/\p.Days[d].length=(p.Days.getD 0 []).length/\∀s∈p.Days[d],rJ s=true:=by
  intro d hd;have:=hg d hd;simp only[pK,f4,l9,wi,k6,show p.Days.getD d []=p.Days[d] by simp[List.getD,hd]] at this;exact⟨by omega,this.1.2,this.2⟩
 have h0:=hday 0 hd0;have e0:p.Days.getD 0 []=p.Days[0]:=by simp[List.getD,hd0]
 refine⟨hd0,by omega,λd hd=>(hday d hd).2.1,by rw[e0];omega,by rw[e0];omega,λd hd s hs=>?_,h2,h3,λi hi=>?_⟩
 ·obtain⟨i,hi,rfl⟩:=n6 hd;have:=(hday i hi).2.2 s hs
  simp[rJ,wi] at this
  omega
 ·have:=h5 i hi
  simpa[List.getD,hi] using this
structure VJ(j:bK)(n m:Nat):Prop where
 low:1<=j.Length.Low
 le:j.Length.Low<=j.Length.High
 high:j.Length.High<=600
 due0:0<=j.Due
 due:j.Due<=2
 early0:0<=j.Earliest
 early:j.Earliest<=1440
 after:∀x∈j.After,0<=x/\x<n
 withh:∀x∈j.With,0<=x/\x<m/\x≠n
 alen:j.After.length<=n
 wlen:j.With.length<=m
theorem bNa{l:List Int}{b:Nat}(h:∀i,i<l.length->asc l b i=true):l.length<=b/\∀x∈l,0<=x/\x<b:=by
 have key:∀i (hi:i<l.length),(i:Int)<=l[i]/\l[i]<b:=by
  intro i
  induction i with
  | zero=>
   intro hi;have:=h 0 hi
   simp[asc,wi,List.getD,hi] at this
   omega
  | succ i ih=>
   intro hi;have h1:=ih (by omega);have:=h (i+1) hi;have hi':i<l.length:=by omega
   simp[asc,wi,List.getD,hi,hi'] at this
   omega
 refine⟨?_,λx hx=>?_⟩
 ·by_cases h0:l.length=0
  ·omega
  ·have:=key (l.length-1) (by omega)
   omega
 ·obtain⟨i,hi,rfl⟩:=n6 hx;have:=key i hi
  omega
theorem cNa{j:bK}{n m:Nat}(h:kE j n m=true):VJ j n m:=by
 simp only[kE,f4,gP,l9,wi,l6,n9] at h;obtain⟨⟨⟨⟨⟨⟨h1,h2⟩,h3⟩,h4⟩,h5⟩,h6⟩,h7,h8⟩:=h;obtain⟨a1,a2⟩:=bNa h6;obtain⟨b1,b2⟩:=bNa h7;exact⟨h1,h2,h3,h4.1,h4.2,h5.1,h5.2,a2,λx hx=>⟨(b2 x hx).1,(b2 x hx).2,λe=>h8 (e▸hx)⟩,a1,b1⟩
theorem VP.vj{p:aH}(h:VP p){i:Nat}(hi:i<p.Jobs.length):VJ p.Jobs[i] i p.Jobs.length:=cNa (h.job i hi)
theorem VP.small{p:aH}(h:VP p):smallP p:=by
 have:=h.nd;have:=h.nj;have:=h.nc3;refine⟨by omega,λd hd=>?_,by omega,λj hj=>?_⟩
 ·obtain⟨i,hi,rfl⟩:=n6 hd;have:=h.nc i hi
  omega
 ·obtain⟨i,hi,rfl⟩:=n6 hj;have:=(h.vj hi).alen;have:=(h.vj hi).wlen
  omega
end Go.Am.Py
end
section
namespace Go.Am.Py
theorem bDk{α:Type}[Inhabited α]{l:List α}{f:α->Bool}:((List.range l.length).all λi=>!f (l.getD i default))=!l.any f:=by
 rw[aB4];simp only[gP,l6,aE9]
 constructor
 ·intro h x hx;obtain⟨i,hi,rfl⟩:=n6 hx;have:=h i hi
  simp[List.getD,hi] at this
  simp[this]
 ·intro h i hi;have:=h _ (j9 hi)
  simp[List.getD,hi] at this|-
  exact this
theorem bDj{α:Type}[Inhabited α]{l:List α}{f:α->Bool}:((List.range l.length).all λi=>f (l.getD i default))=l.all f:=by
 have:=bDk (l:=l) (f:=λx=>!f x);simp only[Bool.not_not] at this;rw[this,List.all_eq_not_any_not]
theorem bVh(l:List aF)(hl:l.length<=9223372036854775807)(j:Int):tV l j=some (l.any λo=>decide (o.Job=j)):=by
 unfold tV;rw[gR (λk i=>nG l j k i) l.length (λi=>!decide ((l.getD i default).Job=j)) (some true) (some false) ?_ ?_ BIG (cB hl)]
 ·rw[bDk (f:=λo:aF=>decide (o.Job=j))];cases(l.any λo=>decide (o.Job=j))<;>rfl
 ·intro k i hi;simp only[nG,bI hi,c6,bF (show i<9223372036854775807 by omega),m6,hi,j4,i7];have e1:l.getD i default=l[i]:=by simp[List.getD,hi]
  rw[e1]
  by_cases h:l[i].Job=j<;>simp[h]
 ·intro k
  simp[nG,aHa]
def jobAt(p:aH)(j:Int):bK:=p.Jobs.getD j.toNat default
def sD(p:aH):Nat:=(p.Days.getD 0 []).length
def aGp(p:aH)(pre:List aF)(s:aF):Bool:=
 wi s.Job 0 (p.Jobs.length-1)&&!(pre.any λo=>decide (o.Job=s.Job))&&wi s.Day 0 (min ((p.Days.length:Int)-1) (jobAt p s.Job).Due)&&wi s.Court 0 (sD p-1)&&
  (pre.all λo=>decide (o.Day<=s.Day))&&(jobAt p s.Job).After.all λa=>pre.any λo=>decide (o.Job=a)
def isOrd(p:aH)(order:List aF):Bool:=
 (List.range order.length).all (λi=>aGp p (order.take i) (order.getD i default))&&decide (order.length=p.Jobs.length)
theorem bBd{n:Int}{m:Nat}(h:wi n 0 ((m:Int)-1)=true):0<=n/\n.toNat<m:=by
 simp[wi] at h
 omega
theorem bPf{p:aH}(hp:VP p)(pre:List aF)(hl:pre.length<=9223372036854775807)(s:aF):sM p pre s=some (aGp p pre s):=by
 have hnj:=hp.nj;have hnd:=hp.nd;have hnd0:=hp.nd0;have hnc:=hp.nc3;have hnc0:=hp.nc0;have e0:p.Days.getD 0 []=p.Days[0]:=by simp[List.getD,hnd0]
 have after:wi s.Job 0 (p.Jobs.length-1)=true->pJ pre p s=some ((jobAt p s.Job).After.all λa=>pre.any λo=>decide (o.Job=a)):=by
  intro hj;obtain⟨j0,j1⟩:=bBd hj;have ej:idx p.Jobs s.Job=some (jobAt p s.Job):=by rw[yQ j0 j1];simp[jobAt,List.getD,j1]
  have hal:(jobAt p s.Job).After.length<=9223372036854775807:=by
   have:=(hp.small.2.2.2 _ (j9 j1)).1
   simpa[jobAt,List.getD,j1] using this
  unfold pJ;rw[gR (λk i=>kD pre p s k i) (jobAt p s.Job).After.length (λi=>pre.any λo=>decide (o.Job=(jobAt p s.Job).After.getD i default)) (some false) (some true) ?_ ?_ BIG (cB hal)]
  ·rw[bDj (f:=λa=>pre.any λo=>decide (o.Job=a))];cases((jobAt p s.Job).After.all λa=>pre.any λo=>decide (o.Job=a))<;>rfl
  ·intro k i hi;simp only[kD,ej,bI hi,c6,bF (show i<9223372036854775807 by omega),m6,hi,j4,i7,bVh pre hl];have e1:(jobAt p s.Job).After.getD i default=(jobAt p s.Job).After[i]:=by simp[List.getD,hi]
   rw[e1];cases(pre.any λo=>decide (o.Job=(jobAt p s.Job).After[i]))<;>rfl
  ·intro k
   simp[kD,aBb,ej]
 have day:wi s.Job 0 (p.Jobs.length-1)=true->iC pre p s BIG 0=some ((pre.all λo=>decide (o.Day<=s.Day))&&(jobAt p s.Job).After.all λa=>pre.any λo=>decide (o.Job=a)):=by
  intro hj;rw[gR (λk i=>iC pre p s k i) pre.length (λi=>decide ((pre.getD i default).Day<=s.Day)) (some false) (pJ pre p s) ?_ ?_ BIG (cB hl)]
  ·rw[bDj (f:=λo:aF=>decide (o.Day<=s.Day)),after hj];cases(pre.all λo=>decide (o.Day<=s.Day))<;>rfl
  ·intro k i hi;simp only[iC,bI hi,c6,bF (show i<9223372036854775807 by omega),m6,hi,j4,i7];have e1:pre.getD i default=pre[i]:=by simp[List.getD,hi]
   rw[e1]
   by_cases h:pre[i].Day<=s.Day
   ·simp[h,show¬s.Day<pre[i].Day by omega]
   ·simp[h,show s.Day<pre[i].Day by omega]
  ·intro k
   simp[iC]
 unfold sM;simp only[vW,cV (show-9223372036854775808<=(p.Jobs.length:Int)-1 by omega) (show(p.Jobs.length:Int)-1<=9223372036854775807 by omega),cV (show-9223372036854775808<=(p.Days.length:Int)-1 by omega) (show(p.Days.length:Int)-1<=9223372036854775807 by omega),
  c6,bVh pre hl,jG,show idx p.Days 0=some p.Days[0] from bI hnd0]
 rw[cV (show-9223372036854775808<=(p.Days[0].length:Int)-1 by omega) (by rw[<-e0];omega)];unfold aGp;cases hj:wi s.Job 0 (p.Jobs.length-1) with
 |false=>simp
 | true=>
  obtain⟨j0,j1⟩:=bBd hj;have ej:idx p.Jobs s.Job=some (jobAt p s.Job):=by rw[yQ j0 j1];simp[jobAt,List.getD,j1]
  have hcc:(sD p:Int)=p.Days[0].length:=by unfold sD;rw[e0]
  rw[hcc,day hj];simp only[ej,c6];cases(pre.any λo=>decide (o.Job=s.Job))<;>cases wi s.Day 0 (min (↑p.Days.length-1) (jobAt p s.Job).Due)<;>cases wi s.Court 0 (↑p.Days[0].length-1)<;>simp
theorem IsOrder_eq{p:aH}(hp:VP p)(order:List aF)(hl:order.length<=9223372036854775807):oQ p order=some (isOrd p order):=by
 unfold oQ;rw[gR (λk i=>kC order p k i) order.length (λi=>aGp p (order.take i) (order.getD i default)) (some false) (some (decide (order.length=p.Jobs.length))) ?_ ?_ BIG (cB hl)]
 ·unfold isOrd;cases((List.range order.length).all λi=>aGp p (order.take i) (order.getD i default))<;>rfl
 ·intro k i hi;simp only[kC,bI hi,cIe (show i<=order.length by omega),c6,bF (show i<9223372036854775807 by omega),m6,hi,j4,i7,
   bPf hp (order.take i) (by simp;omega)]
  have e1:order.getD i default=order[i]:=by simp[List.getD,hi]
  rw[e1];cases aGp p (order.take i) order[i]<;>rfl
 ·intro k
  simp[kC,aBa]
  omega
end Go.Am.Py
end
section
namespace Go.Am.Py
def uH(p:aH)(a b:Int):Bool:=decide (b∈(jobAt p a).After)||decide (b∈(jobAt p a).With)||decide (a∈(jobAt p b).After)||decide (a∈(jobAt p b).With)
def isJ(p:aH)(a:Int):Prop:=0<=a/\a.toNat<p.Jobs.length
theorem isJ.idx{p:aH}{a:Int}(h:isJ p a):idx p.Jobs a=some (jobAt p a):=by rw[yQ h.1 h.2];simp[jobAt,List.getD,h.2]
theorem isJ.small{p:aH}(hp:VP p){a:Int}(h:isJ p a):(jobAt p a).After.length<=9223372036854775807/\(jobAt p a).With.length<=9223372036854775807:=by
 have:=hp.small.2.2.2 _ (j9 h.2)
 simpa[jobAt,List.getD,h.2] using this
theorem isJ.vj{p:aH}(hp:VP p){a:Int}(h:isJ p a):VJ (jobAt p a) a.toNat p.Jobs.length:=by
 have:=hp.vj h.2
 simpa[jobAt,List.getD,h.2] using this
theorem bFq{p:aH}(hp:VP p){a b:Int}(ha:isJ p a)(hb:isJ p b):aHo p a b=some (uH p a b):=by
 simp only[aHo,aCu,ha.idx,hb.idx,c6,jS _ (ha.small hp).1,jS _ (ha.small hp).2,jS _ (hb.small hp).1,jS _ (hb.small hp).2,jG,uH]
 simp[Bool.or_assoc]
def nZ(p:aH)(d c:Int):bO:=(p.Days.getD d.toNat []).getD c.toNat default
def fF(ends:List Int)(j:Int):Int:=ends.getD j.toNat 0
def aKg(p:aH)(ends:List Int)(s:aF)(b:Int)(o:aF):Int:=
 bif decide (o.Day=s.Day) then
  (bif uH p s.Job o.Job then max (bif decide (o.Court=s.Court) then max b (fF ends o.Job) else b) (fF ends o.Job+p.Rest) else(bif decide (o.Court=s.Court) then max b (fF ends o.Job) else b))
 else b
def eP(p:aH)(pre:List aF)(ends:List Int)(s:aF):Int:=pre.foldl (aKg p ends s) (max (nZ p s.Day s.Court).Low (jobAt p s.Job).Earliest)
theorem bGv{p:aH}{ends:List Int}{s o:aF}{b x:Int}:aKg p ends s b o<=x↔b<=x/\(o.Day=s.Day->(o.Court=s.Court->fF ends o.Job<=x)/\(uH p s.Job o.Job=true->fF ends o.Job+p.Rest<=x)):=by
 unfold aKg
 by_cases h1:o.Day=s.Day<;>by_cases h2:o.Court=s.Court<;>cases h3:uH p s.Job o.Job<;>simp[h1,h2,Int.max_le,and_assoc]
theorem aWf{α:Type}{f:Int->α->Int}{C:α->Int->Prop}(hf:∀b o x,f b o<=x↔b<=x/\C o x):∀(l:List α) (b x:Int),l.foldl f b<=x↔b<=x/\∀o∈l,C o x
 |[],b,x=>by simp
 | a::l,b,x=>by
  rw[aG3,aWf hf l,hf]
  simp[and_assoc]
def bGd(p:aH)(pre:List aF)(ends:List Int)(s:aF)(x:Int):Prop:=
 (nZ p s.Day s.Court).Low<=x/\(jobAt p s.Job).Earliest<=x/\∀o∈pre,o.Day=s.Day->(o.Court=s.Court->fF ends o.Job<=x)/\(uH p s.Job o.Job=true->fF ends o.Job+p.Rest<=x)
theorem aAw{p:aH}{pre:List aF}{ends:List Int}{s:aF}{x:Int}:eP p pre ends s<=x↔bGd p pre ends s x:=by
 unfold eP bGd;rw[aWf (f:=aKg p ends s) (C:=λo x=>o.Day=s.Day->(o.Court=s.Court->fF ends o.Job<=x)/\(uH p s.Job o.Job=true->fF ends o.Job+p.Rest<=x)) (λb o x=>bGv)]
 simp[Int.max_le,and_assoc]
theorem bZr{a:Int}{C:Int->Prop}(ha:∀x,a<=x↔C x){b:Int}(hb:∀x,b<=x↔C x):a=b:=by
 have h1:=(ha b).2 ((hb b).1 (aG5 b));have h2:=(hb a).2 ((ha a).1 (aG5 a))
 omega
theorem bC{α:Type}{l:List α}{i:Nat}(h:i<l.length)(d:α):l.getD i d=l[i]:=by simp[List.getD,h]
structure Seat(p:aH)(s:aF):Prop where
 job:isJ p s.Job
 day0:0<=s.Day
 day:s.Day.toNat<p.Days.length
 court0:0<=s.Court
 court:s.Court.toNat<sD p
theorem Seat.days{p:aH}{s:aF}(h:Seat p s):idx p.Days s.Day=some (p.Days.getD s.Day.toNat []):=by rw[yQ h.day0 h.day];simp[List.getD,h.day]
theorem Seat.court'{p:aH}(hp:VP p){s:aF}(h:Seat p s):s.Court.toNat<(p.Days.getD s.Day.toNat []).length:=by
 have h1:=hp.nc _ h.day;have h2:p.Days.getD s.Day.toNat []=p.Days[s.Day.toNat]'h.day:=by simp[List.getD,h.day]
 rw[h2,h1];exact h.court
theorem Seat.span{p:aH}(hp:VP p){s:aF}(h:Seat p s):idx (p.Days.getD s.Day.toNat []) s.Court=some (nZ p s.Day s.Court):=by
 have hc:=h.court' hp;rw[yQ h.court0 hc];exact aA5 some (bC hc _).symm
theorem Seat.hours{p:aH}(hp:VP p){s:aF}(h:Seat p s):0<=(nZ p s.Day s.Court).Low/\(nZ p s.Day s.Court).Low<=(nZ p s.Day s.Court).High/\(nZ p s.Day s.Court).High<=1440:=by
 have hc:=h.court' hp;have e:nZ p s.Day s.Court=(p.Days.getD s.Day.toNat [])[s.Court.toNat]:=bC hc _;rw[e];have h2:p.Days.getD s.Day.toNat []=p.Days[s.Day.toNat]'h.day:=by simp[List.getD,h.day]
 exact hp.span _ (by rw[h2];exact j9 h.day) _ (j9 hc)
structure Ord(p:aH)(order:List aF):Prop where
 seat:∀i (h:i<order.length),Seat p order[i]
 due:∀i (h:i<order.length),order[i].Day<=(jobAt p order[i].Job).Due
 fresh:∀i (h:i<order.length) j (hj:j<i),order[j].Job≠order[i].Job
 sorted:∀i (h:i<order.length) j (hj:j<i),order[j].Day<=order[i].Day
 after:∀i (h:i<order.length),∀a∈(jobAt p order[i].Job).After,∃j,∃(hj:j<i),order[j].Job=a
theorem cHr{p:aH}{pre:List aF}{s:aF}(h:aGp p pre s=true):Seat p s:=by
 simp only[aGp,f4] at h;obtain⟨⟨⟨⟨⟨h1,h2⟩,h3⟩,h4⟩,h5⟩,h6⟩:=h;have hj:=bBd h1;have hc:=bBd h4
 simp[wi] at h3
 exact⟨hj,h3.1,by omega,hc.1,hc.2⟩
theorem aHm{p:aH}{pre:List aF}{s:aF}(h:aGp p pre s=true):s.Day<=(jobAt p s.Job).Due/\(∀o∈pre,o.Job≠s.Job)/\(∀o∈pre,o.Day<=s.Day)/\∀a∈(jobAt p s.Job).After,∃o∈pre,o.Job=a:=by
 simp only[aGp,f4,l6,aE9,k6,l9,aG7] at h;obtain⟨⟨⟨⟨⟨h1,h2⟩,h3⟩,h4⟩,h5⟩,h6⟩:=h
 simp[wi] at h3
 exact⟨by omega,h2,h5,h6⟩
theorem Ord_of{p:aH}{order:List aF}(h:isOrd p order=true):Ord p order/\order.length=p.Jobs.length:=by
 simp only[isOrd,f4,gP,l9] at h;have hm:∀i (hi:i<order.length),aGp p (order.take i) order[i]=true:=by
  intro i hi;have:=h.1 i hi
  simpa[List.getD,hi] using this
 refine⟨⟨λi hi=>cHr (hm i hi),λi hi=>(aHm (hm i hi)).1,λi hi j hj=>(aHm (hm i hi)).2.1 _ (by rw[y9];exact⟨j,by omega,rfl⟩),
  λi hi j hj=>(aHm (hm i hi)).2.2.1 _ (by rw[y9];exact⟨j,by omega,rfl⟩),λi hi a ha=>?_⟩,h.2⟩
 obtain⟨o,ho,e⟩:=(aHm (hm i hi)).2.2.2 a ha;rw[y9] at ho;obtain⟨j,hj,rfl⟩:=ho;exact⟨j,by omega,e⟩
def gG(p:aH)(order:List aF)(takes:List Int):Nat->List Int×List Int
 |0=>(List.replicate p.Jobs.length 0,List.replicate p.Jobs.length 0)
 | i+1=>
  let s:=order.getD i default
  let r:=gG p order takes i
  let b:=eP p (order.take i) r.2 s
  (r.1.set s.Job.toNat b,r.2.set s.Job.toNat (b+fF takes s.Job))
theorem zQ{p:aH}{order:List aF}{takes:List Int}:∀i,(gG p order takes i).1.length=p.Jobs.length/\(gG p order takes i).2.length=p.Jobs.length
 |0=>by simp[gG]
 | i+1=>by
  have:=zQ (p:=p) (order:=order) (takes:=takes) i
  simp[gG,this]
structure cDk(p:aH)(takes:List Int):Prop where
 len:takes.length=p.Jobs.length
 one:∀j,isJ p j->1<=fF takes j
 max:∀j,isJ p j->fF takes j<=600
theorem bAi{p:aH}(hp:VP p){order:List aF}(ho:∀i (h:i<order.length),Seat p order[i]){takes:List Int}(ht:cDk p takes):∀i,i<=order.length->∀j:Nat, 
  0<=(gG p order takes i).2.getD j 0/\(gG p order takes i).2.getD j 0<=1200*i+1440
 | 0,_,j=>by
  simp only[gG,List.getD,List.getElem?_replicate]
  split<;>simp
 | i+1,hi,j=>by
  have ih:=bAi hp ho ht i (by omega);have hs:=ho i (by omega);have e1:order.getD i default=order[i]:=by simp[List.getD,show i<order.length by omega]
  have hrest:=hp.rest;have hb:eP p (order.take i) (gG p order takes i).2 order[i]<=1200*i+1440+600:=by
   rw[aAw];have h1:=hs.hours hp;have h2:=(hs.job.vj hp).early;refine⟨by omega,by omega,λo _ _=>⟨λ_=>?_,λ_=>?_⟩⟩
   ·have:=ih o.Job.toNat;simp only[fF];omega
   ·have:=ih o.Job.toNat;simp only[fF];omega
  have hb0:0<=eP p (order.take i) (gG p order takes i).2 order[i]:=by
   have h:=aAw.1 (aG5 (eP p (order.take i) (gG p order takes i).2 order[i]));have:=(hs.job.vj hp).early0;have:=h.2.1
   omega
  have t1:=ht.one _ hs.job;have t2:=ht.max _ hs.job;simp only[gG,e1]
  by_cases hj:order[i].Job.toNat=j
  ·subst hj;have hl:=(zQ (p:=p) (order:=order) (takes:=takes) i).2;simp only[List.getD,aA1 (show order[i].Job.toNat<(gG p order takes i).2.length by rw[hl];exact hs.job.2),u7]
   constructor
   ·omega
   ·push_cast;omega
  ·have:=ih j;simp only[List.getD,List.getElem?_set_ne hj] at this|-
   constructor
   ·omega
   ·push_cast;omega
end Go.Am.Py
end
section
namespace Go.Am.Py
theorem yP{l:List Int}{p:aH}(hl:l.length=p.Jobs.length){j:Int}(hj:isJ p j)(v:Int):fF (l.set j.toNat v) j=v:=by
 have h:j.toNat<l.length:=by rw[hl];exact hj.2
 simp[fF,List.getD,h]
theorem aCd{l:List Int}{i j:Int}(hi:0<=i)(hj:0<=j)(h:i≠j)(v:Int):fF (l.set i.toNat v) j=fF l j:=by
 have:i.toNat≠j.toNat:=by omega
 simp[fF,List.getD,List.getElem?_set_ne this]
theorem A3.at_set(a:A3 Int)(i j v:Int)(hi:0<=i/\i<3)(hj:0<=j/\j<3):(a.set i v).at j=if i=j then v else a.at j:=by
 have h1:i=0\/i=1\/i=2:=by omega
 have h2:j=0\/j=1\/j=2:=by omega
 rcases h1 with rfl|rfl|rfl<;>rcases h2 with rfl|rfl|rfl<;>simp[A3.set,A3.at]
theorem A6.at_set(a:A6 Int)(i j v:Int)(hi:0<=i/\i<6)(hj:0<=j/\j<6):(a.set i v).at j=if i=j then v else a.at j:=by
 have h1:i=0\/i=1\/i=2\/i=3\/i=4\/i=5:=by omega
 have h2:j=0\/j=1\/j=2\/j=3\/j=4\/j=5:=by omega
 rcases h1 with rfl|rfl|rfl|rfl|rfl|rfl<;>rcases h2 with rfl|rfl|rfl|rfl|rfl|rfl<;>simp[A6.set,A6.at]
theorem aRs{n:Nat}{i:Int}(h:0<=i/\i<n):inb n i=some ():=by simp[inb,h]
structure Opened(p:aH)(n:Int)(d:cE):Prop where
 number:d.number=n
 free:∀c:Int,0<=c->c.toNat<sD p->d.free.at c=(nZ p n c).Low
 ends:∀k:Int,d.ends.at k=0
theorem cMr(k:Int):(A6.mk 0 0 0 0 0 0:A6 Int).at k=0:=by
 unfold A6.at
 repeat' split
 all_goals rfl
def cO(L:List bO)(i:Nat):A3 Int:=(List.range i).foldl (λ(a:A3 Int) (c:Nat)=>a.set (c:Int) (L.getD c default).Low) ⟨0,0,0⟩
theorem aZq(L:List bO)(i:Nat):cO L (i+1)=(cO L i).set (i:Int) (L.getD i default).Low:=by
 simp only[cO,aC9,List.foldl_append,aG3,List.foldl_nil]
theorem cBo(L:List bO):∀m:Nat,m<=3->∀c:Nat,c<m->(cO L m).at (c:Int)=(L.getD c default).Low:=by
 intro m
 induction m with
 |zero=>intro _ c hc;omega
 | succ m ih=>
  intro hm c hc;rw[aZq,A3.at_set _ _ _ _ ⟨by omega,by omega⟩ ⟨by omega,by omega⟩]
  by_cases h:m=c
  ·simp[h]
  ·rw[if_neg (by omega)];exact ih (by omega) c (by omega)
theorem aSr{p:aH}(hp:VP p){n:Int}(h0:0<=n)(h1:n.toNat<p.Days.length):∃d,uP p n=some d/\Opened p n d:=by
 have hc3:=hp.nc3;have hlen:(p.Days.getD n.toNat []).length=sD p:=by
  have:=hp.nc _ h1;rw[bC h1];exact this
 have hcl:(p.Days.getD n.toNat []).length<=3:=by rw[hlen];exact hc3
 generalize hL:p.Days.getD n.toNat []=L at hlen hcl
 have main:∀o4,oX L L.length o4 BIG 0 (cE.mk n (A3.mk 0 0 0) (A6.mk 0 0 0 0 0 0))=some ⟨n,cO L L.length,⟨0,0,0,0,0,0⟩⟩:=by
  intro o4;have main:=gR (λk i=>oX L L.length o4 k i ⟨n,cO L i.toNat,⟨0,0,0,0,0,0⟩⟩) L.length (λ_=>true) none (some ⟨n,cO L L.length,⟨0,0,0,0,0,0⟩⟩) ?_ ?_ BIG (cB (by omega))
  ·have e:(List.range L.length).all (λ_=>true)=true:=by simp
   rw[e] at main;exact main
  ·intro k i hi;simp only[oX,aD3,bI hi,c6,bF (show i<9223372036854775807 by omega),m6,hi,j4,i7,aRs (n:=3) (i:=(i:Int)) ⟨by omega,by omega⟩,aZq,bC hi]
  ·intro k
   simp[oX,aJk]
 refine⟨⟨n,cO L L.length,⟨0,0,0,0,0,0⟩⟩,?_,rfl,?_,λk=>cMr k⟩
 ·unfold uP;rw[yQ h0 h1,<-bC h1 [],hL];simp only[c6];exact main _
 ·intro c hc0 hc1;have:=cBo L L.length hcl c.toNat (by rw[hlen];exact hc1);have hcc:((c.toNat:Nat):Int)=c:=by omega
  rw[hcc] at this;rw[nZ,hL];exact this
end Go.Am.Py
end
section
namespace Go.Am.Py
structure DayP(p:aH)(pre:List aF)(ends:List Int)(d:cE):Prop where
 free:∀c:Int,0<=c->c.toNat<sD p->∀x,d.free.at c<=x↔(nZ p d.number c).Low<=x/\∀o∈pre,o.Day=d.number->o.Court=c->fF ends o.Job<=x
 ends1:∀k:Int,0<=k/\k<6->0<d.ends.at k->∃o∈pre,o.Day=d.number/\o.Job=k
 ends2:∀o∈pre,o.Day=d.number->d.ends.at o.Job=fF ends o.Job/\0<fF ends o.Job
theorem Opened.dayP{p:aH}{n:Int}{d:cE}(h:Opened p n d){pre:List aF}(hn:∀o∈pre,o.Day≠n)(ends:List Int):DayP p pre ends d:=by
 have e:=h.number;refine⟨λc h0 h1 x=>?_,λk _ hk=>?_,λo ho hd=>?_⟩
 ·rw[h.free c h0 h1,e];exact⟨λhx=>⟨hx,λo ho hd=>absurd hd (hn o ho)⟩,λhx=>hx.1⟩
 ·rw[h.ends k] at hk;omega
 ·rw[e] at hd;exact absurd hd (hn o ho)
theorem isJ.six{p:aH}(hp:VP p){a:Int}(h:isJ p a):0<=a/\a<6:=by
 have:=hp.nj;have:=h.2;exact⟨h.1,by omega⟩
theorem Seat.three{p:aH}(hp:VP p){s:aF}(h:Seat p s):0<=s.Court/\s.Court<3:=by
 have h1:=hp.nc3;have h2:=h.court;unfold sD at h2;exact⟨h.court0,by omega⟩
def gZ(p:aH)(d:cE)(s:aF)(b:Int)(k:Nat):Int:=bif decide (0<d.ends.at (k:Int))&&uH p s.Job k then max b (d.ends.at (k:Int)+p.Rest) else b
theorem cBw{p:aH}{d:cE}{s:aF}{b:Int}{k:Nat}{x:Int}:gZ p d s b k<=x↔b<=x/\(0<d.ends.at (k:Int)->uH p s.Job k=true->d.ends.at (k:Int)+p.Rest<=x):=by
 unfold gZ
 by_cases h1:0<d.ends.at (k:Int)<;>cases h2:uH p s.Job k<;>simp[h1,Int.max_le]
theorem bLw{p:aH}(hp:VP p){pre:List aF}(hpre:∀o∈pre,isJ p o.Job){ends:List Int}(hb:∀o∈pre,0<=fF ends o.Job/\fF ends o.Job<=1000000000000){d:cE}(hd:DayP p pre ends d)
  {s:aF}(hs:Seat p s)(hday:s.Day=d.number){len:Int}(hlen:0<=len/\len<=1000000):
  pT d p s len=some (eP p pre ends s,eP p pre ends s+len,⟨d.number,d.free.set s.Court (eP p pre ends s+len),d.ends.set s.Job (eP p pre ends s+len)⟩):=by
 have hrest:=hp.rest;have h3:=hs.three hp;have h6:=hs.job.six hp
 let b0:=max (d.free.at s.Court) (jobAt p s.Job).Earliest
 let σ:Nat->Int:=λi=>(List.range i).foldl (gZ p d s) b0
 have hσ:∀i x,σ i<=x↔b0<=x/\∀k∈List.range i,0<d.ends.at ((k:Nat):Int)->uH p s.Job k=true->d.ends.at (k:Int)+p.Rest<=x:=λi x=>
  aWf (f:=gZ p d s) (C:=λk x=>0<d.ends.at ((k:Nat):Int)->uH p s.Job k=true->d.ends.at (k:Int)+p.Rest<=x) (λb o x=>cBw) (List.range i) b0 x
 have hat:∀k:Nat,k<6->0<d.ends.at (k:Int)->isJ p (k:Int)/\d.ends.at (k:Int)<=1000000000000:=by
  intro k hk h;obtain⟨o,ho,h1,h2⟩:=hd.ends1 k ⟨by omega,by omega⟩ h;have:=hd.ends2 o ho h1;rw[h2] at this;have hbo:=hb o ho;rw[h2] at hbo;refine⟨h2▸hpre o ho,by omega⟩
 have eqb:σ 6=eP p pre ends s:=by
  refine bZr (C:=bGd p pre ends s) (λx=>?_) (λx=>aAw);rw[hσ];simp only[b0,Int.max_le,u6];rw[hd.free _ hs.court0 hs.court];unfold bGd;rw[hday]
  constructor
  ·rintro⟨⟨⟨h1,h2⟩,h3⟩,h4⟩;refine⟨h1,h3,λo ho hod=>⟨λhc=>h2 o ho hod hc,λhsh=>?_⟩⟩;obtain⟨e1,e2⟩:=hd.ends2 o ho hod;have hj6:=(hpre o ho).six hp;have hk:=h4 o.Job.toNat (by omega);have hcast:((o.Job.toNat:Nat):Int)=o.Job:=by omega
   rw[hcast,e1] at hk;exact hk e2 hsh
  ·rintro⟨h1,h3,h4⟩;refine⟨⟨⟨h1,λo ho hod hc=>(h4 o ho hod).1 hc⟩,h3⟩,λk hk h0 hsh=>?_⟩;obtain⟨o,ho,g1,g2⟩:=hd.ends1 k ⟨by omega,by omega⟩ h0;have e1:=(hd.ends2 o ho g1).1;rw[g2] at e1;rw[e1,<-g2];exact(h4 o ho g1).2 (g2▸hsh)
 have hbig:eP p pre ends s<=1000000100000/\0<=eP p pre ends s:=by
  constructor
  ·rw[aAw];have h1:=hs.hours hp;have h2:=(hs.job.vj hp).early;refine⟨by omega,by omega,λo ho _=>⟨λ_=>?_,λ_=>?_⟩⟩
   ·have:=hb o ho;omega
   ·have:=hb o ho;omega
  ·have h:=(aAw.1 (aG5 (eP p pre ends s))).2.1;have:=(hs.job.vj hp).early0
   omega
 unfold pT;simp only[aRs (n:=3) (i:=s.Court) ⟨h3.1,by have:=h3.2;omega⟩,hs.job.idx,c6];have main:=gR (λk i=>kN len d.ends d p s k (σ i.toNat) i) 6 (λ_=>true) none (vF len (σ 6) d s) ?_ ?_ BIG (cB (by omega))
 ·have e:(List.range 6).all (λ_=>true)=true:=by simp
  rw[e] at main;simp only[Int.toNat_zero,i7] at main;have e0:σ 0=max (d.free.at s.Court) (jobAt p s.Job).Earliest:=rfl;rw[e0] at main;rw[main,eqb];unfold vF;simp only[aRs (n:=3) (i:=s.Court) ⟨h3.1,by have:=h3.2;omega⟩,aRs (n:=6) (i:=s.Job) ⟨h6.1,by have:=h6.2;omega⟩,c6,cV (show-9223372036854775808<=eP p pre ends s+len by omega) (show eP p pre ends s+len<=9223372036854775807 by omega)]
 ·intro k i hi;have e:σ (i+1)=gZ p d s (σ i) i:=by
   simp only[σ,aC9,List.foldl_append,aG3,List.foldl_nil]
  have hi':decide ((i:Int)<6)=true:=by simp;omega
  simp only[kN,aD3,hi',i7,aRs (n:=6) (i:=(i:Int)) ⟨by omega,by omega⟩,c6,bF (show i<9223372036854775807 by omega),e];unfold gZ
  by_cases h0:0<d.ends.at (i:Int)
  ·obtain⟨hj,hle⟩:=hat i hi h0;simp only[h0,j4,i7,bFq hp hs.job hj,c6,w9,cV (show-9223372036854775808<=d.ends.at (i:Int)+p.Rest by omega) (show d.ends.at (i:Int)+p.Rest<=9223372036854775807 by omega)];cases uH p s.Job i<;>rfl
  ·simp[h0]
 ·intro k
  simp[kN]
theorem DayP.next{p:aH}(hp:VP p){pre:List aF}{ends:List Int}(hel:ends.length=p.Jobs.length){d:cE}(hd:DayP p pre ends d)(hpre:∀o∈pre,Seat p o){s:aF}(hs:Seat p s)(hday:s.Day=d.number)
  (hne:∀o∈pre,o.Job≠s.Job){len:Int}(hlen:1<=len):
  DayP p (pre++[s]) (ends.set s.Job.toNat (eP p pre ends s+len)) ⟨d.number,d.free.set s.Court (eP p pre ends s+len),d.ends.set s.Job (eP p pre ends s+len)⟩:=by
 have h3:=hs.three hp;have h6:=hs.job.six hp;have hold:∀o∈pre,fF (ends.set s.Job.toNat (eP p pre ends s+len)) o.Job=fF ends o.Job:=λo ho=>aCd hs.job.1 (hpre o ho).job.1 (aF9 (hne o ho)) _;have hnew:fF (ends.set s.Job.toNat (eP p pre ends s+len)) s.Job=eP p pre ends s+len:=yP hel hs.job _;have hw:=aAw.1 (aG5 (eP p pre ends s));have hpos:0<=eP p pre ends s:=by
  have:=(hs.job.vj hp).early0;have:=hw.2.1
  omega
 refine⟨λc h0 h1 x=>?_,λk hk h=>?_,λo ho hod=>?_⟩
 ·have hc3:0<=c/\c<3:=by have:=hp.nc3;unfold sD at h1;exact⟨h0,by omega⟩
  simp only;rw[A3.at_set _ _ _ _ h3 hc3]
  by_cases hc:s.Court=c
  ·rw [if_pos hc]
   constructor
   ·intro hx;refine⟨?_,λo ho hod hoc=>?_⟩
    ·have:=hw.1;rw[hday,hc] at this
     omega
    ·rcases i6.1 ho with ho|ho
     ·rw[hold o ho];have:=(hw.2.2 o ho (by rw[hday];exact hod)).1 (by rw[hc];exact hoc)
      omega
     ·simp at ho;subst ho
      rw[hnew];exact hx
   ·intro h;have:=h.2 s (by simp) hday hc
    rwa[hnew] at this
  ·rw [if_neg hc,hd.free c h0 h1]
   constructor
   ·rintro⟨g1,g2⟩;refine⟨g1,λo ho hod hoc=>?_⟩
    rcases i6.1 ho with ho|ho
    ·rw[hold o ho];exact g2 o ho hod hoc
    ·simp at ho;subst ho
     exact absurd hoc hc
   ·rintro⟨g1,g2⟩;refine⟨g1,λo ho hod hoc=>?_⟩;have:=g2 o (i6.2 (.inl ho)) hod hoc
    rwa[hold o ho] at this
 ·simp only at h;rw[A6.at_set _ _ _ _ h6 hk] at h
  by_cases hj:s.Job=k
  ·exact⟨s,by simp,hday,hj⟩
  ·rw[if_neg hj] at h;obtain⟨o,ho,g1,g2⟩:=hd.ends1 k hk h;exact⟨o,i6.2 (.inl ho),g1,g2⟩
 ·simp only at hod|-
  rcases i6.1 ho with ho|ho
  ·rw[A6.at_set _ _ _ _ h6 ((hpre o ho).job.six hp),if_neg (aF9 (hne o ho)),hold o ho];exact hd.ends2 o ho hod
  ·simp at ho;subst ho
   rw[A6.at_set _ _ _ _ h6 h6,if_pos rfl,hnew];exact⟨rfl,by omega⟩
end Go.Am.Py
end
section
namespace Go.Am.Py
def gO(p:aH):List Int:=p.Jobs.map (·.Length.High)
theorem aFu{p:aH}(g:bK->Int){j:Int}(hj:isJ p j):fF (p.Jobs.map g) j=g (jobAt p j):=by
 simp[fF,jobAt,List.getD,hj.2]
theorem bSx{p:aH}(hp:VP p):cDk p (gO p):=
 ⟨by simp[gO],λj hj=>by rw[gO,aFu _ hj];have:=(hj.vj hp).le;have:=(hj.vj hp).low;omega,λj hj=>by rw[gO,aFu _ hj];exact(hj.vj hp).high⟩
def cOz(p:aH)(order:List aF):List Int×List Int:=gG p order (gO p) order.length
def bFx(p:aH)(order:List aF):Bool:=(List.range order.length).all λi=>decide (fF (cOz p order).2 (order.getD i default).Job<=(nZ p (order.getD i default).Day (order.getD i default).Court).High)
theorem bEy{p:aH}{order:List aF}(ho:Ord p order){t:List Int}{k:Nat}(hk:k<order.length):∀m,k<m->m<=order.length->
  fF (gG p order t m).1 order[k].Job=eP p (order.take k) (gG p order t k).2 order[k]/\fF (gG p order t m).2 order[k].Job=eP p (order.take k) (gG p order t k).2 order[k]+fF t order[k].Job
 |0,h,_=>by omega
 | m+1,h,hm=>by
  have hl:=zQ (p:=p) (order:=order) (takes:=t) m;have e1:order.getD m default=order[m]:=by simp[List.getD,show m<order.length by omega]
  have hs:=ho.seat k hk;have hsm:=ho.seat m (by omega);simp only[gG,e1]
  by_cases hkm:k=m
  ·subst hkm;exact⟨yP hl.1 hs.job _,yP hl.2 hs.job _⟩
  ·have ih:=bEy ho (t:=t) hk m (by omega) (by omega);have hne:=ho.fresh m (by omega) k (by omega);rw[aCd hsm.job.1 hs.job.1 (aF9 hne),aCd hsm.job.1 hs.job.1 (aF9 hne)];exact ih
end Go.Am.Py
end
section
namespace Go.Am.Py
end Go.Am.Py
end
section
namespace Go.Am.Py
def bit(d:Int)(j:Nat):Bool:=decide (bYs (d.fdiv (2^(min j 64))) 1=1)
def cnt(d:Int):Nat:=((List.range 6).filter λj=>bit d j).length
theorem cFm:∀d:Fin 64,∀j:Fin 6,bOr ((d.val:Nat):Int) (w64 (1*2^(min j.val 64)))=((d.val|||2^j.val:Nat):Int):=by decide+kernel
theorem bYy:∀d:Fin 64,∀j:Fin 6,∀k:Fin 6,bit ((d.val|||2^j.val:Nat):Int) k.val=(decide (j=k)||bit ((d.val:Nat):Int) k.val):=by decide+kernel
theorem bYw:∀d:Fin 64,∀j:Fin 6,bit ((d.val:Nat):Int) j.val=false->cnt ((d.val|||2^j.val:Nat):Int)=cnt ((d.val:Nat):Int)+1:=by decide+kernel
theorem bUb:∀n:Fin 7,∀d:Fin 64,d.val<2^n.val->(d.val=2^n.val-1↔cnt ((d.val:Nat):Int)=n.val):=by decide+kernel
theorem bDo:∀j:Fin 6,bit 0 j.val=false:=by decide+kernel
theorem bYx:∀n:Fin 7,∀d:Fin 64,∀j:Fin 6,d.val<2^n.val->j.val<n.val->(d.val|||2^j.val)<2^n.val:=by decide+kernel
theorem cGg:∀n:Fin 7,w64 (w64 (1*2^(min n.val 64))-1)=((2^n.val-1:Nat):Int):=by decide+kernel
def aHl(p:aH):Int:=w64 (w64 (1*2^(min p.Jobs.length 64))-1)
def mv(old:Option (List aF))(s:aF):Int:=match old with|none=>0|some l=>bif decide (s∈l) then 0 else 1
theorem aTp(old:Option (List aF))(s:aF):0<=mv old s/\mv old s<=1:=by
 unfold mv;cases old with
 |none=>simp
 | some l=>
  simp only;cases hd:decide (s∈l)<;>simp
theorem aVr(l:List aF)(hl:l.length<=9223372036854775807)(v:aF):nB l v=some (decide (v∈l)):=by
 have key:pP l v=some (match l.findIdx? (λx=>decide (v=x)) with|some i=>(i:Int)|none=> -1):=by
  unfold pP;rw[eX (S:=Unit) (λk i _=>iH l l.length v k i) l.length (λi _=>some (match(l.drop i).findIdx? (λx=>decide (v=x)) with|some j=>((i+j:Nat):Int)|none=> -1)) (λ_ _=>True) ?_ ?_ BIG () (cB hl) trivial]
  ·simp
  ·intro k i _ hi _ ih;have:=ih () trivial;simp only[iH,bI hi,c6,bF (show i<9223372036854775807 by omega),m6,hi,j4,i7,this];rw[v6 hi,aF5]
   by_cases h:v=l[i]
   ·simp[h]
   ·simp only[h,m5,g6,aB5,aB8];cases List.findIdx? (λx=>decide (v=x)) (List.drop (i+1) l) with
    |none=>rfl
    |some j=>simp;omega
  ·intro k _ _
   simp[iH,yC]
 unfold nB;rw[key];cases h:List.findIdx? (λx=>decide (v=x)) l with
 | none=>
  simp at h
  have:v∉l:=λhm=>h v hm rfl
  simp[this]
 | some j=>
  have:v∈l:=by
   obtain⟨h1,h2,_⟩:=aA0.1 h
   simp at h2
   rw[h2];exact j9 h1
  simp[this]
theorem cGs(s:dQ)(hl:∀l,s.old=some l->l.length<=9223372036854775807)(x:aF):oG s x=some (mv s.old x):=by
 unfold oG mv;cases h:s.old with
 |none=>simp
 | some l=>
  simp only[Option.isNone_some,g6,u7,aVr l (hl l h),c6];cases decide (x∈l)<;>rfl
def aOt(p:aH)(x:aE)(n:Int):Option cE:=bif decide (x.day.number<n) then uP p n else some x.day
structure SStep(p:aH)(days:Int)(old:Option (List aF))(x:aE)(s:aF)(x':aE):Prop where
 job:isJ p s.Job
 new:bit x.done s.Job.toNat=false
 after:∀a∈(jobAt p s.Job).After,bit x.done a.toNat=true
 day0:x.day.number<=s.Day
 days:s.Day<days
 due:s.Day<=(jobAt p s.Job).Due
 court0:0<=s.Court
 court:s.Court.toNat<sD p
 plays:∃now b e d',aOt p x s.Day=some now/\pT now p s (jobAt p s.Job).Length.High=some (b,e,d')/\e<=(nZ p s.Day s.Court).High/\x'=⟨d',bOr x.done (w64 (1*2^(min s.Job.toNat 64))),w64 (x.moves-mv old s)⟩
 moves:0<=x'.moves
def aHe(p:aH)(days:Int)(old:Option (List aF)):aE->List aF->Prop
 |x,[]=>x.done=aHl p
 |x,s::l=>x.done≠aHl p/\∃x',SStep p days old x s x'/\aHe p days old x' l
abbrev uV:=List (aE×Int)
structure bGn(p:aH)(days:Int)(old:Option (List aF))(S:uV)(c:Nat):Prop where
 dead:∀y,1<=bW y 0 S->c<=cnt y.done->∀l,¬aHe p days old y l
 rng:∀y,-9223372036854775808<=bW y 0 S/\bW y 0 S<=9223372036854775807
def cOd(S S':uV)(c:Nat):Prop:=∀y,1<=bW y 0 S'->1<=bW y 0 S\/c<=cnt y.done
theorem aBf{α β:Type}[DecidableEq α](a b:α)(z v:β):∀l:List (α×β),bW b z (dE a v l)=if b=a then v else bW b z l
 |[]=>by by_cases h:b=a<;>simp[dE,bW,h]
 | (k,u)::l=>by
  by_cases h1:a=k
  ·subst h1
   by_cases h2:b=a
   ·simp[dE,bW,h2]
   ·simp[dE,bW,h2]
  ·by_cases h2:b=k
   ·subst h2
    simp[dE,bW,h1,aF9 h1]
   ·simp[dE,bW,h1,h2,aBf a b z v l]
structure Rep(p:aH)(old:Option (List aF))(m0:Int)(pre:List aF)(x:aE):Prop where
 ord:Ord p pre
 num:0<=x.day.number/\x.day.number.toNat<p.Days.length
 le:∀o∈pre,o.Day<=x.day.number
 last:pre=[]/\x.day.number=0\/∃o∈pre,o.Day=x.day.number
 day:DayP p pre (gG p pre (gO p) pre.length).2 x.day
 done:∃d:Nat,x.done=d/\d<2^p.Jobs.length
 bits:∀j,isJ p j->(bit x.done j.toNat=true↔∃o∈pre,o.Job=j)
 count:cnt x.done=pre.length
 moves:x.moves=m0-(pre.map (mv old)).sum
 pos:0<=x.moves
 m0:m0<=1000
theorem aFi{p:aH}{pre l:List aF}{t:List Int}:∀i,i<=pre.length->gG p (pre++l) t i=gG p pre t i
 |0,_=>rfl
 | i+1,h=>by
  have h':i<pre.length:=by omega
  have e:(pre++l).getD i default=pre.getD i default:=by simp[List.getD,m9 h']
  have ih:=aFi (p:=p) (l:=l) (t:=t) i (show i<=pre.length by omega);simp only[gG,ih,e];rw[aE4 (show i<=pre.length by omega)]
theorem bWw{n:Nat}(h:n<=6):2^n<=64:=by
 have:2^n<=2^6:=aE5 (by omega) h
 simpa using this
theorem Ord.push{p:aH}{pre:List aF}(h:Ord p pre){s:aF}(hs:Seat p s)(hdue:s.Day<=(jobAt p s.Job).Due)(hne:∀o∈pre,o.Job≠s.Job)(hle:∀o∈pre,o.Day<=s.Day)(ha:∀a∈(jobAt p s.Job).After,∃o∈pre,o.Job=a):Ord p (pre++[s]):=by
 have get:∀i (hi:i<(pre++[s]).length),(∃h:i<pre.length,(pre++[s])[i]=pre[i])\/(i=pre.length/\(pre++[s])[i]=s):=by
  intro i hi
  by_cases h1:i<pre.length
  ·exact .inl ⟨h1,w7 h1⟩
  ·have:i=pre.length:=by simp at hi;omega
   subst this;exact .inr ⟨rfl,by simp⟩
 refine⟨λi hi=>?_,λi hi=>?_,λi hi j hj=>?_,λi hi j hj=>?_,λi hi a haa=>?_⟩
 ·rcases get i hi with⟨h1,e⟩|⟨_,e⟩<;>rw[e]
  ·exact h.seat i h1
  ·exact hs
 ·rcases get i hi with⟨h1,e⟩|⟨_,e⟩<;>rw[e]
  ·exact h.due i h1
  ·exact hdue
 ·rcases get i hi with⟨h1,e⟩|⟨h1,e⟩<;>rw[e]
  ·have e2:(pre++[s])[j]'(by simp;omega)=pre[j]'(by omega):=w7 (by omega);rw[e2];exact h.fresh i h1 j hj
  ·have e2:(pre++[s])[j]'(by simp;omega)=pre[j]'(by omega):=w7 (by omega);rw[e2];exact hne _ (j9 _)
 ·rcases get i hi with⟨h1,e⟩|⟨h1,e⟩<;>rw[e]
  ·have e2:(pre++[s])[j]'(by simp;omega)=pre[j]'(by omega):=w7 (by omega);rw[e2];exact h.sorted i h1 j hj
  ·have e2:(pre++[s])[j]'(by simp;omega)=pre[j]'(by omega):=w7 (by omega);rw[e2];exact hle _ (j9 _)
 ·rcases get i hi with⟨h1,e⟩|⟨h1,e⟩
  ·rw[e] at haa;obtain⟨j,hj,e3⟩:=h.after i h1 a haa;exact⟨j,hj,by rw[w7 (by omega)];exact e3⟩
  ·rw[e] at haa;obtain⟨o,ho,e3⟩:=ha a haa;obtain⟨j,hj,rfl⟩:=n6 ho;exact⟨j,by omega,by rw[w7 hj];exact e3⟩
theorem aTv{p:aH}{old:Option (List aF)}{m0:Int}{pre:List aF}{x:aE}(h:Rep p old m0 pre x):pre.length<=6:=by
 rw[<-h.count];unfold cnt;have:=z8 (λj=>bit x.done j) (List.range 6)
 simpa using this
theorem Rep.bounds{p:aH}(hp:VP p){old:Option (List aF)}{m0:Int}{pre:List aF}{x:aE}(h:Rep p old m0 pre x):
  ∀o∈pre,0<=fF (gG p pre (gO p) pre.length).2 o.Job/\fF (gG p pre (gO p) pre.length).2 o.Job<=1000000000000:=by
 intro o _;have:=bAi hp h.ord.seat (bSx hp) pre.length (n5 _) o.Job.toNat;have:=aTv h;simp only[fF]
 omega
theorem bNw{p:aH}(hp:VP p){old:Option (List aF)}{m0:Int}{pre:List aF}{x:aE}(h:Rep p old m0 pre x){n:Int}(h0:x.day.number<=n)(h1:n.toNat<p.Days.length):
  ∃now,aOt p x n=some now/\now.number=n/\DayP p pre (gG p pre (gO p) pre.length).2 now:=by
 have hn:=h.num;unfold aOt
 by_cases hlt:x.day.number<n
 ·obtain⟨d,hd,od⟩:=aSr hp (n:=n) (by omega) h1;refine⟨d,by simp[hlt,hd],od.number,od.dayP (λo ho e=>?_) _⟩;have:=h.le o ho
  omega
 ·have:x.day.number=n:=by omega
  exact⟨x.day,by simp[hlt],this,h.day⟩
theorem aWv{p:aH}(hp:VP p){old:Option (List aF)}{m0:Int}{pre:List aF}{x:aE}(h:Rep p old m0 pre x){s:aF}(hs:Seat p s)(h0:x.day.number<=s.Day):
  ∃ now,aOt p x s.Day=some now/\now.number=s.Day/\DayP p pre (gG p pre (gO p) pre.length).2 now/\
   pT now p s (jobAt p s.Job).Length.High=some (eP p pre (gG p pre (gO p) pre.length).2 s,eP p pre (gG p pre (gO p) pre.length).2 s+(jobAt p s.Job).Length.High,
    ⟨now.number,now.free.set s.Court (eP p pre (gG p pre (gO p) pre.length).2 s+(jobAt p s.Job).Length.High),now.ends.set s.Job (eP p pre (gG p pre (gO p) pre.length).2 s+(jobAt p s.Job).Length.High)⟩):=by
 obtain⟨now,e1,e2,e3⟩:=bNw hp h h0 hs.day;have hv:=hs.job.vj hp;have hpre:∀o∈pre,isJ p o.Job:=λo ho=>by
  obtain⟨i,hi,rfl⟩:=n6 ho;exact(h.ord.seat i hi).job
 refine⟨now,e1,e2,e3,bLw hp hpre (h.bounds hp) e3 hs e2.symm ?_⟩;have:=hv.low;have:=hv.le;have:=hv.high
 omega
theorem Rep.step{p:aH}(hp:VP p){days:Int}(hdays:days<=p.Days.length){old:Option (List aF)}{m0:Int}{pre:List aF}{x:aE}(h:Rep p old m0 pre x){s:aF}{x':aE}(hst:SStep p days old x s x'):
  Rep p old m0 (pre++[s]) x'/\Seat p s/\fF (gG p (pre++[s]) (gO p) (pre++[s]).length).2 s.Job<=(nZ p s.Day s.Court).High:=by
 have hn:=h.num;have hd0:=hst.day0;have hd1:=hst.days;have hs:Seat p s:=⟨hst.job,by omega,by omega,hst.court0,hst.court⟩;obtain⟨now,e1,e2,e3,e4⟩:=aWv hp h hs hst.day0;obtain⟨now',b,e,d',f1,f2,f3,rfl⟩:=hst.plays;rw[e1] at f1;cases f1;rw[e4] at f2;simp only[m7,aE8] at f2;obtain⟨rfl,rfl,rfl⟩:=f2;have hv:=hs.job.vj hp;have hpreS:∀o∈pre,Seat p o:=λo ho=>by
  obtain⟨i,hi,rfl⟩:=n6 ho;exact h.ord.seat i hi
 have hne:∀o∈pre,o.Job≠s.Job:=λo ho e=>by
  have:=(h.bits _ hs.job).2 ⟨o,ho,e⟩;rw[hst.new] at this;cases this
 have hle:∀o∈pre,o.Day<=s.Day:=λo ho=>Int.le_trans (h.le o ho) hst.day0;have hafter:∀a∈(jobAt p s.Job).After,∃o∈pre,o.Job=a:=λa ha=>by
  have hja:isJ p a:=by
   have:=hv.after a ha;have:=hs.job.2;exact⟨by omega,by omega⟩
  exact(h.bits a hja).1 (hst.after a ha)
 have hlen:=zQ (p:=p) (order:=pre) (takes:=gO p) pre.length;have hrun:(gG p (pre++[s]) (gO p) (pre++[s]).length).2=(gG p pre (gO p) pre.length).2.set s.Job.toNat (eP p pre (gG p pre (gO p) pre.length).2 s+(jobAt p s.Job).Length.High):=by
  have e5:(pre++[s]).length=pre.length+1:=by simp
  rw[e5];have e6:(pre++[s]).getD pre.length default=s:=by simp[List.getD]
  have e7:(pre++[s]).take pre.length=pre:=by simp
  simp only[gG,aFi pre.length (n5 _),e6,e7];have e8:fF (gO p) s.Job=(jobAt p s.Job).Length.High:=by rw[gO,aFu _ hs.job]
  rw[e8]
 obtain⟨d,hd,hdl⟩:=h.done;have h6:=hs.job.six hp;have hnj:=hp.nj;have hd64:d<64:=u4 hdl (bWw hnj);have hj6:s.Job.toNat<6:=by omega
 have hor:bOr x.done (w64 (1*2^(min s.Job.toNat 64)))=((d|||2^s.Job.toNat:Nat):Int):=by
  rw[hd];exact cFm ⟨d,hd64⟩ ⟨s.Job.toNat,hj6⟩
 have hmv:=aTp old s;have hsum:∀l:List aF,0<=(l.map (mv old)).sum:=by
  intro l
  induction l with
  |nil=>simp
  |cons a l ih=>have:=(aTp old a).1;simp;omega
 have hxm:=h.moves;have hxp:=h.pos;have hm0:=h.m0;have hs0:=hsum pre;refine⟨⟨h.ord.push hs hst.due hne hle hafter,?_,?_,?_,?_,?_,?_,?_,?_,hst.moves,h.m0⟩,hs,?_⟩
 ·simp only;rw[e2];exact⟨hs.day0,hs.day⟩
 ·intro o ho;simp only;rw[e2]
  rcases i6.1 ho with ho|ho
  ·exact hle o ho
  ·simp at ho;rw[ho];exact aG5 _
 ·right
  exact⟨s,by simp,e2.symm⟩
 ·rw[hrun];exact e3.next hp hlen.2 hpreS hs e2.symm hne (by have:=hv.low;have:=hv.le;omega)
 ·simp only;exact⟨d|||2^s.Job.toNat,hor,bYx ⟨p.Jobs.length,by omega⟩ ⟨d,hd64⟩ ⟨s.Job.toNat,hj6⟩ hdl hs.job.2⟩
 ·intro j hj;have hjs:=hj.six hp;simp only;rw[hor];have:=bYy ⟨d,hd64⟩ ⟨s.Job.toNat,hj6⟩ ⟨j.toNat,by omega⟩;simp only at this;rw[this,<-hd];simp only[aC8,l9,Fin.mk.injEq,h.bits j hj]
  constructor
  ·rintro(h1|⟨o,ho,e⟩)
   ·exact⟨s,by simp,by have:=hs.job.1;have:=hj.1;omega⟩
   ·exact⟨o,i6.2 (.inl ho),e⟩
  ·rintro⟨o,ho,e⟩
   rcases i6.1 ho with ho|ho
   ·exact .inr ⟨o,ho,e⟩
   ·simp at ho;subst ho;left;rw[e]
 ·simp only;rw[hor,bYw ⟨d,hd64⟩ ⟨s.Job.toNat,hj6⟩ (by simp only;rw[<-hd];exact hst.new)];simp only;rw[<-hd,h.count]
  simp
 ·simp only;rw[cV (by omega) (by omega),hxm]
  simp
  omega
 ·rw[hrun,yP hlen.2 hs.job];exact f3
end Go.Am.Py
end
section
namespace Go.Am.Py
def aBp(p:aH)(days:Int)(old:Option (List aF))(x:aE)(S0:uV)(r:Option (List aF×Bool×uV)):Prop:=
 ∃l b S',r=some (l,b,S')/\(b=true->aHe p days old x l/\l.length+cnt x.done<=6)/\(b=false->l=[]/\(∀l,¬aHe p days old x l)/\bGn p days old S' (cnt x.done)/\cOd S0 S' (cnt x.done))
def aQu(p:aH)(days:Int)(old:Option (List aF))(x:aE)(s:aF):Prop:=∀x' l,SStep p days old x s x'->¬aHe p days old x' l
structure J(p:aH)(days:Int)(old:Option (List aF))(x:aE)(S0 S:uV):Prop where
 inv:bGn p days old S (cnt x.done+1)
 grow:∀y,1<=bW y 0 S->1<=bW y 0 S0\/y=x\/cnt x.done+1<=cnt y.done
theorem bNs(x:aE){j:Int}(h:0<=j):uC x j=some (bit x.done j.toNat):=by
 simp[uC,chk,h,bit]
section
variable{p:aH}(hp:VP p){days:Int}(hdays:days<=p.Days.length){old:Option (List aF)}(hold:∀l,old=some l->l.length<=9223372036854775807){m0:Int}{pre:List aF}{x:aE}(hx:Rep p old m0 pre x)(hnf:x.done≠aHl p)(S0:uV)
 (againR:dQ->uV->aE->Option (List aF×Bool×uV))
 (IH:∀pre' x' S,Rep p old m0 pre' x'->cnt x'.done=cnt x.done+1->bGn p days old S (cnt x.done+1)->aBp p days old x' S (againR (dQ.mk p days old) S x'))
include hp hdays hold hx hnf IH
theorem bLv{job:Int}(hj:isJ p job)(hnew:bit x.done job.toNat=false)(hafter:∀a∈(jobAt p job).After,bit x.done a.toNat=true){n:Nat}(hn0:x.day.number<=n)(hn1:(n:Int)<days)(hdue:(n:Int)<=(jobAt p job).Due)
  {now:cE}(hnow:aOt p x n=some now)(again0 again4:Int->uV->Option (List aF×Bool×uV))(t51:List bK)(t52 t53:Int)
  (H4:∀S,J p days old x S0 S->(∀c,aQu p days old x ⟨job,n,c⟩)->aBp p days old x S0 (again4 ((n+1:Nat):Int) S))(S:uV)(hS:J p days old x S0 S):
  aBp p days old x S0 (dZ againR again0 again4 p days old job n t51 t52 t53 (p.Days.getD n []) ((p.Days.getD n []).length:Int) x (jobAt p job) now BIG 0 S):=by
 have hnd:=hp.nd;have hnD:n<p.Days.length:=by omega
 have hcl:(p.Days.getD n []).length=sD p:=by rw[bC hnD];exact hp.nc n hnD
 have hc3:sD p<=3:=hp.nc3;refine uM (λk c S=>dZ againR again0 again4 p days old job n t51 t52 t53 (p.Days.getD n []) ((p.Days.getD n []).length:Int) x (jobAt p job) now k c S) (sD p) (aBp p days old x S0)
  (λc S=>J p days old x S0 S/\∀c':Nat,c'<c->aQu p days old x ⟨job,n,c'⟩) ?_ ?_ BIG 0 S (by unfold BIG;omega) ⟨hS,λc' h=>by omega⟩
 ·rintro k c S hc ⟨hJ,hdead⟩ ih
  let s:aF:=⟨job,n,c⟩
  have hs:Seat p s:=⟨hj,by simp only[s];omega,by simpa[s] using hnD,by simp only[s];omega,by simpa[s] using hc⟩;obtain⟨now',e1,e2,e3,e4⟩:=aWv hp hx hs (by simpa[s] using hn0);have:now'=now:=by
   have e1':aOt p x n=some now':=e1;rw[hnow] at e1';cases e1';rfl
  subst this;have hcc:c<(p.Days.getD n []).length:=by rw[hcl];exact hc
  have hspan:idx (p.Days.getD n []) (c:Int)=some (nZ p s.Day s.Court):=by
   have:=hs.span hp
   simpa[s] using this
  have hmv:=aTp old s;have hxp:=hx.pos;have hxm:=hx.moves;have hm0:=hx.m0;have hbnd:x.moves<=1000:=by
   have:0<=(pre.map (mv old)).sum:=by
    clear hxm
    generalize pre=l
    induction l with
    |nil=>simp
    |cons a l ih=>have:=(aTp old a).1;simp;omega
   omega
  have hlt:decide ((c:Int)<((p.Days.getD n []).length:Int))=true:=n7 (by omega);have hchk:chk (decide (0<=job))=some ():=by simp[chk,hj.1]
  have hmove:oG (dQ.mk p days old) s=some (mv old s):=cGs _ (λl h=>hold l h) s;simp only[dZ,hlt,i7,hspan,hchk,c6];rw[show(aF.mk job (n:Int) (c:Int))=s from rfl,hmove];simp only[c6];rw[show(jobAt p job).Length.High=(jobAt p s.Job).Length.High from rfl,e4];simp only[c6,jG,cV (show-9223372036854775808<=x.moves-mv old s by omega) (show x.moves-mv old s<=9223372036854775807 by omega),bF (show c<9223372036854775807 by omega)]
  generalize hb:eP p pre (gG p pre (gO p) pre.length).2 s=b at e4
  let d':cE:=⟨now'.number,now'.free.set s.Court (b+(jobAt p s.Job).Length.High),now'.ends.set s.Job (b+(jobAt p s.Job).Length.High)⟩
  let x':aE:=⟨d',bOr x.done (w64 (1*2^(min s.Job.toNat 64))),w64 (x.moves-mv old s)⟩
  have dead_next:(∀l,SStep p days old x s x'->¬aHe p days old x' l)->∀c':Nat,c'<c+1->aQu p days old x ⟨job,n,c'⟩:=by
   intro h c' hc'
   by_cases hcc':c'=c
   ·subst hcc';intro x'' l hst;obtain⟨n1,b1,e1',d1,a1,a2,a3,rfl⟩:=hst.plays;have a1':aOt p x n=some n1:=a1;rw[hnow] at a1';cases a1';have a2':=a2;rw[show(aF.mk job (n:Int) (c':Int))=s from rfl,e4] at a2';simp only[m7,aE8] at a2';obtain⟨rfl,rfl,rfl⟩:=a2';exact h l hst
   ·exact hdead c' (by omega)
  cases hlate:decide ((nZ p s.Day s.Court).High<b+(jobAt p s.Job).Length.High) with
  | true=>
   simp only[Bool.true_or,i7];refine ih S ⟨hJ,dead_next λl hst=>?_⟩;obtain⟨n1,b1,e1',d1,a1,a2,a3,_⟩:=hst.plays;have a1':aOt p x n=some n1:=a1;rw[hnow] at a1';cases a1';rw[e4] at a2;simp only[m7,aE8] at a2;obtain⟨_,rfl,_⟩:=a2
   simp at hlate
   omega
  | false=>
   cases hneg:decide (x.moves-mv old s<0) with
   | true=>
    simp only[aB0,i7];refine ih S ⟨hJ,dead_next λl hst=>?_⟩;have:=hst.moves;simp only[x',cV (show-9223372036854775808<=x.moves-mv old s by omega) (show x.moves-mv old s<=9223372036854775807 by omega)] at this
    simp at hneg
    omega
   | false=>
    simp only[aB0,g6];have hst:SStep p days old x s x':=by
     refine⟨hj,hnew,hafter,hn0,hn1,hdue,hs.court0,hs.court,⟨now',b,_,d',e1,e4,by simpa using hlate,rfl⟩,?_⟩;simp only[x',cV (show-9223372036854775808<=x.moves-mv old s by omega) (show x.moves-mv old s<=9223372036854775807 by omega)]
     simpa using hneg
    obtain⟨hrep,_,_⟩:=hx.step hp hdays hst;have hcnt:cnt x'.done=cnt x.done+1:=by rw[hrep.count,hx.count];simp
    obtain⟨l,b',S',hr,ht,hf⟩:=IH _ x' S hrep hcnt hJ.inv;have hx':(aE.mk d' (bOr x.done (w64 (1*2^(min job.toNat 64)))) (x.moves-mv old s))=x':=by
     simp only[x',cV (show-9223372036854775808<=x.moves-mv old s by omega) (show x.moves-mv old s<=9223372036854775807 by omega)]
     rfl
    rw[show(aE.mk ⟨now'.number,now'.free.set s.Court (b+(jobAt p s.Job).Length.High),now'.ends.set s.Job (b+(jobAt p s.Job).Length.High)⟩ (bOr x.done (w64 (1*2^(min job.toNat 64)))) (x.moves-mv old s))=x' from hx',hr];simp only[c6];cases b' with
    | true=>
     obtain⟨h1,h2⟩:=ht rfl;simp only[i7];rw[gD (by simp;omega)];refine⟨[s]++l,true,S',rfl,λ_=>⟨⟨hnf,x',hst,h1⟩,?_⟩,λh=>by cases h⟩;rw[hcnt] at h2
     simp
     omega
    | false=>
     obtain⟨_,h1,h2,h3⟩:=hf rfl;simp only[g6];refine ih S' ⟨⟨by rw[hcnt] at h2;exact h2,λy hy=>?_⟩,dead_next λl _=>h1 l⟩
     rcases h3 y hy with h|h
     ·exact hJ.grow y h
     ·exact .inr (.inr (by rw[hcnt] at h;exact h))
 ·rintro k c S hc ⟨hJ,hdead⟩;have hlt:decide ((c:Int)<((p.Days.getD n []).length:Int))=false:=j6 (by omega);simp only[dZ,hlt,g6,rQ,rP,bF (show n<9223372036854775807 by omega)];refine H4 S hJ λc' x' l hst=>?_;have h0:0<=c':=hst.court0;have h1:c'.toNat<sD p:=hst.court;have e:((c'.toNat:Nat):Int)=c':=by omega
  have:=hdead c'.toNat (by omega);rw[e] at this;exact this x' l hst
theorem bUk{job:Int}(hj:isJ p job)(hnew:bit x.done job.toNat=false)(hafter:∀a∈(jobAt p job).After,bit x.done a.toNat=true)(again0:Int->uV->Option (List aF×Bool×uV))(t51:List bK)(t52:Int){t53:Nat}(ht53:t53<9223372036854775807)
  (H0:∀S,J p days old x S0 S->(∀n c,aQu p days old x ⟨job,n,c⟩)->aBp p days old x S0 (again0 ((t53+1:Nat):Int) S))(S:uV)(hS:J p days old x S0 S):
  aBp p days old x S0 (rO againR again0 p days old job t51 t52 t53 S x (jobAt p job)):=by
 have hnd:=hp.nd;have hnum:=hx.num;have hdue2:=(hj.vj hp).due;unfold rO;have hnn:x.day.number=((x.day.number.toNat:Nat):Int):=by omega
 rw[hnn];refine uM (λk n S=>eJ againR again0 p days old job t51 t52 t53 x (jobAt p job) k n S) (min days ((jobAt p job).Due+1)).toNat (aBp p days old x S0)
  (λi S=>x.day.number<=i/\i<=1000/\J p days old x S0 S/\∀n c,n<(i:Int)->aQu p days old x ⟨job,n,c⟩) ?_ ?_ BIG x.day.number.toNat S (by unfold BIG;omega) ⟨by omega,by omega,hS,λn c h x' l hst=>?_⟩
 ·rintro k n S hn ⟨hn0,hn1,hJ,hdead⟩ ih;have h1:(n:Int)<days:=by omega
  have h2:(n:Int)<=(jobAt p job).Due:=by omega
  have hnD:n<p.Days.length:=by omega
  obtain⟨now,hnow,_,_⟩:=bNw hp hx (n:=n) hn0 (by simpa using hnD);have hidx:idx p.Days (n:Int)=some (p.Days.getD n []):=by rw[bI hnD,bC hnD]
  have main:=bLv hp hdays hold hx hnf S0 againR IH hj hnew hafter hn0 h1 h2 hnow again0 (eJ againR again0 p days old job t51 t52 t53 x (jobAt p job) k) t51 t52 t53 (λS' hS' hd=>ih S' ⟨by omega,by omega,hS',λn' c' h'=>by
   by_cases e:n'=n
   ·subst e;exact hd c'
   ·exact hdead n' c' (by omega)⟩) S hJ
  simp only[eJ,h1,h2,j4,i7,c6];unfold aOt at hnow;cases hlt:decide (x.day.number<(n:Int)) with
  | true=>
   rw[hlt] at hnow;simp only[i7] at hnow|-;simp only[hnow,c6,hidx];exact main
  | false=>
   rw[hlt] at hnow;simp only[g6,m7] at hnow|-;subst hnow;simp only[hidx,c6];exact main
 ·rintro k n S hn ⟨hn0,hn1,hJ,hdead⟩;have hstop:((bif decide ((n:Int)<days) then(some (decide ((n:Int)<=(jobAt p job).Due))) else(some false)):Option Bool)=some false:=by
   rw[dA]
   congr 1
   by_cases h1:(n:Int)<days
   ·have:¬(n:Int)<=(jobAt p job).Due:=by omega
    simp[this]
   ·simp[h1]
  simp only[eJ,hstop,c6,g6,wJ,fV,bF ht53];refine H0 S hJ λn' c' x' l hst=>?_
  by_cases h:n'<(n:Int)
  ·exact hdead n' c' h x' l hst
  ·have g1:=hst.days;have g2:=hst.due;simp only at g1 g2
   omega
 ·have:=hst.day0;simp only at this
  omega
theorem bPq{job:Int}(hj:isJ p job)(hnew:bit x.done job.toNat=false)(again0:Int->uV->Option (List aF×Bool×uV))(t51:List bK)(t52:Int){t53:Nat}(ht53:t53<9223372036854775807)
  (H0:∀S,J p days old x S0 S->(∀n c,aQu p days old x ⟨job,n,c⟩)->aBp p days old x S0 (again0 ((t53+1:Nat):Int) S))(S:uV)(hS:J p days old x S0 S):
  aBp p days old x S0 (gX againR again0 p days old job t51 t52 t53 (jobAt p job).After ((jobAt p job).After.length:Int) S x (jobAt p job) BIG 0):=by
 have hal:=(hj.small hp).1;have hv:=hj.vj hp;refine uM (S:=Unit) (λk i _=>gX againR again0 p days old job t51 t52 t53 (jobAt p job).After ((jobAt p job).After.length:Int) S x (jobAt p job) k i) (jobAt p job).After.length (aBp p days old x S0)
  (λi _=>i<=(jobAt p job).After.length/\∀a∈(jobAt p job).After.take i,bit x.done a.toNat=true) ?_ ?_ BIG 0 () (cB (by omega)) ⟨by omega,by simp⟩
 ·rintro k i _ hi ⟨_,hall⟩ ih;have hmem:=j9 hi;have ha:=hv.after _ hmem;have hlt:decide ((i:Int)<((jobAt p job).After.length:Int))=true:=by simp;omega
  simp only[gX,hlt,i7,bI hi,c6,bNs x ha.1,bF (show i<9223372036854775807 by omega)];cases hb:bit x.done (jobAt p job).After[i].toNat with
  | true=>
   simp only[l8,g6];refine ih () ⟨by omega,λa h=>?_⟩;rw[p6 hi] at h
   rcases i6.1 h with h|h
   ·exact hall a h
   ·simp at h;rw[h];exact hb
  | false=>
   simp only[n8,i7,fV,bF ht53];refine H0 S hS λn c x' l hst=>?_;have:=hst.after _ hmem;rw[hb] at this;cases this
 ·rintro k i _ hi ⟨hi2,hall⟩;have:i=(jobAt p job).After.length:=by omega
  subst this;have hlt:decide (((jobAt p job).After.length:Int)<((jobAt p job).After.length:Int))=false:=by simp
  simp only[gX,hlt,g6];rw[aC4] at hall;exact bUk hp hdays hold hx hnf S0 againR IH hj hnew hall again0 t51 t52 ht53 H0 S hS
theorem bVk(hS0:bGn p days old S0 (cnt x.done))(S:uV)(hS:J p days old x S0 S):
  aBp p days old x S0 (cP againR p days old p.Jobs (p.Jobs.length:Int) x BIG 0 S):=by
 have hnj:=hp.nj;refine uM (λk i S=>cP againR p days old p.Jobs (p.Jobs.length:Int) x k i S) p.Jobs.length (aBp p days old x S0)
  (λi S=>J p days old x S0 S/\∀j n c,j<(i:Int)->aQu p days old x ⟨j,n,c⟩) ?_ ?_ BIG 0 S (cB (by omega)) ⟨hS,λj n c h x' l hst=>by have:=hst.job.1;simp only at this;omega⟩
 ·rintro k i S hi ⟨hJ,hdead⟩ ih;have hj:isJ p (i:Int):=⟨by omega,by simpa using hi⟩;have hlt:decide ((i:Int)<(p.Jobs.length:Int))=true:=by simp;omega
  have next:∀S',J p days old x S0 S'->(∀n c,aQu p days old x ⟨(i:Int),n,c⟩)->aBp p days old x S0 (cP againR p days old p.Jobs (p.Jobs.length:Int) x k ((i+1:Nat):Int) S'):=by
   intro S' hS' hd;refine ih S' ⟨hS',λj n c h=>?_⟩
   by_cases e:j=i
   ·subst e;exact hd n c
   ·exact hdead j n c (by omega)
  have hii:((i:Int).toNat)=i:=by simp
  have ejob:p.Jobs[i]=jobAt p (i:Int):=by simp[jobAt,List.getD,hi]
  simp only[cP,hlt,i7,bI hi,c6,bNs x hj.1];cases hb:bit x.done (i:Int).toNat with
  | true=>
   simp only[i7,fV,bF (show i<9223372036854775807 by omega)];refine next S hJ λn c x' l hst=>?_;have:=hst.new;simp only at this;rw[hb] at this;cases this
  | false=>
   simp only[g6,ejob];exact bPq hp hdays hold hx hnf S0 againR IH hj hb (cP againR p days old p.Jobs (p.Jobs.length:Int) x k) p.Jobs (p.Jobs.length:Int) (t53:=i) (by omega) next S hJ
 ·rintro k i S hi ⟨hJ,hdead⟩;have hlt:decide ((i:Int)<(p.Jobs.length:Int))=false:=by simp;omega
  simp only[cP,hlt,g6,wI];have hno:∀l,¬aHe p days old x l:=by
   intro l hl;cases l with
   |nil=>exact hnf hl
   | cons s l=>
    obtain⟨_,x',hst,hc⟩:=hl;have hjs:=hst.job;have h1:=hjs.2;have h2:=hjs.1;exact hdead s.Job s.Day s.Court (by omega) x' l hst hc
  refine⟨[],false,S,rfl,(λh=>by cases h),λ_=>⟨rfl,hno,⟨λy hy hc=>?_,hJ.inv.rng⟩,λy hy=>?_⟩⟩
  ·rcases hJ.grow y hy with h|rfl|h
   ·exact hS0.dead y h hc
   ·exact hno
   ·exact hJ.inv.dead y hy h
  ·rcases hJ.grow y hy with h|rfl|h
   ·exact .inl h
   ·exact .inr (n5 _)
   ·exact .inr (by omega)
end
theorem bEf{p:aH}(hp:VP p){days:Int}(hdays:days<=p.Days.length){old:Option (List aF)}(hold:∀l,old=some l->l.length<=9223372036854775807){m0:Int}:∀(kr:Nat) (pre:List aF) (x:aE) (S:uV),
  Rep p old m0 pre x->7<=kr+cnt x.done->bGn p days old S (cnt x.done)->aBp p days old x S (cF kr (dQ.mk p days old) S x)
 | 0,pre,x,S,hx,hk,_=>by
  have:=aTv hx;rw[<-hx.count] at this
  omega
 | kr +1,pre,x,S,hx,hk,hS=>by
  have hnj:=hp.nj;have hchk:chk (decide (0<=(p.Jobs.length:Int)))=some ():=by simp[chk]
  simp only[cF,hchk,c6];rw[show((p.Jobs.length:Int).toNat)=p.Jobs.length by simp]
  by_cases hf:x.done=aHl p
  ·have:decide (x.done=w64 (w64 (1*2^(min p.Jobs.length 64))-1))=true:=by simpa[aHl] using hf
   simp only[this,i7];have hl:=aTv hx;rw[<-hx.count] at hl;exact⟨[],true,S,rfl,λ_=>⟨hf,by simpa using hl⟩,λh=>by cases h⟩
  ·have:decide (x.done=w64 (w64 (1*2^(min p.Jobs.length 64))-1))=false:=by simpa[aHl] using hf
   simp only[this,g6];have hr0:=hS.rng x;have hw:=bYb (bW x 0 S+1);have hget:∀y,bW y 0 (dE x (w64 (bW x 0 S+1)) S)=if y=x then w64 (bW x 0 S+1) else bW y 0 S:=λy=>aBf x y 0 _ S;rw[hget x,if_pos rfl];have rng':∀y,-9223372036854775808<=bW y 0 (dE x (w64 (bW x 0 S+1)) S)/\bW y 0 (dE x (w64 (bW x 0 S+1)) S)<=9223372036854775807:=by
    intro y;rw[hget]
    split
    ·exact hw
    ·exact hS.rng y
   by_cases hseen:1<w64 (bW x 0 S+1)
   ·have h1:1<=bW x 0 S:=by
     by_cases hm:bW x 0 S=9223372036854775807
     ·omega
     ·rw[cV (by omega) (by omega)] at hseen
      omega
    simp only[hseen,j4,i7];have hno:=hS.dead x h1 (n5 _);refine⟨[],false,_,rfl,(λh=>by cases h),λ_=>⟨rfl,hno,⟨λy hy hc=>?_,rng'⟩,λy hy=>?_⟩⟩
    ·by_cases e:y=x
     ·subst e;exact hno
     ·rw[hget,if_neg e] at hy;exact hS.dead y hy hc
    ·by_cases e:y=x
     ·subst e;exact .inr (n5 _)
     ·rw[hget,if_neg e] at hy;exact .inl hy
   ·simp only[hseen,m5,g6];refine bVk hp hdays hold hx hf S (cF kr) (λpre' x' S' hx' hc hS'=>?_) hS _ ⟨⟨λy hy hc=>?_,rng'⟩,λy hy=>?_⟩
    ·rw[<-hc] at hS';exact bEf hp hdays hold kr pre' x' S' hx' (by omega) hS'
    ·by_cases e:y=x
     ·subst e;omega
     ·rw[hget,if_neg e] at hy;exact hS.dead y hy (by omega)
    ·by_cases e:y=x
     ·exact .inr (.inl e)
     ·rw[hget,if_neg e] at hy;exact .inl hy
end Go.Am.Py
end
section
namespace Go.Am.Py
structure Full(p:aH)(days:Int)(old:Option (List aF))(m:Int)(l:List aF):Prop where
 ord:isOrd p l=true
 fits:bFx p l=true
 days:∀s∈l,s.Day<days
 moves:(l.map (mv old)).sum<=m
theorem cAp{p:aH}{l:List aF}(h:Ord p l)(hl:l.length=p.Jobs.length):isOrd p l=true:=by
 simp only[isOrd,f4,gP,l9];refine⟨λi hi=>?_,hl⟩;rw[bC hi];have hs:=h.seat i hi;have hdue:=h.due i hi;simp only[aGp,f4,l6,aE9,k6,l9,aG7,wi];refine⟨⟨⟨⟨⟨⟨hs.job.1,?_⟩,λo ho=>?_⟩,hs.day0,?_⟩,hs.court0,?_⟩,λo ho=>?_⟩,λa ha=>?_⟩
 ·have:=hs.job.2;omega
 ·rw[y9] at ho;obtain⟨j,hj,rfl⟩:=ho;exact h.fresh i hi j (by omega)
 ·have:=hs.day;omega
 ·have:=hs.court;omega
 ·rw[y9] at ho;obtain⟨j,hj,rfl⟩:=ho;exact h.sorted i hi j (by omega)
 ·obtain⟨j,hj,e⟩:=h.after i hi a ha;exact⟨l[j],by rw[y9];exact⟨j,by omega,rfl⟩,e⟩
def bYl(p:aH)(pre:List aF):Prop:=∀o∈pre,fF (gG p pre (gO p) pre.length).2 o.Job<=(nZ p o.Day o.Court).High
theorem bDz{p:aH}{l:List aF}:bFx p l=true↔bYl p l:=by
 unfold bFx bYl;rw[gP]
 constructor
 ·intro h o ho;obtain⟨i,hi,rfl⟩:=n6 ho;have:=h i hi;rw[bC hi] at this;exact aE0 this
 ·intro h i hi;rw[bC hi];exact n7 (h _ (j9 hi))
theorem aWg{p:aH}(hp:VP p){old:Option (List aF)}{m0:Int}{pre:List aF}{x:aE}(h:Rep p old m0 pre x):x.done=aHl p↔pre.length=p.Jobs.length:=by
 obtain⟨d,hd,hdl⟩:=h.done;have hnj:=hp.nj;have hd64:d<64:=u4 hdl (bWw hnj);have h1:=bUb ⟨p.Jobs.length,by omega⟩ ⟨d,hd64⟩ hdl;have h2:=cGg ⟨p.Jobs.length,by omega⟩;simp only at h1 h2;unfold aHl;rw[h2,hd,<-h.count,hd,<-h1]
 omega
theorem bXe{p:aH}(pre:List aF)(s:aF)(hs:isJ p s.Job):(gG p (pre++[s]) (gO p) (pre++[s]).length).2=(gG p pre (gO p) pre.length).2.set s.Job.toNat (eP p pre (gG p pre (gO p) pre.length).2 s+(jobAt p s.Job).Length.High):=by
 have e5:(pre++[s]).length=pre.length+1:=by simp
 rw[e5];have e6:(pre++[s]).getD pre.length default=s:=by simp[List.getD]
 have e7:(pre++[s]).take pre.length=pre:=by simp
 simp only[gG,aFi pre.length (n5 _),e6,e7];have e8:fF (gO p) s.Job=(jobAt p s.Job).Length.High:=by rw[gO,aFu _ hs]
 rw[e8]
theorem bHm{p:aH}(hp:VP p){days:Int}(hdays:days<=p.Days.length){old:Option (List aF)}{m0:Int}:∀(l pre:List aF) (x:aE),Rep p old m0 pre x->bYl p pre->(∀o∈pre,o.Day<days)->
  aHe p days old x l->Full p days old m0 (pre++l)
 | [],pre,x,hx,hf,hd,hc=>by
  rw[aA2];refine⟨cAp hx.ord ((aWg hp hx).1 hc),bDz.2 hf,hd,?_⟩;have:=hx.moves;have:=hx.pos
  omega
 | s ::l,pre,x,hx,hf,hd,⟨_,x',hst,hc⟩=>by
  obtain⟨hx',hs,hend⟩:=hx.step hp hdays hst;have hlen:=zQ (p:=p) (order:=pre) (takes:=gO p) pre.length;have:=bHm hp hdays l (pre++[s]) x' hx' (λo ho=>?_) (λo ho=>?_) hc
  ·simpa using this
  ·rcases i6.1 ho with ho|ho
   ·have hne:o.Job≠s.Job:=λe=>by
     have:=(hx.bits _ hs.job).2 ⟨o,ho,e⟩;rw[hst.new] at this;cases this
    have hoj:isJ p o.Job:=by
     obtain⟨i,hi,rfl⟩:=n6 ho;exact(hx.ord.seat i hi).job
    rw[bXe pre s hs.job,aCd hs.job.1 hoj.1 (aF9 hne)];exact hf o ho
   ·simp at ho;subst ho;exact hend
  ·rcases i6.1 ho with ho|ho
   ·exact hd o ho
   ·simp at ho;subst ho;exact hst.days
theorem bBa(old:Option (List aF))(l:List aF):0<=(l.map (mv old)).sum:=by
 induction l with
 |nil=>simp
 |cons a l ih=>have:=(aTp old a).1;simp;omega
theorem bHl{p:aH}(hp:VP p){days:Int}(hdays:days<=p.Days.length){old:Option (List aF)}{m0:Int}:∀(l pre:List aF) (x:aE),Rep p old m0 pre x->Full p days old m0 (pre++l)->aHe p days old x l
 | [],pre,x,hx,hf=>by
  rw[aA2] at hf;exact(aWg hp hx).2 (Ord_of hf.ord).2
 | s ::l,pre,x,hx,hf=>by
  obtain⟨ho,hol⟩:=Ord_of hf.ord;have hlenA:(pre++s::l).length=pre.length+1+l.length:=by simp;omega
  have hi:pre.length<(pre++s::l).length:=by omega
  have es:(pre++s::l)[pre.length]=s:=by simp
  have ep:∀j (h:j<pre.length),(pre++s::l)[j]'(by omega)=pre[j]:=λj h=>w7 h;have hs:Seat p s:=es▸ho.seat _ hi;have hnd:=hp.nd;have hnf:x.done≠aHl p:=λe=>by
   have:=(aWg hp hx).1 e
   omega
  have hnew:bit x.done s.Job.toNat=false:=by
   cases hb:bit x.done s.Job.toNat with
   |false=>rfl
   | true=>
    obtain⟨o,hom,e⟩:=(hx.bits _ hs.job).1 hb;obtain⟨j,hj,rfl⟩:=n6 hom;have:=ho.fresh _ hi j hj;rw[ep j hj,es] at this;exact absurd e this
  have hafter:∀a∈(jobAt p s.Job).After,bit x.done a.toNat=true:=λa ha=>by
   have hja:isJ p a:=by
    have:=(hs.job.vj hp).after a ha;have:=hs.job.2;exact⟨by omega,by omega⟩
   obtain⟨j,hj,e⟩:=ho.after _ hi a (by rw[es];exact ha);rw[ep j hj] at e;exact(hx.bits a hja).2 ⟨pre[j],j9 _,e⟩
  have hday0:x.day.number<=s.Day:=by
   rcases hx.last with⟨_,e⟩|⟨o,hom,e⟩
   ·rw[e];exact hs.day0
   ·obtain⟨j,hj,rfl⟩:=n6 hom;have:=ho.sorted _ hi j hj;rw[ep j hj,es] at this
    omega
  obtain⟨now,e1,e2,e3,e4⟩:=aWv hp hx hs hday0;have hend:eP p pre (gG p pre (gO p) pre.length).2 s+(jobAt p s.Job).Length.High<=(nZ p s.Day s.Court).High:=by
   have h1:=bDz.1 hf.fits s (by simp);have h2:=(bEy ho (t:=gO p) hi (pre++s::l).length hi (n5 _)).2;rw[es] at h2;have e7:(pre++s::l).take pre.length=pre:=by simp
   rw[e7,aFi pre.length (n5 _),gO,aFu _ hs.job] at h2;rw[<-gO] at h2;rw[h2] at h1;exact h1
  have hmv:=aTp old s;have hsum:=hf.moves;have hl0:=bBa old l;have hp0:=bBa old pre;have hm:=hx.moves;have hm0:=hx.m0;simp only[v7,List.sum_append,j3,List.sum_cons] at hsum;have hxp:=hx.pos;have hw:w64 (x.moves-mv old s)=x.moves-mv old s:=cV (by omega) (by omega);have hst:SStep p days old x s ⟨⟨now.number,now.free.set s.Court (eP p pre (gG p pre (gO p) pre.length).2 s+(jobAt p s.Job).Length.High),now.ends.set s.Job (eP p pre (gG p pre (gO p) pre.length).2 s+(jobAt p s.Job).Length.High)⟩,bOr x.done (w64 (1*2^(min s.Job.toNat 64))),w64 (x.moves-mv old s)⟩:=by
   refine⟨hs.job,hnew,hafter,hday0,hf.days s (by simp),by have:=ho.due _ hi;rw[es] at this;exact this,hs.court0,hs.court,⟨now,_,_,_,e1,e4,hend,rfl⟩,?_⟩;simp only;rw[hw]
   omega
  obtain⟨hx',_,_⟩:=hx.step hp hdays hst;exact⟨hnf,_,hst,bHl hp hdays l (pre++[s]) _ hx' (by simpa using hf)⟩
theorem bRo{p:aH}(hp:VP p){days:Int}(h0:0<=days)(hdays:days<=p.Days.length){old:Option (List aF)}(hold:∀l,old=some l->l.length<=9223372036854775807){moves:Int}(hm0:0<=moves)(hm1:moves<=1000):
  ∃l b,yV p days old moves=some (l,b)/\l.length<=6/\(b=true->Full p days old moves l)/\(b=false->l=[]/\∀l,¬Full p days old moves l):=by
 have hnj:=hp.nj;unfold yV
 by_cases hz:days=0
 ·subst hz;simp only[j4,i7];refine⟨[],_,rfl,by simp,λh=>?_,λh=>⟨rfl,λl hl=>?_⟩⟩
  ·have hj:p.Jobs.length=0:=by simpa using h
   exact⟨by simp[isOrd,hj],by simp[bFx],by simp,by simpa using hm0⟩
  ·have hj:p.Jobs.length≠0:=by
    intro e
    simp[e] at h
   obtain⟨ho,hlen⟩:=Ord_of hl.ord;have hi:0<l.length:=by omega
   have:=hl.days _ (j9 hi);have:=(ho.seat 0 hi).day0
   omega
 ·have hd:decide (days=0)=false:=by simpa using hz
  obtain⟨d0,hd0,od0⟩:=aSr hp (aG5 0) (by simpa using hp.nd0);simp only[hd,g6,hd0,c6];have hrep:Rep p old moves [] ⟨d0,0,moves⟩:=by
   refine⟨⟨by simp,by simp,by simp,by simp,by simp⟩,?_,by simp,.inl ⟨rfl,od0.number⟩,od0.dayP (by simp) _,⟨0,rfl,Nat.pow_pos (by omega)⟩,λj hj=>?_,?_,by simp,hm0,hm1⟩
   ·simp only;rw[od0.number];exact⟨aG5 0,by simpa using hp.nd0⟩
   ·have h6:=hj.six hp;have:=bDo ⟨j.toNat,by omega⟩;simp only at this
    simp[this]
   ·simp only[cnt,aF1];have:((List.range 6).filter λj=>bit 0 j)=[]:=by
     rw[aD7];intro j hj;have:=bDo ⟨j,by simpa using hj⟩;simp only at this
     simp[this]
    rw[this];rfl
  have hc0:cnt (aE.mk d0 0 moves).done=0:=hrep.count;obtain⟨l,b,S',hr,ht,hf⟩:=bEf hp hdays hold BIG [] ⟨d0,0,moves⟩ [] hrep (by unfold BIG;omega) ⟨λy hy=>by simp[bW] at hy,λy=>by simp[bW]⟩;rw[show aAn=cF BIG from rfl,hr];refine⟨l,b,rfl,?_,λhb=>?_,λhb=>⟨(hf hb).1,λl' hl'=>?_⟩⟩
  ·cases b with
   |true=>have:=(ht rfl).2;omega
   |false=>rw[(hf rfl).1];simp
  ·have:=bHm hp hdays l [] _ hrep (λo ho=>by simp at ho) (by simp) (ht hb).1
   simpa using this
  ·exact(hf hb).2.1 l' (bHl hp hdays l' [] _ hrep (by simpa using hl'))
end Go.Am.Py
end
section
namespace Go.Am.Py
theorem Full.mono{p:aH}{days days':Int}{old:Option (List aF)}{m m':Int}{l:List aF}(h:Full p days old m l)(hd:days<=days')(hm:m<=m'):Full p days' old m' l:=
 ⟨h.ord,h.fits,λs hs=>Int.lt_of_lt_of_le (h.days s hs) hd,Int.le_trans h.moves hm⟩
def bGl(p:aH)(n:Int):Prop:=∀m:Int,0<=m->m<n->∀l,¬Full p m none 0 l
def bGw(p:aH)(r:Option (Int×List aF×Bool)):Prop:=
 ∃n l b,r=some (n,l,b)/\l.length<=6/\(b=true->0<=n/\n<=(p.Days.length:Int)/\Full p n none 0 l/\bGl p n)/\(b=false->n=0/\l=[]/\bGl p ((p.Days.length:Int)+1))
theorem best_spec{p:aH}(hp:VP p):bGw p (aKv p):=by
 have hnd:=hp.nd;unfold aKv;rw[cV (by omega) (by omega)];have e:((p.Days.length:Int)+1)=((p.Days.length+1:Nat):Int):=by omega
 rw[e];refine uM (S:=Unit) (λk i _=>uB ((p.Days.length+1:Nat):Int) p k i) (p.Days.length+1) (bGw p) (λi _=>i<=p.Days.length+1/\bGl p i) ?_ ?_ BIG 0 () (cB (by omega)) ⟨by omega,λm h0 hm=>by simp at hm;omega⟩
 ·rintro k i _ hi ⟨_,hno⟩ ih;have hlt:decide ((i:Int)<((p.Days.length+1:Nat):Int))=true:=n7 (by omega);obtain⟨l,b,hr,hl,ht,hf⟩:=bRo hp (days:=i) (by omega) (by omega) (old:=none) (λl h=>by cases h) (aG5 0) (by omega);simp only[uB,hlt,i7,hr,c6,bF (show i<9223372036854775807 by omega)];cases b with
  |true=>exact⟨i,l,true,rfl,hl,(λ_=>⟨by omega,by omega,ht rfl,hno⟩),λh=>by cases h⟩
  | false=>
   refine ih () ⟨by omega,λm h0 hm=>?_⟩
   by_cases hmi:m=i
   ·subst hmi;exact(hf rfl).2
   ·exact hno m h0 (by omega)
 ·rintro k i _ hi ⟨hi2,hno⟩;have hlt:decide ((i:Int)<((p.Days.length+1:Nat):Int))=false:=j6 (by omega);simp only[uB,hlt,g6,aSq];have hi3:(i:Int)=(p.Days.length:Int)+1:=by omega
  exact⟨0,[],false,rfl,by simp,(λh=>by cases h),λ_=>⟨rfl,rfl,hi3▸hno⟩⟩
end Go.Am.Py
end
